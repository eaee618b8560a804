/- Walks: fields of a name. -/
import Derived.Test.YtpdjgbpmlckepaaGreatDoorLHead1
set_option linter.unusedSimpArgs false
set_option linter.unusedVariables false
set_option maxHeartbeats 2000000
set_option maxRecDepth 4000
namespace Go.Ab.Tryz
open Go Go.Ab Go.Proofs
attribute [local irreducible] W Wl Wop TrA WSeq WLoopS FPost DPost RPost WRound DK onEnd
variable {n0 : Nat} {w0 : World} {gl : Nat → List AV} {H : List AO}

/-- Fields, as cells. -/
def fldAV (l : List (List UInt8 × List UInt8)) : List AV := l.flatMap fun f => [.str f.1, .str f.2]
theorem fldAV_len (l : List (List UInt8 × List UInt8)) : (fldAV l).length = l.length * 2 := by
  induction l with
  | nil => rfl
  | cons f l ih => simp only [fldAV, List.flatMap_cons, List.length_append, List.length_cons, List.length_nil] at ih ⊢; rw [ih]; omega
@[simp] theorem belowL_fldAV (n : Nat) (l : List (List UInt8 × List UInt8)) : belowL n (fldAV l) = true := by
  induction l with
  | nil => rfl
  | cons f l ih => simpa [fldAV, belowL, AV.within] using ih
theorem fldAV_cons (f : List UInt8 × List UInt8) (l : List (List UInt8 × List UInt8)) : fldAV (f :: l) = .str f.1 :: .str f.2 :: fldAV l := by simp [fldAV]
theorem fldAV_drop : ∀ (i : Nat) (l : List (List UInt8 × List UInt8)), (fldAV l).drop (i * 2) = fldAV (l.drop i)
  | 0, l => rfl
  | i + 1, [] => by simp [fldAV]
  | i + 1, f :: l => by
    rw [fldAV_cons, show (i + 1) * 2 = i * 2 + 1 + 1 by omega]
    simpa using fldAV_drop i l
theorem fldAV_at {i : Nat} {l : List (List UInt8 × List UInt8)} (h : i < l.length) : ((fldAV l).drop (i * 2)).take 2 = [.str (l.getD i ([], [])).1, .str (l.getD i ([], [])).2] := by
  rw [fldAV_drop, List.drop_eq_getElem_cons h, fldAV_cons]
  simp [h]

/-- The bodies of the fields of a name. -/
def bodies (nm : List UInt8) (l : List (List UInt8 × List UInt8)) : List (List UInt8) := (l.filter fun f => f.1.map lowB = nm).map (·.2)
theorem bodies_append (nm : List UInt8) (a b : List (List UInt8 × List UInt8)) : bodies nm (a ++ b) = bodies nm a ++ bodies nm b := by simp [bodies]
theorem bodies_succ {nm : List UInt8} {l : List (List UInt8 × List UInt8)} {i : Nat} (h : i < l.length) : bodies nm l = bodies nm (l.take i) ++ ((if (l.getD i ([], [])).1.map lowB = nm then [(l.getD i ([], [])).2] else []) ++ bodies nm (l.drop (i + 1))) := by
  conv => lhs; rw [← List.take_append_drop i l, bodies_append, List.drop_eq_getElem_cons h, ← List.singleton_append, bodies_append]
  congr 2
  simp only [bodies, List.getD_eq_getElem?_getD, List.getElem?_eq_getElem h, Option.getD_some, List.filter_cons, List.filter_nil, decide_eq_true_eq]
  split <;> rfl
theorem bodies_take {nm : List UInt8} {l : List (List UInt8 × List UInt8)} {i : Nat} (h : i < l.length) : bodies nm (l.take (i + 1)) = bodies nm (l.take i) ++ (if (l.getD i ([], [])).1.map lowB = nm then [(l.getD i ([], [])).2] else []) := by
  rw [List.take_add_one, bodies_append, List.getElem?_eq_getElem h]
  congr 1
  simp only [bodies, List.getD_eq_getElem?_getD, List.getElem?_eq_getElem h, Option.getD_some, Option.toList_some, List.filter_cons, List.filter_nil, decide_eq_true_eq]
  split <;> rfl

end Go.Ab.Tryz
