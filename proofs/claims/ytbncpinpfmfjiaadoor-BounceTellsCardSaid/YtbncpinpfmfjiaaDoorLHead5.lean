/- Walks: going through a head. -/
import Derived.Test.YtbncpinpfmfjiaaDoorLHead2
import Derived.Test.YtbncpinpfmfjiaaDoorLHead4
import Derived.Test.YtbncpinpfmfjiaaDoorFrE
set_option linter.unusedSimpArgs false
set_option linter.unusedVariables false
set_option maxHeartbeats 2000000
set_option maxRecDepth 4000
namespace Go.Ab.Tryd
open Go Go.Ab Go.Proofs
attribute [local irreducible] W Wl Wop TrA WSeq WLoopS FPost DPost RPost WRound DK onEnd
variable {n0 : Nat} {w0 : World} {gl : Nat → List AV} {H : List AO}
attribute [local simp] belowL_bytesAV

abbrev Flds := List (List UInt8 × List UInt8)
/-- The last field's body grows. -/
def addLast (l : Flds) (s : List UInt8) : Flds := l.take (l.length - 1) ++ [((l.getD (l.length - 1) ([], [])).1, (l.getD (l.length - 1) ([], [])).2 ++ s)]
/-- What one line does. -/
noncomputable def hstep (j : Flds × Nat) (s : List UInt8) : Res (Flds × Nat) (Flds × Nat) Nat :=
  if s.length = 0 then .stop (j.1, j.2 + 2)
  else if (s.getD 0 0).toNat = 32 ∨ (s.getD 0 0).toNat = 9 then (if j.1.length = 0 then .die j.2 else .go (addLast j.1 s, j.2 + (s.length + 2)))
  else match cutAt 58 s with
    | none => .stop j
    | some (x, y) => if tf (NameOk x) then .go (j.1 ++ [(x, y)], j.2 + (s.length + 2)) else .stop j

theorem hstep_used : ∀ (pre : List (List UInt8)) (j j' : Flds × Nat), foldR hstep j pre = .go j' → j'.2 = j.2 + (pre.map fun s => s.length + 2).sum ∧ j'.1.length ≤ j.1.length + pre.length
  | [], j, j', h => by simp only [foldR, Res.go.injEq] at h; subst h; simp
  | s :: pre, j, j', h => by
    have key : ∀ j1, hstep j s = .go j1 → j1.2 = j.2 + (s.length + 2) ∧ j1.1.length ≤ j.1.length + 1 := by
      intro j1 h1
      unfold hstep at h1
      split at h1
      · simp at h1
      · split at h1
        · split at h1
          · simp at h1
          · rename_i hne
            simp only [Res.go.injEq] at h1; subst h1
            refine ⟨rfl, ?_⟩
            simp [addLast]
        · split at h1
          · simp at h1
          · split at h1
            · simp only [Res.go.injEq] at h1; subst h1; exact ⟨rfl, by simp⟩
            · simp at h1
    simp only [foldR] at h
    cases h1 : hstep j s with
    | go j1 =>
      rw [h1] at h
      obtain ⟨a1, a2⟩ := hstep_used pre j1 j' h
      obtain ⟨b1, b2⟩ := key j1 h1
      simp only [List.map_cons, List.sum_cons, List.length_cons]
      omega
    | stop o => rw [h1] at h; simp at h
    | die p => rw [h1] at h; simp at h

theorem hstep_inv : ∀ (pre : List (List UInt8)) (j j' : Flds × Nat), (∀ f ∈ j.1, f.1.length + f.2.length ≤ j.2) → foldR hstep j pre = .go j' → ∀ f ∈ j'.1, f.1.length + f.2.length ≤ j'.2
  | [], j, j', hj, h => by simp only [foldR, Res.go.injEq] at h; subst h; exact hj
  | s :: pre, j, j', hj, h => by
    simp only [foldR] at h
    cases h1 : hstep j s with
    | go j1 =>
      rw [h1] at h
      refine hstep_inv pre j1 j' ?_ h
      unfold hstep at h1
      split at h1
      · simp at h1
      · split at h1
        · split at h1
          · simp at h1
          · rename_i hne
            simp only [Res.go.injEq] at h1; subst h1
            intro f hf
            simp only [addLast, List.mem_append, List.mem_singleton] at hf ⊢
            rcases hf with hf | rfl
            · have := hj f (List.mem_of_mem_take hf); omega
            · have hm : j.1.getD (j.1.length - 1) ([], []) ∈ j.1 := by
                rw [List.getD_eq_getElem?_getD, List.getElem?_eq_getElem (by omega)]; exact List.getElem_mem _
              have := hj _ hm
              simp only [List.length_append]; omega
        · split at h1
          · simp at h1
          · rename_i x y hc
            split at h1
            · simp only [Res.go.injEq] at h1; subst h1
              have hl := cutAt_len hc
              intro f hf
              simp only [List.mem_append, List.mem_singleton] at hf ⊢
              rcases hf with hf | rfl
              · have := hj f hf; omega
              · simp only; omega
            · simp at h1
    | stop o => rw [h1] at h; simp at h
    | die p => rw [h1] at h; simp at h

theorem linesOf_sum (s : List UInt8) : ((linesOf s).map fun x => x.length + 2).sum ≤ s.length := by
  induction hn : s.length using Nat.strongRecOn generalizing s with
  | _ n ih =>
    subst hn
    cases h : crlfAt s with
    | none => rw [linesOf_none h]; simp
    | some p =>
      obtain ⟨x, y⟩ := p
      have hl := crlfAt_len h
      rw [linesOf_some h]
      have := ih y.length (by omega) y rfl
      simp only [List.map_cons, List.sum_cons]
      omega
theorem linesOf_count (s : List UInt8) : (linesOf s).length * 2 ≤ s.length := by
  have h := linesOf_sum s
  have : ∀ l : List (List UInt8), l.length * 2 ≤ (l.map fun x => x.length + 2).sum := by
    intro l
    induction l with
    | nil => simp
    | cons x l ih => simp only [List.length_cons, List.map_cons, List.sum_cons]; omega
  exact Nat.le_trans (this _) h

/-- A head gone through: fields, and how many bytes; none: it is refused. -/
noncomputable def headR (b : List UInt8) : Option (Flds × Nat) := match foldR hstep ([], 0) (linesOf b) with
  | .go j => some j
  | .stop j => some j
  | .die _ => none

theorem setRange_last {l : Flds} {s : List UInt8} {v : List UInt8} (h : 0 < l.length) (hv : v = (l.getD (l.length - 1) ([], [])).2 ++ s) : setRange (fldAV l) ((l.length - 1) * 2 + 1) [.str v] = fldAV (addLast l s) := by
  subst hv
  have h1 : l = l.take (l.length - 1) ++ [l.getD (l.length - 1) ([], [])] := by
    conv => lhs; rw [← List.take_append_drop (l.length - 1) l]
    rw [List.drop_eq_getElem_cons (by omega), List.drop_eq_nil_of_le (by omega)]
    simp [List.getD_eq_getElem?_getD, show l.length - 1 < l.length by omega]
  have hlen : (fldAV (l.take (l.length - 1))).length = (l.length - 1) * 2 := by rw [fldAV_len]; simp
  unfold addLast
  generalize hq : l.getD (l.length - 1) ([], []) = q at *
  generalize hp : l.take (l.length - 1) = p at *
  generalize l.length - 1 = m at *
  subst h1
  have e : fldAV (p ++ [q]) = fldAV p ++ [.str q.1, .str q.2] := by simp [fldAV]
  have e2 : fldAV (p ++ [(q.1, q.2 ++ s)]) = fldAV p ++ [.str q.1, .str (q.2 ++ s)] := by simp [fldAV]
  rw [e, e2]
  unfold setRange
  rw [← hlen, List.take_append, List.drop_append, List.take_of_length_le (by omega), List.drop_eq_nil_of_le (by simp only [List.length_cons, List.length_nil]; omega)]
  have e3 : (fldAV p).length + 1 - (fldAV p).length = 1 := by omega
  have e4 : (fldAV p).length + 1 + [AV.str (q.2 ++ s)].length - (fldAV p).length = 2 := by simp only [List.length_cons, List.length_nil]; omega
  rw [e3, e4]
  simp

theorem fldAV_last {l : Flds} (h : 0 < l.length) : (fldAV l).getD ((l.length - 1) * 2 + 1) .top = .str (l.getD (l.length - 1) ([], [])).2 := by
  have h1 := fldAV_at (l := l) (i := l.length - 1) (by omega)
  have h2 : (((fldAV l).drop ((l.length - 1) * 2)).take 2)[1]? = some (.str (l.getD (l.length - 1) ([], [])).2) := by rw [h1]; rfl
  rw [List.getElem?_take_of_lt (by omega), List.getElem?_drop] at h2
  rw [List.getD_eq_getElem?_getD, h2]; rfl

end Go.Ab.Tryd
