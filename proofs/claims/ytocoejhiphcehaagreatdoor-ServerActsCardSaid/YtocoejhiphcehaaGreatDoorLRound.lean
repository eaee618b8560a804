/- Small rules that several walks share. -/
import Derived.Test.YtocoejhiphcehaaGreatDoorAbTryz
import Derived.Test.YtocoejhiphcehaaGreatDoorFrE
set_option linter.unusedSimpArgs false
set_option linter.unusedVariables false
namespace Go.Ab
section
variable {E : Env} {N : Nat} {ts : List AV} {ds : List ADef} {H : List AO}
open Go Go.RowKit
/-- Cells seen less closely. -/
theorem Shift.cells (i : Nat) {xs ys : List AV} (hH : H[i]? = some (.cells xs)) (hl : ys.length = xs.length) (hv : ∀ g k c, VRel g (xs.getD k .top) c → VRel g (ys.getD k .top) c) : Shift E N ts ds H ts (H.set i (.cells ys)) :=
  fun g0 g w a' hd hl2 hr ha => ⟨g, hl2, Rep.recells hr hH hl (fun b cs T fz _ _ h k => hv _ _ _ (h k)), ha⟩
end
end Go.Ab
namespace Go.Ab.Tryz
open Go Go.Ab Go.Proofs
/-- A round's end; what lies behind is let go. -/
theorem againJ {E : Env} {N : Nat} {Q : APost} {ts : List AV} {ds : List ADef} {H : List AO} {ι : Type} {st : ι → List AV} {Hs : ι → List AO} {inv : ι → Prop} {μ : ι → Nat} {i : ι} (j : ι) (h1 : inv j) (h2 : μ j < μ i) (l : List AO) (h3 : H = Hs j ++ l) (h4 : Shift E N ts ds (Hs j ++ l) (st j) (Hs j) := by exact Shift.auto) : WLoopS E N st ds Hs inv μ i Q .normal ⟨ts, ds⟩ H := by
  subst h3; exact wloopS_normal j h1 h2 h4

theorem tupW {g : Ghost} {xs ys : List AV} {c : Value} (hl : ys.length = xs.length) (h : ∀ i c, VRel g (xs.getD i .top) c → VRel g (ys.getD i .top) c) (r : VRel g (.tup xs) c) : VRel g (.tup ys) c := by
  cases r with
  | tup _ cs h1 h2 => exact .tup _ _ (h1.trans hl.symm) (fun i => h i _ (h2 i))
theorem belowL_strsM (n : Nat) : ∀ l : List (List UInt8), belowL n (l.map .str) = true
  | [] => rfl
  | x :: l => by simp [belowL, AV.within, belowL_strsM n l]
theorem belowL_appM (n : Nat) : ∀ xs ys : List AV, belowL n (xs ++ ys) = (belowL n xs && belowL n ys)
  | [], ys => by simp [belowL]
  | x :: xs, ys => by simp only [List.cons_append, belowL, belowL_appM n xs ys, Bool.and_assoc]

/-- A list of texts that grows; what stands behind it. -/
def rcV (l : List (List UInt8)) (id : Nat) : AV := match l with
  | [] => .sl 0 [] .full
  | x :: l => .sl (x :: l).length ((x :: l).map .str) (.at id (x :: l).length)
def rcT (l : List (List UInt8)) : List AO := match l with
  | [] => []
  | x :: l => [.tail 1 (x :: l).length]
theorem rcV_ro {g : Ghost} {l : List (List UInt8)} {id : Nat} {c : Value} (h : VRel g (rcV l id) c) : VRel g (.sl l.length (l.map .str) .ro) c := by
  cases l with
  | nil => exact sl_ro g c h
  | cons x l => exact sl_ro g c h

end Go.Ab.Tryz
