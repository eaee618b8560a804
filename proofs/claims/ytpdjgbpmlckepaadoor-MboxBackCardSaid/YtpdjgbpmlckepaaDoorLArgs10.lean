/- From a row's letters to their abstract value. -/
import Derived.Test.YtpdjgbpmlckepaaDoorLArgs
import Derived.Test.YtpdjgbpmlckepaaDoorLLaw10
set_option linter.unusedVariables false
set_option linter.unusedSimpArgs false
set_option maxRecDepth 10000
namespace Go.Ab.Tryd
open Go Go.Ab Go.Proofs Go.RowKit

theorem cellsN_99 : Tryd.prog.cellsOf 99 = 3 := by kernel_rfl
theorem cellsL_2 : Tryd.prog.cellsOf 2 = 1 := by kernel_rfl
theorem cellsL_22 : Tryd.prog.cellsOf 22 = 1 := by kernel_rfl

theorem arg_letters {H : Type} {enc : TypeId × Value → H} {W : World} {base : Nat} {v : Value} {d : DataW H} {p : List MemPlace} (hok : Value.okWide Tryd.prog W .any base 44 v) (h : DataW.Trod enc Tryd.prog W 0 (fun _ => true) true 44 v d p) :
    ∃ l : List Ltr, VRel (ghost0 W) (.sl l.length (ltrAV l) .ro) v ∧ l.length ≤ 9223372036854775807 ∧ ∀ x ∈ l, x.Big := by
  have hm : maxLen = 9223372036854775807 := by decide
  simp only [Value.okWide, Tryd.underlying44] at hok
  obtain ⟨fuel, h⟩ := h
  rw [slice_cells Tryd.underlying44 hok] at h
  refine read_slice Ltr.cells Ltr.Big Tryd.underlying44 cellsN_99 (by decide) (fun _ => rfl) (fun n cs y hy hsz => ?_) h hok
  obtain ⟨xs, m, _, _, _, hxl, hf⟩ := DataW.trod_struct Tryd.underlying99 hy
  rcases cs with _ | ⟨c0, _ | ⟨c1, _ | ⟨c2, _ | ⟨c3, l⟩⟩⟩⟩ <;> simp at hsz
  obtain ⟨x0, f0⟩ := field_at hf hxl 0 9 0 rfl
  obtain ⟨x1, f1⟩ := field_at hf hxl 1 2 1 rfl
  obtain ⟨x2, f2⟩ := field_at hf hxl 2 22 2 rfl
  simp only [cellsN_9, cellsL_2, cellsL_22, List.drop_zero, List.drop_succ_cons, List.take_succ_cons, List.take_zero] at f0 f1 f2
  obtain ⟨a, ha, _, hal⟩ := DataW.trod_string Tryd.underlying9 f0
  obtain ⟨t, ht, _, htw⟩ := DataW.trod_int Tryd.underlying2 f1
  obtain ⟨b, b1, b2⟩ := read_bytes0 (base := base) Tryd.underlying22 Tryd.underlying5 cellsN_5 f2
  injection ha with ha; injection ht with ht
  subst ha; subst ht
  rw [hm] at hal
  have hat2 : -9223372036854775808 ≤ t ∧ t ≤ 9223372036854775807 := by simpa [Lit.wf, IntKind.min, IntKind.max, IntKind.signed, IntKind.bits] using htw
  refine ⟨⟨a.data.toList, t, b⟩, ⟨by rw [Array.length_toList]; exact hal, b2, hat2.1, hat2.2⟩, fun i hi => ?_⟩
  match i, hi with
  | 0, _ => exact .str _ _ rfl
  | 1, _ => exact .int _ _
  | 2, _ => exact b1

end Go.Ab.Tryd
