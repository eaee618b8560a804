/- From a row's command to its abstract value. -/
import Derived.Test.YthdnbgaehkifkaaDoorLArgs
set_option linter.unusedVariables false
set_option linter.unusedSimpArgs false
set_option maxRecDepth 10000
namespace Go.Ab.Tryd
open Go Go.Ab Go.Proofs Go.RowKit

theorem cellsC_2 : Tryd.prog.cellsOf 2 = 1 := by kernel_rfl
theorem cellsC_3 : Tryd.prog.cellsOf 3 = 1 := by kernel_rfl
theorem cellsC_25 : Tryd.prog.cellsOf 25 = 3 := by kernel_rfl
/-- What a command's parts are at most. -/
def CmdBig (t : List UInt8) (m : Int) : Prop := t.length ≤ 9223372036854775807 ∧ -9223372036854775808 ≤ m ∧ m ≤ 9223372036854775807

theorem arg_cmd {H : Type} {enc : TypeId × Value → H} {W : World} {base : Nat} {v : Value} {d : DataW H} {p : List MemPlace} (hok : Value.okWide Tryd.prog W .any base 25 v) (h : DataW.Trod enc Tryd.prog W 0 (fun _ => true) true 25 v d p) :
    ∃ (k : Int) (t : List UInt8) (m : Int), VRel (ghost0 W) (.agg [.int .i64 k, .str t, .int .i64 m]) v ∧ CmdBig t m := by
  have hm : maxLen = 9223372036854775807 := by decide
  simp only [Value.okWide, Tryd.underlying25] at hok
  obtain ⟨cs, rfl, hsz, _⟩ := hok
  rw [cellsC_25] at hsz
  obtain ⟨fuel, h⟩ := h
  obtain ⟨l⟩ := cs
  rcases l with _ | ⟨c0, _ | ⟨c1, _ | ⟨c2, _ | ⟨c3, l⟩⟩⟩⟩ <;> simp at hsz
  obtain ⟨xs, n, _, _, _, hxl, hf⟩ := DataW.trod_struct Tryd.underlying25 h
  obtain ⟨x0, f0⟩ := field_at hf hxl 0 3 0 rfl
  obtain ⟨x1, f1⟩ := field_at hf hxl 1 9 1 rfl
  obtain ⟨x2, f2⟩ := field_at hf hxl 2 2 2 rfl
  simp only [cellsC_2, cellsN_9, cellsC_3, Value.cells, List.drop_zero, List.drop_succ_cons, List.take_succ_cons, List.take_zero] at f0 f1 f2
  obtain ⟨k, hk, _, _⟩ := DataW.trod_int Tryd.underlying3 f0
  obtain ⟨t, ht, _, htl⟩ := DataW.trod_string Tryd.underlying9 f1
  obtain ⟨a, ha, _, haw⟩ := DataW.trod_int Tryd.underlying2 f2
  injection hk with hk; injection ht with ht; injection ha with ha
  subst hk; subst ht; subst ha
  rw [hm] at htl
  have ha2 : -9223372036854775808 ≤ a ∧ a ≤ 9223372036854775807 := by simpa [Lit.wf, IntKind.min, IntKind.max, IntKind.signed, IntKind.bits] using haw
  refine ⟨k, t.data.toList, a, .agg _ _ rfl (fun i => ?_), by rw [Array.length_toList]; exact htl, ha2.1, ha2.2⟩
  match i with
  | 0 => exact .int _ _
  | 1 => exact .str _ _ rfl
  | 2 => exact .int _ _
  | i + 3 => exact .top _

end Go.Ab.Tryd
