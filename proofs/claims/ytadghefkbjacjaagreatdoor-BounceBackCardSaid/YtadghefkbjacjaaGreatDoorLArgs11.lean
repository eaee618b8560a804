/- From a row's envelope to its abstract value. -/
import Derived.Test.YtadghefkbjacjaaGreatDoorLArgs
import Derived.Test.YtadghefkbjacjaaGreatDoorLRefCheck
set_option linter.unusedVariables false
set_option linter.unusedSimpArgs false
set_option maxRecDepth 10000
namespace Go.Ab.Tryz
open Go Go.Ab Go.Proofs Go.RowKit

theorem cellsE_2 : Tryz.prog.cellsOf 2 = 1 := by kernel_rfl
theorem cellsE_25 : Tryz.prog.cellsOf 25 = 1 := by kernel_rfl
theorem cellsE_41 : Tryz.prog.cellsOf 41 = 3 := by kernel_rfl
theorem cellE_41 : Tryz.prog.cellTypes Tryz.prog.depth 41 = some [9, 25, 2] := by kernel_rfl

theorem arg_env {H : Type} {enc : TypeId × Value → H} {W : World} {base : Nat} {v : Value} {d : DataW H} {p : List MemPlace} (hok : Value.okWide Tryz.prog W .any base 41 v) (h : DataW.Trod enc Tryz.prog W 0 (fun _ => true) true 41 v d p) :
    ∃ (fro : List UInt8) (to : List (List UInt8)) (a : Int), VRel (ghost0 W) (.agg [.str fro, .sl to.length (to.map .str) .ro, .int .i64 a]) v ∧ EnvBig fro to a := by
  have hm : maxLen = 9223372036854775807 := by decide
  simp only [Value.okWide, Tryz.underlying41] at hok
  obtain ⟨cs, rfl, hsz, _⟩ := hok
  rw [cellsE_41] at hsz
  obtain ⟨fuel, h⟩ := h
  obtain ⟨l⟩ := cs
  rcases l with _ | ⟨c0, _ | ⟨c1, _ | ⟨c2, _ | ⟨c3, l⟩⟩⟩⟩ <;> simp at hsz
  obtain ⟨xs, n, _, _, _, hxl, hf⟩ := DataW.trod_struct Tryz.underlying41 h
  obtain ⟨x0, f0⟩ := field_at hf hxl 0 9 0 rfl
  obtain ⟨x1, f1⟩ := field_at hf hxl 1 25 1 rfl
  obtain ⟨x2, f2⟩ := field_at hf hxl 2 2 2 rfl
  simp only [cellsE_2, cellsN_9, cellsE_25, Value.cells, List.drop_zero, List.drop_succ_cons, List.take_succ_cons, List.take_zero] at f0 f1 f2
  obtain ⟨fro, hfro, _, hfrol⟩ := DataW.trod_string Tryz.underlying9 f0
  obtain ⟨a, hat, _, hatw⟩ := DataW.trod_int Tryz.underlying2 f2
  injection hfro with hfro; injection hat with hat
  subst hfro; subst hat
  obtain ⟨to, t1, t2, t3⟩ := read_strs0 (base := base) Tryz.underlying25 Tryz.underlying9 cellsN_9 f1
  rw [hm] at hfrol
  have hat2 : -9223372036854775808 ≤ a ∧ a ≤ 9223372036854775807 := by simpa [Lit.wf, IntKind.min, IntKind.max, IntKind.signed, IntKind.bits] using hatw
  refine ⟨fro.data.toList, to, a, .agg _ _ rfl (fun i => ?_), by rw [Array.length_toList]; exact hfrol, t3, t2, hat2.2⟩
  match i with
  | 0 => exact .str _ _ rfl
  | 1 => exact t1
  | 2 => exact .int _ _
  | i + 3 => exact .top _

end Go.Ab.Tryz
