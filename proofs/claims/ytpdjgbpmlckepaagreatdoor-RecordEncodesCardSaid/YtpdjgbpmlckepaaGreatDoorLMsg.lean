/- From a row's message to its abstract value. -/
import Derived.Test.YtpdjgbpmlckepaaGreatDoorLArgs
import Derived.Test.YtpdjgbpmlckepaaGreatDoorLEncA
set_option linter.unusedVariables false
set_option linter.unusedSimpArgs false
set_option maxRecDepth 10000
namespace Go.Ab.Tryz
open Go Go.Ab Go.Proofs Go.RowKit

theorem cellsN_2 : Tryz.prog.cellsOf 2 = 1 := by kernel_rfl
theorem cellsN_22 : Tryz.prog.cellsOf 22 = 1 := by kernel_rfl
theorem cellsN_25 : Tryz.prog.cellsOf 25 = 1 := by kernel_rfl
theorem cellsN_24 : Tryz.prog.cellsOf 24 = 3 := by kernel_rfl
theorem cellsN_27 : Tryz.prog.cellsOf 27 = 6 := by kernel_rfl
theorem cellT_27 : Tryz.prog.cellTypes Tryz.prog.depth 27 = some [2, 9, 9, 22, 2, 25] := by kernel_rfl

theorem arg_msg {H : Type} {enc : TypeId × Value → H} {W : World} {base : Nat} {v : Value} {d : DataW H} {p : List MemPlace} (hok : Value.okWide Tryz.prog W .any base 27 v) (h : DataW.Trod enc Tryz.prog W 0 (fun _ => true) true 27 v d p) :
    ∃ m : Msg, VRel (ghost0 W) (.agg m.av) v ∧ m.Small ∧ m.body.length ≤ 9223372036854775807 ∧ -9223372036854775808 ≤ m.id ∧ m.id ≤ 9223372036854775807 ∧ -9223372036854775808 ≤ m.at_ := by
  have hm : maxLen = 9223372036854775807 := by decide
  simp only [Value.okWide, Tryz.underlying27] at hok
  obtain ⟨cs, rfl, hsz, ts, hts, _, hrow⟩ := hok
  rw [cellT_27] at hts; injection hts with hts; subst hts
  rw [cellsN_27] at hsz
  obtain ⟨fuel, h⟩ := h
  obtain ⟨l⟩ := cs
  rcases l with _ | ⟨c0, _ | ⟨c1, _ | ⟨c2, _ | ⟨c3, _ | ⟨c4, _ | ⟨c5, _ | ⟨c6, l⟩⟩⟩⟩⟩⟩⟩ <;> simp at hsz
  obtain ⟨xs, n, _, _, _, hxl, hf⟩ := DataW.trod_struct Tryz.underlying27 h
  obtain ⟨x0, f0⟩ := field_at hf hxl 0 2 0 rfl
  obtain ⟨x1, f1⟩ := field_at hf hxl 1 9 1 rfl
  obtain ⟨x2, f2⟩ := field_at hf hxl 2 24 2 rfl
  obtain ⟨x3, f3⟩ := field_at hf hxl 3 25 5 rfl
  simp only [cellsN_2, cellsN_9, cellsN_24, cellsN_25, Value.cells, List.drop_zero, List.drop_succ_cons, List.take_succ_cons, List.take_zero] at f0 f1 f2 f3
  obtain ⟨id, hid, _, hidw⟩ := DataW.trod_int Tryz.underlying2 f0
  obtain ⟨cls, hcls, _, hclsl⟩ := DataW.trod_string Tryz.underlying9 f1
  obtain ⟨ys, n2, _, _, _, hyl, hg⟩ := DataW.trod_struct Tryz.underlying24 f2
  obtain ⟨y0, g0⟩ := field_at hg hyl 0 9 0 rfl
  obtain ⟨y1, g1⟩ := field_at hg hyl 1 22 1 rfl
  obtain ⟨y2, g2⟩ := field_at hg hyl 2 2 2 rfl
  simp only [cellsN_2, cellsN_9, cellsN_22, List.drop_zero, List.drop_succ_cons, List.take_succ_cons, List.take_zero] at g0 g1 g2
  obtain ⟨fro, hfro, _, hfrol⟩ := DataW.trod_string Tryz.underlying9 g0
  obtain ⟨at_, hat, _, hatw⟩ := DataW.trod_int Tryz.underlying2 g2
  injection hid with hid; injection hcls with hcls; injection hfro with hfro; injection hat with hat
  subst hid; subst hcls; subst hfro; subst hat
  obtain ⟨u3, w3, ok3⟩ := hrow 3 c3 rfl
  obtain ⟨u5, w5, ok5⟩ := hrow 5 c5 rfl
  obtain rfl : 22 = u3 := Option.some.inj w3
  obtain rfl : 25 = u5 := Option.some.inj w5
  obtain ⟨to, t1, t2, t3⟩ := read_strs Tryz.underlying22 Tryz.underlying9 cellsN_9 g1 ok3
  obtain ⟨body, b1, b2⟩ := read_bytes Tryz.underlying25 Tryz.underlying5 cellsN_5 f3 ok5
  rw [hm] at hclsl hfrol
  have hid2 : -9223372036854775808 ≤ id ∧ id ≤ 9223372036854775807 := by simpa [Lit.wf, IntKind.min, IntKind.max, IntKind.signed, IntKind.bits] using hidw
  have hat2 : -9223372036854775808 ≤ at_ ∧ at_ ≤ 9223372036854775807 := by simpa [Lit.wf, IntKind.min, IntKind.max, IntKind.signed, IntKind.bits] using hatw
  refine ⟨⟨id, cls.data.toList, fro.data.toList, to, at_, body⟩, .agg _ _ rfl (fun i => ?_), ⟨hat2.2, by rw [Array.length_toList]; exact hfrol, t2, t3, by rw [Array.length_toList]; exact hclsl⟩, b2, hid2.1, hid2.2, hat2.1⟩
  match i with
  | 0 => exact .int _ _
  | 1 => exact .str _ _ rfl
  | 2 => exact .str _ _ rfl
  | 3 => exact t1
  | 4 => exact .int _ _
  | 5 => exact b1
  | i + 6 => exact .top _


end Go.Ab.Tryz
