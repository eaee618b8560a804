/- From a row's jobs to their abstract value. -/
import Derived.Test.YtadghefkbjacjaaGreatDoorLArgs11
import Derived.Test.YtadghefkbjacjaaGreatDoorLLaw23
set_option linter.unusedVariables false
set_option linter.unusedSimpArgs false
set_option maxRecDepth 10000
namespace Go.Ab.Tryz
open Go Go.Ab Go.Proofs Go.RowKit

theorem cellsJ_72 : Tryz.prog.cellsOf 72 = 6 := by kernel_rfl
theorem cellsJ_3 : Tryz.prog.cellsOf 3 = 1 := by kernel_rfl

theorem arg_int64 {H : Type} {enc : TypeId × Value → H} {W : World} {base : Nat} {v : Value} {d : DataW H} {p : List MemPlace} (hok : Value.okWide Tryz.prog W .any base 2 v) (h : DataW.Trod enc Tryz.prog W 0 (fun _ => true) true 2 v d p) :
    ∃ n : Int, VRel (ghost0 W) (.int .i64 n) v ∧ -9223372036854775808 ≤ n ∧ n ≤ 9223372036854775807 := by
  simp only [Value.okWide, Tryz.underlying2] at hok
  obtain ⟨fuel, h⟩ := h
  have hc : v.cells.toList = [v] := by cases v <;> first | rfl | (simp [Cell.okWide, Tryz.underlying2, Cell.ok] at hok; done)
  rw [hc] at h
  obtain ⟨n, hn, _, hw⟩ := DataW.trod_int Tryz.underlying2 h
  injection hn with hn
  subst hn
  have : -9223372036854775808 ≤ n ∧ n ≤ 9223372036854775807 := by simpa [Lit.wf, IntKind.min, IntKind.max, IntKind.signed, IntKind.bits] using hw
  exact ⟨n, .int _ _, this.1, this.2⟩

theorem arg_jobs {H : Type} {enc : TypeId × Value → H} {W : World} {base : Nat} {v : Value} {d : DataW H} {p : List MemPlace} (hok : Value.okWide Tryz.prog W .any base 64 v) (h : DataW.Trod enc Tryz.prog W 0 (fun _ => true) true 64 v d p) :
    ∃ l : List JobA, VRel (ghost0 W) (.sl l.length (jobAV l) .ro) v ∧ l.length ≤ 9223372036854775807 ∧ ∀ x ∈ l, x.Big := by
  have hm : maxLen = 9223372036854775807 := by decide
  simp only [Value.okWide, Tryz.underlying64] at hok
  obtain ⟨fuel, h⟩ := h
  rw [slice_cells Tryz.underlying64 hok] at h
  refine read_slice JobA.cells JobA.Big Tryz.underlying64 cellsJ_72 (by decide) (fun _ => rfl) (fun n cs y hy hsz => ?_) h hok
  obtain ⟨xs, m, _, _, _, hxl, hf⟩ := DataW.trod_struct Tryz.underlying72 hy
  rcases cs with _ | ⟨c0, _ | ⟨c1, _ | ⟨c2, _ | ⟨c3, _ | ⟨c4, _ | ⟨c5, _ | ⟨c6, l⟩⟩⟩⟩⟩⟩⟩ <;> simp at hsz
  obtain ⟨x0, f0⟩ := field_at hf hxl 0 2 0 rfl
  obtain ⟨x1, f1⟩ := field_at hf hxl 1 9 1 rfl
  obtain ⟨x2, f2⟩ := field_at hf hxl 2 3 2 rfl
  obtain ⟨x3, f3⟩ := field_at hf hxl 3 3 3 rfl
  obtain ⟨x4, f4⟩ := field_at hf hxl 4 2 4 rfl
  obtain ⟨x5, f5⟩ := field_at hf hxl 5 3 5 rfl
  simp only [cellsN_9, cellsE_2, cellsJ_3, List.drop_zero, List.drop_succ_cons, List.take_succ_cons, List.take_zero] at f0 f1 f2 f3 f4 f5
  obtain ⟨id, h0, _, _⟩ := DataW.trod_int Tryz.underlying2 f0
  obtain ⟨rc, h1, _, hrl⟩ := DataW.trod_string Tryz.underlying9 f1
  obtain ⟨st, h2, _, _⟩ := DataW.trod_int Tryz.underlying3 f2
  obtain ⟨tr, h3, _, _⟩ := DataW.trod_int Tryz.underlying3 f3
  obtain ⟨nx, h4, _, _⟩ := DataW.trod_int Tryz.underlying2 f4
  obtain ⟨co, h5, _, hcw⟩ := DataW.trod_int Tryz.underlying3 f5
  injection h0 with h0; injection h1 with h1; injection h2 with h2; injection h3 with h3; injection h4 with h4; injection h5 with h5
  subst h0; subst h1; subst h2; subst h3; subst h4; subst h5
  rw [hm] at hrl
  have hco : -9223372036854775808 ≤ co ∧ co ≤ 9223372036854775807 := by simpa [Lit.wf, IntKind.min, IntKind.max, IntKind.signed, IntKind.bits] using hcw
  refine ⟨⟨id, rc.data.toList, st, tr, nx, co⟩, ⟨by rw [Array.length_toList]; exact hrl, hco.1, hco.2⟩, fun i hi => ?_⟩
  match i, hi with
  | 0, _ => exact .int _ _
  | 1, _ => exact .str _ _ rfl
  | 2, _ => exact .int _ _
  | 3, _ => exact .int _ _
  | 4, _ => exact .int _ _
  | 5, _ => exact .int _ _

end Go.Ab.Tryz
