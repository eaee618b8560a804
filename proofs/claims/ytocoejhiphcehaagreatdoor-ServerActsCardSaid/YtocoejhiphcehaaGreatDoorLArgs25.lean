/- From a row's pieces, codes and bounds to their abstract values. -/
import Derived.Test.YtocoejhiphcehaaGreatDoorLArgs
import Derived.Test.YtocoejhiphcehaaGreatDoorLBnc6
set_option linter.unusedVariables false
set_option linter.unusedSimpArgs false
set_option maxRecDepth 10000
namespace Go.Ab.Tryz
open Go Go.Ab Go.Proofs Go.RowKit

theorem cellsD_32 : Tryz.prog.cellsOf 32 = 1 := by kernel_rfl
theorem cellsD_3 : Tryz.prog.cellsOf 3 = 1 := by kernel_rfl
theorem cellsD_23 : Tryz.prog.cellsOf 23 = 3 := by kernel_rfl

theorem arg_int {H : Type} {enc : TypeId × Value → H} {W : World} {base : Nat} {v : Value} {d : DataW H} {p : List MemPlace} (hok : Value.okWide Tryz.prog W .any base 3 v) (h : DataW.Trod enc Tryz.prog W 0 (fun _ => true) true 3 v d p) :
    ∃ n : Int, VRel (ghost0 W) (.int .i64 n) v ∧ -9223372036854775808 ≤ n ∧ n ≤ 9223372036854775807 := by
  simp only [Value.okWide, Tryz.underlying3] at hok
  obtain ⟨fuel, h⟩ := h
  have hc : v.cells.toList = [v] := by cases v <;> first | rfl | (simp [Cell.okWide, Tryz.underlying3, Cell.ok] at hok; done)
  rw [hc] at h
  obtain ⟨n, hn, _, hw⟩ := DataW.trod_int Tryz.underlying3 h
  injection hn with hn
  subst hn
  have : -9223372036854775808 ≤ n ∧ n ≤ 9223372036854775807 := by simpa [Lit.wf, IntKind.min, IntKind.max, IntKind.signed, IntKind.bits] using hw
  exact ⟨n, .int _ _, this.1, this.2⟩

theorem arg_bounds {H : Type} {enc : TypeId × Value → H} {W : World} {base : Nat} {v : Value} {d : DataW H} {p : List MemPlace} (hok : Value.okWide Tryz.prog W .any base 23 v) (h : DataW.Trod enc Tryz.prog W 0 (fun _ => true) true 23 v d p) :
    ∃ (t : List UInt8) (k m : Int), VRel (ghost0 W) (.agg [.str t, .int .i64 k, .int .i64 m]) v ∧ t.length ≤ 9223372036854775807 := by
  have hm : maxLen = 9223372036854775807 := by decide
  simp only [Value.okWide, Tryz.underlying23] at hok
  obtain ⟨cs, rfl, hsz, _⟩ := hok
  rw [cellsD_23] at hsz
  obtain ⟨fuel, h⟩ := h
  obtain ⟨l⟩ := cs
  rcases l with _ | ⟨c0, _ | ⟨c1, _ | ⟨c2, _ | ⟨c3, l⟩⟩⟩⟩ <;> simp at hsz
  obtain ⟨xs, n, _, _, _, hxl, hf⟩ := DataW.trod_struct Tryz.underlying23 h
  obtain ⟨x0, f0⟩ := field_at hf hxl 0 9 0 rfl
  obtain ⟨x1, f1⟩ := field_at hf hxl 1 3 1 rfl
  obtain ⟨x2, f2⟩ := field_at hf hxl 2 3 2 rfl
  simp only [cellsN_9, cellsD_3, Value.cells, List.drop_zero, List.drop_succ_cons, List.take_succ_cons, List.take_zero] at f0 f1 f2
  obtain ⟨t, ht, _, htl⟩ := DataW.trod_string Tryz.underlying9 f0
  obtain ⟨k, hk, _, _⟩ := DataW.trod_int Tryz.underlying3 f1
  obtain ⟨a, ha, _, haw⟩ := DataW.trod_int Tryz.underlying3 f2
  injection hk with hk; injection ht with ht; injection ha with ha
  subst hk; subst ht; subst ha
  rw [hm] at htl
  refine ⟨t.data.toList, k, a, .agg _ _ rfl (fun i => ?_), by rw [Array.length_toList]; exact htl⟩
  match i with
  | 0 => exact .str _ _ rfl
  | 1 => exact .int _ _
  | 2 => exact .int _ _
  | i + 3 => exact .top _

theorem arg_pieces {H : Type} {enc : TypeId × Value → H} {W : World} {base : Nat} {v : Value} {d : DataW H} {p : List MemPlace} (hok : Value.okWide Tryz.prog W .any base 24 v) (h : DataW.Trod enc Tryz.prog W 0 (fun _ => true) true 24 v d p) :
    ∃ l : List (List UInt8), VRel (ghost0 W) (.sl l.length (linesAV l) .ro) v ∧ l.length ≤ 9223372036854775807 ∧ ∀ x ∈ l, x.length ≤ 9223372036854775807 := by
  simp only [Value.okWide, Tryz.underlying24] at hok
  obtain ⟨fuel, h⟩ := h
  rw [slice_cells Tryz.underlying24 hok] at h
  have e : ∀ l : List (List UInt8), linesAV l = l.flatMap (fun x => [.sl x.length (bytesAV x) .ro]) := fun l => by induction l with
    | nil => rfl
    | cons x l ih => simp only [linesAV, List.map_cons, List.flatMap_cons, List.singleton_append] at ih ⊢; rw [ih]
  simp only [e]
  refine read_slice (fun x : List UInt8 => [.sl x.length (bytesAV x) .ro]) (fun x => x.length ≤ 9223372036854775807) Tryz.underlying24 cellsD_32 (by decide) (fun _ => rfl) (fun n cs y hy hsz => ?_) h hok
  rcases cs with _ | ⟨c0, _ | ⟨c1, l⟩⟩ <;> simp at hsz
  obtain ⟨b, b1, b2⟩ := read_bytes0 (base := base) Tryz.underlying32 Tryz.underlying5 cellsN_5 hy
  refine ⟨b, b2, fun i hi => ?_⟩
  match i, hi with
  | 0, _ => exact b1

theorem arg_ints {H : Type} {enc : TypeId × Value → H} {W : World} {base : Nat} {v : Value} {d : DataW H} {p : List MemPlace} (hok : Value.okWide Tryz.prog W .any base 25 v) (h : DataW.Trod enc Tryz.prog W 0 (fun _ => true) true 25 v d p) :
    ∃ l : List Int, VRel (ghost0 W) (.sl l.length (l.map (.int .i64)) .ro) v ∧ l.length ≤ 9223372036854775807 ∧ ∀ x ∈ l, -9223372036854775808 ≤ x ∧ x ≤ 9223372036854775807 := by
  simp only [Value.okWide, Tryz.underlying25] at hok
  obtain ⟨fuel, h⟩ := h
  rw [slice_cells Tryz.underlying25 hok] at h
  have e : ∀ l : List Int, l.map (AV.int .i64) = l.flatMap (fun x => [.int .i64 x]) := fun l => by induction l with
    | nil => rfl
    | cons x l ih => simp only [List.map_cons, List.flatMap_cons, List.singleton_append] at ih ⊢; rw [ih]
  simp only [e]
  refine read_slice (fun x : Int => [.int .i64 x]) (fun x => -9223372036854775808 ≤ x ∧ x ≤ 9223372036854775807) Tryz.underlying25 cellsD_3 (by decide) (fun _ => rfl) (fun n cs y hy hsz => ?_) h hok
  rcases cs with _ | ⟨c0, _ | ⟨c1, l⟩⟩ <;> simp at hsz
  obtain ⟨k, hk, _, hw⟩ := DataW.trod_int Tryz.underlying3 hy
  injection hk with hk
  subst hk
  refine ⟨k, by simpa [Lit.wf, IntKind.min, IntKind.max, IntKind.signed, IntKind.bits] using hw, fun i hi => ?_⟩
  match i, hi with
  | 0, _ => exact .int _ _

end Go.Ab.Tryz
