/- From a row's arguments to their abstract values. -/
import Derived.Test.YtadghefkbjacjaaGreatDoorAbTryz
import Derived.Test.YtadghefkbjacjaaGreatDoorFrF
import Derived.Test.YtadghefkbjacjaaGreatDoorLHeadA
set_option linter.unusedVariables false
set_option linter.unusedSimpArgs false
set_option maxRecDepth 10000
namespace Go.Ab.Tryz
open Go Go.Ab Go.Proofs Go.RowKit

theorem cellsN_9 : Tryz.prog.cellsOf 9 = 1 := by kernel_rfl
theorem cellsN_5 : Tryz.prog.cellsOf 5 = 1 := by kernel_rfl

theorem cellsN_126 : Tryz.prog.cellsOf 126 = 2 := by kernel_rfl

theorem laidOut : laidOutB Tryz.prog = true := by kernel_rfl

section
variable {H : Type} {enc : TypeId × Value → H} {W : World} {base : Nat} {v : Value} {d : DataW H} {p : List MemPlace}

theorem slice_cells {t e : TypeId} (ht : Tryz.prog.underlying t = some (.slice e)) (hok : Cell.okWide Tryz.prog W .any base t v) : v.cells.toList = [v] := by
  cases v <;> first | rfl | (simp [Cell.okWide, ht, Cell.ok] at hok; done)

theorem arg_bytes (hok : Value.okWide Tryz.prog W .any base 33 v) (h : DataW.Trod enc Tryz.prog W 0 (fun _ => true) true 33 v d p) :
    ∃ s : List UInt8, VRel (ghost0 W) (.sl s.length (bytesAV s) .ro) v ∧ s.length ≤ 9223372036854775807 := by
  simp only [Value.okWide, Tryz.underlying33] at hok
  obtain ⟨fuel, h⟩ := h
  rw [slice_cells Tryz.underlying33 hok] at h
  exact read_bytes Tryz.underlying33 Tryz.underlying5 cellsN_5 h hok

theorem arg_string (hok : Value.okWide Tryz.prog W .any base 9 v) (h : DataW.Trod enc Tryz.prog W 0 (fun _ => true) true 9 v d p) :
    ∃ s : List UInt8, VRel (ghost0 W) (.str s) v ∧ s.length ≤ 9223372036854775807 := by
  have hm : maxLen = 9223372036854775807 := by decide
  simp only [Value.okWide, Tryz.underlying9] at hok
  obtain ⟨fuel, h⟩ := h
  have hc : v.cells.toList = [v] := by cases v <;> first | rfl | (simp [Cell.okWide, Tryz.underlying9, Cell.ok] at hok; done)
  rw [hc] at h
  obtain ⟨s, hs, _, hl⟩ := DataW.trod_string Tryz.underlying9 h
  injection hs with hs
  subst hs
  rw [hm] at hl
  exact ⟨s.data.toList, .str _ _ rfl, by rw [Array.length_toList]; exact hl⟩

theorem arg_fields (hok : Value.okWide Tryz.prog W .any base 120 v) (h : DataW.Trod enc Tryz.prog W 0 (fun _ => true) true 120 v d p) :
    ∃ l : List (List UInt8 × List UInt8), VRel (ghost0 W) (.sl l.length (fldAV l) .ro) v ∧ l.length ≤ 9223372036854775807 ∧ ∀ f ∈ l, f.1.length ≤ 9223372036854775807 ∧ f.2.length ≤ 9223372036854775807 := by
  have hm : maxLen = 9223372036854775807 := by decide
  simp only [Value.okWide, Tryz.underlying120] at hok
  obtain ⟨fuel, h⟩ := h
  rw [slice_cells Tryz.underlying120 hok] at h
  refine read_slice (fun f : List UInt8 × List UInt8 => [.str f.1, .str f.2]) (fun f : List UInt8 × List UInt8 => f.1.length ≤ 9223372036854775807 ∧ f.2.length ≤ 9223372036854775807) Tryz.underlying120 cellsN_126 (by decide) (fun _ => rfl) (fun n cs y hy hsz => ?_) h hok
  obtain ⟨xs, m, _, _, _, hxl, hf⟩ := DataW.trod_struct Tryz.underlying126 hy
  rcases cs with _ | ⟨c0, _ | ⟨c1, _ | ⟨c2, l⟩⟩⟩ <;> simp at hsz
  obtain ⟨x0, f0⟩ := field_at hf hxl 0 9 0 rfl
  obtain ⟨x1, f1⟩ := field_at hf hxl 1 9 1 rfl
  simp only [cellsN_9, List.drop_zero, List.drop_succ_cons, List.take_succ_cons, List.take_zero] at f0 f1
  obtain ⟨a, ha, _, hal⟩ := DataW.trod_string Tryz.underlying9 f0
  obtain ⟨b, hb, _, hbl⟩ := DataW.trod_string Tryz.underlying9 f1
  injection ha with ha; injection hb with hb
  subst ha; subst hb
  rw [hm] at hal hbl
  refine ⟨(a.data.toList, b.data.toList), ⟨by rw [Array.length_toList]; exact hal, by rw [Array.length_toList]; exact hbl⟩, fun i hi => ?_⟩
  match i, hi with
  | 0, _ => exact .str _ _ rfl
  | 1, _ => exact .str _ _ rfl

end

/-- internal/bytealg.MaxLen. -/
theorem gl_maxLen {W : World} (h : W.ShapedOpen Tryz.prog) : GLInt (glW W) 0 :=
  glInt_of_shaped (t := 3) (zero := #[.int .i64 0]) h (of_decide_eq_true (by kernel_rfl)) (by kernel_rfl) rfl (by kernel_rfl) (by kernel_rfl) Tryz.underlying3

end Go.Ab.Tryz
