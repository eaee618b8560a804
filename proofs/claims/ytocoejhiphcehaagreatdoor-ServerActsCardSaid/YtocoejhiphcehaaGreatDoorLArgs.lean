/- From a row's arguments to their abstract values. -/
import Derived.Test.YtocoejhiphcehaaGreatDoorAbTryz
import Derived.Test.YtocoejhiphcehaaGreatDoorFrF
import Derived.Test.YtocoejhiphcehaaGreatDoorLHeadA
set_option linter.unusedVariables false
set_option linter.unusedSimpArgs false
set_option maxRecDepth 10000
namespace Go.Ab.Tryz
open Go Go.Ab Go.Proofs Go.RowKit

theorem cellsN_9 : Tryz.prog.cellsOf 9 = 1 := by kernel_rfl
theorem cellsN_5 : Tryz.prog.cellsOf 5 = 1 := by kernel_rfl

theorem laidOut : laidOutB Tryz.prog = true := by kernel_rfl

section
variable {H : Type} {enc : TypeId × Value → H} {W : World} {base : Nat} {v : Value} {d : DataW H} {p : List MemPlace}

theorem slice_cells {t e : TypeId} (ht : Tryz.prog.underlying t = some (.slice e)) (hok : Cell.okWide Tryz.prog W .any base t v) : v.cells.toList = [v] := by
  cases v <;> first | rfl | (simp [Cell.okWide, ht, Cell.ok] at hok; done)

theorem arg_bytes (hok : Value.okWide Tryz.prog W .any base 32 v) (h : DataW.Trod enc Tryz.prog W 0 (fun _ => true) true 32 v d p) :
    ∃ s : List UInt8, VRel (ghost0 W) (.sl s.length (bytesAV s) .ro) v ∧ s.length ≤ 9223372036854775807 := by
  simp only [Value.okWide, Tryz.underlying32] at hok
  obtain ⟨fuel, h⟩ := h
  rw [slice_cells Tryz.underlying32 hok] at h
  exact read_bytes Tryz.underlying32 Tryz.underlying5 cellsN_5 h hok

theorem arg_string (hok : Value.okWide Tryz.prog W .any base 9 v) (h : DataW.Trod enc Tryz.prog W 0 (fun _ => true) true 9 v d p) :
    ∃ s : List UInt8, VRel (ghost0 W) (.str s) v ∧ s.length ≤ 9223372036854775807 := by
  have hm : maxLen = 9223372036854775807 := by decide
  simp only [Value.okWide, Tryz.underlying9] at hok
  obtain ⟨fuel, h⟩ := h
  have hc : v.cells.toList = [v] := by cases v <;> first | rfl | (simp [Cell.okWide, Tryz.underlying9, Cell.ok] at hok; done)
  rw [hc] at h
  obtain ⟨s, hs, _, hl⟩ := DataW.trod_string Tryz.underlying9 h
  injection hs with hs
  subst hs
  rw [hm] at hl
  exact ⟨s.data.toList, .str _ _ rfl, by rw [Array.length_toList]; exact hl⟩

end

/-- internal/bytealg.MaxLen. -/
theorem gl_maxLen {W : World} (h : W.ShapedOpen Tryz.prog) : GLInt (glW W) 0 :=
  glInt_of_shaped (t := 3) (zero := #[.int .i64 0]) h (of_decide_eq_true (by kernel_rfl)) (by kernel_rfl) rfl (by kernel_rfl) (by kernel_rfl) Tryz.underlying3

end Go.Ab.Tryz
