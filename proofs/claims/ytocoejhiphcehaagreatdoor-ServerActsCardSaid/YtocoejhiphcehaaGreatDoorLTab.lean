/- The table of powers of ten, from a row's list of laid variables. -/
import Derived.Test.YtocoejhiphcehaaGreatDoorLConvA
import Derived.Test.YtocoejhiphcehaaGreatDoorRows
import Derived.LaidSub
import Derived.MakeChecks
import Derived.Lib.LaidTab
set_option linter.unusedVariables false
set_option maxRecDepth 10000
namespace Go.Ab.Tryz
open Go Go.Ab Go.Proofs Go.RowKit Go.MakeChecks

theorem tab10_of {W : World} {l : List (String × DataW Unit)} (h : laidMetH Tryz.prog l W) (hf : l.filter (fun x => x.1 == "internal/strconv.uint64pow10") = [("internal/strconv.uint64pow10", Go.Proofs.YtocoejhiphcehaaGreatDoor.Rows.laid_internal_strconv_uint64pow10)]) : Tab10 W.heap.size W := by
  have h1 := h.filter (fun x => x.1 == "internal/strconv.uint64pow10")
  rw [hf, laidMetH_plain _ _ _ (by decide +kernel)] at h1
  exact ⟨Lib.tabBelow_of_tabIs (Lib.tabIs_of_head (P := Tryz.prog) (g := 1) (t := 133) (e := 118) (n := 20) (zs := Lib.pow10Tab) (rest := []) (by kernel_rfl) (by kernel_rfl) Tryz.underlying133 Tryz.underlying118 (by kernel_rfl) (by kernel_rfl) h1)⟩

end Go.Ab.Tryz
