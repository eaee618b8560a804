/- The variables of strconv's errors, from a row's list of laid variables. -/
import Derived.Test.YtadghefkbjacjaaGreatDoorLErrA
import Derived.Test.YtadghefkbjacjaaGreatDoorRows
import Derived.LaidSub
import Derived.MakeChecks
import Derived.Stop.LaidErr
import Derived.LaidLaws
set_option linter.unusedVariables false
set_option maxRecDepth 10000
namespace Go.Ab.Tryz
open Go Go.Ab Go.Proofs Go.RowKit Go.MakeChecks

theorem errStar : "*" ++ "errors.errorString" = "*errors.errorString" := by decide
theorem errName (u : TypeId) (h : Tryz.prog.typeName? 3 u = some "*errors.errorString") : u = 349 :=
  typeName_ptr_named (nm := "errors.errorString") (by rw [errStar]; kernel_rfl) (by kernel_rfl) (by decide) u (by rw [errStar]; exact h)
theorem errIn_of {W : World} {n : String} {g : Nat} {text : List UInt8} {l : List (String × DataW Unit)} (h : laidMetH Tryz.prog l W) (hf : l.filter (fun x => x.1 == n) = [(n, .iface "*errors.errorString" (.ptr (.agg [.lit (.string text)])))])
    (hg : Tryz.prog.globalNamed n = some g) (ht : (Tryz.prog.globals[g]?).map (·.type) = some 133) : g < W.heap.size ∧ ErrIn W g := by
  have h1 := h.filter (fun x => x.1 == n)
  rw [hf, laidMetH_plain _ _ _ (by rfl)] at h1
  obtain ⟨a, s, hv, _, _, _⟩ := laid_sentinel h1 hg ht Tryz.underlying133 errName Tryz.underlying349 Tryz.underlying351 rfl rfl Tryz.underlying9 (by kernel_rfl) (by kernel_rfl)
  have hc := World.var?_cell hg hv 0
  have hlt : g < W.heap.size := by
    rcases Nat.lt_or_ge g W.heap.size with h | h
    · exact h
    · simp [World.cell?, Array.getElem?_eq_none h] at hc
  exact ⟨hlt, _, by simpa using hc, .inr ⟨_, _, rfl⟩⟩
theorem errs_of {W : World} {l : List (String × DataW Unit)} (h : laidMetH Tryz.prog l W) (hf1 : l.filter (fun x => x.1 == "strconv.ErrSyntax") = [("strconv.ErrSyntax", Go.Proofs.YtadghefkbjacjaaGreatDoor.Rows.laid_strconv_ErrSyntax)]) (hf2 : l.filter (fun x => x.1 == "strconv.ErrRange") = [("strconv.ErrRange", Go.Proofs.YtadghefkbjacjaaGreatDoor.Rows.laid_strconv_ErrRange)]) : Errs W.heap.size W := by
  have h1 := errIn_of (g := 1) h hf1 (by kernel_rfl) (by kernel_rfl)
  have h2 := errIn_of (g := 2) h hf2 (by kernel_rfl) (by kernel_rfl)
  exact ⟨fun w hb => errIn_below h1.1 hb h1.2, fun w hb => errIn_below h2.1 hb h2.2⟩

end Go.Ab.Tryz
