/- The abstract view, part FrE. -/
import Derived.Test.YtocoejhiphcehaaGreatDoorFrD
/- The abstract view, 30: stepping: one rule that goes as far as it can, one that parts at a test. -/
set_option linter.unusedVariables false
set_option linter.unusedSimpArgs false
namespace Go.Ab
open Go Go.RowKit

variable {E : Env} {N : Nat} {rd : Option Nat} {md : Nat → Nat} {Q : APost} {a b : AAct} {H H2 : List AO} {ts ts2 : List AV} {ds : List ADef}

/-! ### Going -/
structure Hold (P : Prop) : Prop where
  out : P


/-! ### Tactics, each once -/
theorem eV {α : Sort _} {x y : α} (h : x = y := by (((first | (simp (disch := omega) only [hh, go_sem, Int.reduceAdd, Int.reduceEq, Int.reduceLE, Int.reduceLT, Int.reduceNeg, Int.reduceSub, Int.reduceToNat, Nat.reduceAdd, Nat.reduceEqDiff, Nat.reduceLT, Nat.reduceLeDiff, Nat.reduceMul, Nat.reduceSub, reduceCtorEq, reduceIte]; try exact rfl) | (simp (disch := omega) only [go_sem, Int.reduceAdd, Int.reduceEq, Int.reduceLE, Int.reduceLT, Int.reduceNeg, Int.reduceSub, Int.reduceToNat, Nat.reduceAdd, Nat.reduceEqDiff, Nat.reduceLT, Nat.reduceLeDiff, Nat.reduceMul, Nat.reduceSub, reduceCtorEq, reduceIte]; try exact rfl))) <;> fail)) : x = y := h
theorem eA {α : Sort _} {x y : α} (h : x = y := by (((first | exact rfl | (simp only [AAct.ev, List.getD_cons_zero, List.getD_cons_succ, constAV, go_sem]; try exact rfl))) <;> fail)) : x = y := h
theorem eArgs {α : Sort _} {x y : α} (h : x = y := by (((simp only [evCallArgs, List.map_cons, List.map_nil, List.nil_append, List.append_nil, List.cons_append, Array.toList, List.toList_toArray, AAct.ev, List.getD_cons_zero, List.getD_cons_succ, constAV, go_sem]; try exact rfl)) <;> fail)) : x = y := h
theorem eSet {α : Sort _} {x y : α} (h : x = y := by (((simp only [List.set_cons_succ, List.set_cons_zero]; exact rfl)) <;> fail)) : x = y := h
theorem eG1 {α : Sort _} {x y : α} (h : x = y := by (((simp only [guardOk, List.getElem?_toArray, List.getElem?_cons_succ, List.getElem?_cons_zero, Option.bind_some, beq_self_eq_true, go_sem, Int.reduceAdd, Int.reduceEq, Int.reduceLE, Int.reduceLT, Int.reduceNeg, Int.reduceSub, Int.reduceToNat, Nat.reduceAdd, Nat.reduceEqDiff, Nat.reduceLT, Nat.reduceLeDiff, Nat.reduceMul, Nat.reduceSub, reduceCtorEq, reduceIte] <;> fail)) <;> fail)) : x = y := h
theorem eG0 {α : Sort _} {x y : α} (h : x = y := by (((simp only [guardOk, List.getElem?_toArray, List.getElem?_cons_succ, List.getElem?_cons_zero, Option.bind_some, Bool.true_beq, Bool.false_beq, go_sem, Int.reduceAdd, Int.reduceEq, Int.reduceLE, Int.reduceLT, Int.reduceNeg, Int.reduceSub, Int.reduceToNat, Nat.reduceAdd, Nat.reduceEqDiff, Nat.reduceLT, Nat.reduceLeDiff, Nat.reduceMul, Nat.reduceSub, reduceCtorEq, reduceIte] <;> fail)) <;> fail)) : x = y := h
theorem eGT {α : Sort _} {x y : α} (h : x = y := by ((first | rfl | (simp only [guardOk, List.getElem?_toArray, List.getElem?_cons_succ, List.getElem?_cons_zero, Option.bind_some, beq_self_eq_true, go_sem, Int.reduceAdd, Int.reduceEq, Int.reduceLE, Int.reduceLT, Int.reduceNeg, Int.reduceSub, Int.reduceToNat, Nat.reduceAdd, Nat.reduceEqDiff, Nat.reduceLT, Nat.reduceLeDiff, Nat.reduceMul, Nat.reduceSub, reduceCtorEq, reduceIte] <;> fail)) <;> fail)) : x = y := h
theorem eP {p : Prop} (h : p := by (((first | trivial | assumption | omega | ((repeat' apply And.intro) <;> (first | trivial | assumption | omega | (simp (disch := omega) only [hh, go_sem, Int.reduceAdd, Int.reduceEq, Int.reduceLE, Int.reduceLT, Int.reduceNeg, Int.reduceSub, Int.reduceToNat, Nat.reduceAdd, Nat.reduceEqDiff, Nat.reduceLT, Nat.reduceLeDiff, Nat.reduceMul, Nat.reduceSub, reduceCtorEq, reduceIte] <;> fail) | (simp (disch := omega) only [go_sem, Int.reduceAdd, Int.reduceEq, Int.reduceLE, Int.reduceLT, Int.reduceNeg, Int.reduceSub, Int.reduceToNat, Nat.reduceAdd, Nat.reduceEqDiff, Nat.reduceLT, Nat.reduceLeDiff, Nat.reduceMul, Nat.reduceSub, reduceCtorEq, reduceIte] <;> fail) | exact rfl | (simp only [List.length_drop, List.length_take, List.length_cons, List.length_nil, List.length_append, List.length_map, bytesAV_len]; omega))))) <;> fail)) : p := h
theorem eHN {α : Sort _} {x y : α} (h : x = y := by (((first | (simp (disch := omega) only [hh, go_sem, Int.reduceAdd, Int.reduceEq, Int.reduceLE, Int.reduceLT, Int.reduceNeg, Int.reduceSub, Int.reduceToNat, Nat.reduceAdd, Nat.reduceEqDiff, Nat.reduceLT, Nat.reduceLeDiff, Nat.reduceMul, Nat.reduceSub, reduceCtorEq, reduceIte] <;> fail) | (simp (disch := omega) only [hh, go_sem, Int.reduceAdd, Int.reduceEq, Int.reduceLE, Int.reduceLT, Int.reduceNeg, Int.reduceSub, Int.reduceToNat, Nat.reduceAdd, Nat.reduceEqDiff, Nat.reduceLT, Nat.reduceLeDiff, Nat.reduceMul, Nat.reduceSub, reduceCtorEq, reduceIte]; exact rfl) | (simp (disch := omega) only [go_sem, Int.reduceAdd, Int.reduceEq, Int.reduceLE, Int.reduceLT, Int.reduceNeg, Int.reduceSub, Int.reduceToNat, Nat.reduceAdd, Nat.reduceEqDiff, Nat.reduceLT, Nat.reduceLeDiff, Nat.reduceMul, Nat.reduceSub, reduceCtorEq, reduceIte] <;> fail) | (simp (disch := omega) only [go_sem, Int.reduceAdd, Int.reduceEq, Int.reduceLE, Int.reduceLT, Int.reduceNeg, Int.reduceSub, Int.reduceToNat, Nat.reduceAdd, Nat.reduceEqDiff, Nat.reduceLT, Nat.reduceLeDiff, Nat.reduceMul, Nat.reduceSub, reduceCtorEq, reduceIte]; exact rfl) | exact rfl)) <;> fail)) : x = y := h
theorem eN {α : Sort _} {x y : α} (h : x = y := by (((first | (simp only [← List.length_eq_zero_iff, ge_iff_le, gt_iff_lt, Int.not_le, Int.not_lt, decide_eq_true_eq, decide_eq_false_iff_not, Bool.not_eq_true, Bool.not_eq_false, Bool.not_eq_true', Bool.not_eq_false', Bool.and_eq_true, Bool.or_eq_true, beq_iff_eq, bne_iff_ne, ne_eq, Bool.true_eq_false, Bool.false_eq_true]; exact rfl) | exact rfl)) <;> fail)) : x = y := h
theorem eRes {α : Sort _} {x y : α} (h : x = y := by (((first | (simp (disch := omega) only [hh, evResults, evResultsL, evResult, go_sem, Int.reduceAdd, Int.reduceEq, Int.reduceLE, Int.reduceLT, Int.reduceNeg, Int.reduceSub, Int.reduceToNat, Nat.reduceAdd, Nat.reduceEqDiff, Nat.reduceLT, Nat.reduceLeDiff, Nat.reduceMul, Nat.reduceSub, reduceCtorEq, reduceIte]; try exact rfl) | (simp (disch := omega) only [evResults, evResultsL, evResult, go_sem, Int.reduceAdd, Int.reduceEq, Int.reduceLE, Int.reduceLT, Int.reduceNeg, Int.reduceSub, Int.reduceToNat, Nat.reduceAdd, Nat.reduceEqDiff, Nat.reduceLT, Nat.reduceLeDiff, Nat.reduceMul, Nat.reduceSub, reduceCtorEq, reduceIte]; try exact rfl))) <;> fail)) : x = y := h
theorem eApp {α : Sort _} {x y : α} (h : x = y := by (((first | (simp (disch := omega) only [hh, evAppend, srcCells, go_sem, Int.reduceAdd, Int.reduceEq, Int.reduceLE, Int.reduceLT, Int.reduceNeg, Int.reduceSub, Int.reduceToNat, Nat.reduceAdd, Nat.reduceEqDiff, Nat.reduceLT, Nat.reduceLeDiff, Nat.reduceMul, Nat.reduceSub, reduceCtorEq, reduceIte]; try exact rfl) | (simp (disch := omega) only [evAppend, srcCells, go_sem, Int.reduceAdd, Int.reduceEq, Int.reduceLE, Int.reduceLT, Int.reduceNeg, Int.reduceSub, Int.reduceToNat, Nat.reduceAdd, Nat.reduceEqDiff, Nat.reduceLT, Nat.reduceLeDiff, Nat.reduceMul, Nat.reduceSub, reduceCtorEq, reduceIte]; try exact rfl))) <;> fail)) : x = y := h
theorem eLit {α : Sort _} {x y : α} (h : x = y := by ((first | exact evHeap_lit2 rfl (by decide +kernel) rfl (by simp only [litTy, List.length_cons, List.length_nil, Nat.reduceLeDiff, go_sem, Int.reduceAdd, Int.reduceEq, Int.reduceLE, Int.reduceLT, Int.reduceNeg, Int.reduceSub, Int.reduceToNat, Nat.reduceAdd, Nat.reduceEqDiff, Nat.reduceLT, Nat.reduceLeDiff, Nat.reduceMul, Nat.reduceSub, reduceCtorEq, reduceIte]) (by simp only [List.map_cons, List.map_nil, Array.toList, AAct.ev, List.getD_cons_zero, List.getD_cons_succ, constAV, go_sem]; exact rfl) (by rfl) | exact evHeap_lit0 rfl (by decide +kernel) rfl (by simp only [litTy, List.length_cons, List.length_nil, Nat.reduceLeDiff, go_sem, Int.reduceAdd, Int.reduceEq, Int.reduceLE, Int.reduceLT, Int.reduceNeg, Int.reduceSub, Int.reduceToNat, Nat.reduceAdd, Nat.reduceEqDiff, Nat.reduceLT, Nat.reduceLeDiff, Nat.reduceMul, Nat.reduceSub, reduceCtorEq, reduceIte]) (by simp only [List.map_cons, List.map_nil, Array.toList, AAct.ev, List.getD_cons_zero, List.getD_cons_succ, constAV, go_sem]; exact rfl) (by rfl)) <;> fail)) : x = y := h

/-- As far as it goes. -/
theorem go {G G' : Prop} (k : G') (e : Hold G' → G := by
    intro k
    (first
      | with_reducible refine w_seq ?_
      | with_reducible refine w_block ?_
      | with_reducible refine w_region ?_
      | with_reducible refine w_skip ?_
      | with_reducible refine w_label ?_
      | with_reducible refine w_exit ?_
      | with_reducible refine w_ret ?_
      | with_reducible refine w_goto ?_
      | with_reducible refine wl_nil ?_
      | with_reducible refine wseq_normal ?_
      | with_reducible refine wseq_exit ?_
      | with_reducible refine wseq_goto ?_
      | with_reducible refine wseq_ret ?_
      | with_reducible refine wseq_panic ?_
      | with_reducible refine wloop_exit ?_
      | with_reducible refine wloop_goto ?_
      | with_reducible refine wloop_ret ?_
      | with_reducible refine wloop_panic ?_
      | with_reducible refine wloopS_exit ?_
      | with_reducible refine wloopS_goto ?_
      | with_reducible refine wloopS_ret ?_
      | with_reducible refine wloopS_panic ?_
      | with_reducible refine then_normal ?_
      | with_reducible refine then_exit ?_
      | with_reducible refine then_goto ?_
      | with_reducible refine then_ret ?_
      | with_reducible refine then_panic ?_
      | with_reducible refine inBlock_normal ?_
      | with_reducible refine inBlock_goto ?_
      | with_reducible refine inBlock_ret ?_
      | with_reducible refine inBlock_panic ?_
      | with_reducible refine inBlock_eq ?_
      | ((with_reducible apply inBlock_ne); (· rfl))
      | ((with_reducible apply wl_pure); (· rfl); (· rfl); (· rfl); (· exact eV); (· exact eSet))
      | ((with_reducible apply wl_guard_t); (· exact eG1))
      | ((with_reducible apply wl_guard_f); (· exact eG0); (· rfl); (· exact eSet))
      | ((with_reducible refine wl_plain ?_ ?_); (· rfl))
      | ((with_reducible apply wop_pure'); (· rfl); (· rfl); (· exact eV); (· exact eSet))
      | ((with_reducible apply wop_heap'); (· rfl); (· rfl); (· exact eLit); (· exact eSet))
      | ((with_reducible apply wop_heap'); (· rfl); (· rfl); (· exact eV); (· exact eSet))
      | ((with_reducible apply wop_convert'); (· rfl); (· rfl); (· (simp (disch := omega) only [go_sem, Int.reduceAdd, Int.reduceEq, Int.reduceLE, Int.reduceLT, Int.reduceNeg, Int.reduceSub, Int.reduceToNat, Nat.reduceAdd, Nat.reduceEqDiff, Nat.reduceLT, Nat.reduceLeDiff, Nat.reduceMul, Nat.reduceSub, reduceCtorEq, reduceIte]; done)); (· exact eV); (· exact eSet))
      | ((with_reducible apply wop_append'); (· rfl); (· rfl); (· rfl); (· rfl); (· (simp only [go_sem]; try exact rfl)); (· rfl); (· exact eApp); (· rfl); (· exact eSet))
      | ((with_reducible apply wop_heap0); (· rfl); (· rfl); (· exact eV))
      | ((with_reducible apply wop_ctr); (· rfl); (· rfl); (· exact eA); (· exact eArgs); (· infer_instance); (· exact eP); (· exact eHN); (· exact eHN); (· rfl); (· exact eSet))
      | ((with_reducible apply wop_ctrp); (· rfl); (· rfl); (· exact eA); (· exact eArgs); (· infer_instance); (· exact eP); (· exact eHN))
      | ((with_reducible apply wop_yld); (· rfl); (· rfl); (· exact eA); (· exact eArgs); (· infer_instance); (· rfl); (· exact eSet))
      | ((with_reducible apply wop_yldp); (· rfl); (· rfl); (· exact eA); (· exact eArgs); (· infer_instance))
      | ((with_reducible apply wop_defer'); (· rfl); (· rfl); (· exact eA); (· exact eArgs); (· rfl))
      | ((with_reducible apply wop_panic); (· rfl); (· exact eA))
      | ((with_reducible apply w_cond_t); (· (simp only [AAct.ev, List.getD_cons_zero, List.getD_cons_succ, constAV, AV.bool.injEq, decide_eq_true_eq, decide_eq_false_iff_not]; first | done | assumption | omega)))
      | ((with_reducible apply w_cond_f); (· (simp only [AAct.ev, List.getD_cons_zero, List.getD_cons_succ, constAV, AV.bool.injEq, decide_eq_true_eq, decide_eq_false_iff_not]; first | done | assumption | omega)))
      | ((with_reducible apply w_drawnA); (· (intro _ h; first | (cases h; done) | (cases h; omega))); (· (simp only [List.length_cons, List.length_nil, Nat.reduceAdd]; exact rfl)))
      | ((with_reducible apply trA_nil))
      | ((with_reducible apply trA_pure); (· exact eGT); (· rfl); (· rfl); (· exact eV); (· exact eSet))
      | ((with_reducible apply trA_offs); (· exact eG0); (· rfl); (· exact eSet))
      | ((with_reducible apply trA_heap); (· exact eGT); (· rfl); (· rfl); (· exact eLit); (· (first | exact fun _ => rfl | (intro hst; exact absurd hst (by decide)))); (· exact eSet))
      | ((with_reducible apply trA_heap); (· exact eGT); (· rfl); (· rfl); (· exact eV); (· (first | exact fun _ => rfl | (intro hst; exact absurd hst (by decide)))); (· exact eSet))
      | ((with_reducible apply trA_heap0s); (· exact eGT); (· rfl); (· rfl); (· first | (simp (disch := omega) only [hh, go_sem, Int.reduceAdd, Int.reduceEq, Int.reduceLE, Int.reduceLT, Int.reduceNeg, Int.reduceSub, Int.reduceToNat, Nat.reduceAdd, Nat.reduceEqDiff, Nat.reduceLT, Nat.reduceLeDiff, Nat.reduceMul, Nat.reduceSub, reduceCtorEq, reduceIte]; with_reducible exact rfl) | (simp (disch := omega) only [go_sem, Int.reduceAdd, Int.reduceEq, Int.reduceLE, Int.reduceLT, Int.reduceNeg, Int.reduceSub, Int.reduceToNat, Nat.reduceAdd, Nat.reduceEqDiff, Nat.reduceLT, Nat.reduceLeDiff, Nat.reduceMul, Nat.reduceSub, reduceCtorEq, reduceIte]; with_reducible exact rfl) | fail))
      | ((with_reducible apply trA_heap0); (· exact eGT); (· rfl); (· rfl); (· exact eV); (· (first | exact fun _ => rfl | (intro hst; exact absurd hst (by decide)))))
      | ((with_reducible apply trA_conv); (· exact eGT); (· rfl); (· rfl); (· (simp (disch := omega) only [go_sem, Int.reduceAdd, Int.reduceEq, Int.reduceLE, Int.reduceLT, Int.reduceNeg, Int.reduceSub, Int.reduceToNat, Nat.reduceAdd, Nat.reduceEqDiff, Nat.reduceLT, Nat.reduceLeDiff, Nat.reduceMul, Nat.reduceSub, reduceCtorEq, reduceIte]; done)); (· exact eV); (· (first | exact fun _ => rfl | (intro hst; exact absurd hst (by decide)))); (· exact eSet))
      | ((with_reducible apply trA_app); (· exact eGT); (· rfl); (· rfl); (· rfl); (· rfl); (· (simp only [go_sem]; try exact rfl)); (· rfl); (· exact eApp); (· rfl); (· exact eSet))
      | ((with_reducible apply trA_ctrs); (· exact eGT); (· rfl); (· rfl); (· exact eA); (· exact eArgs); (· infer_instance); (· exact eP); (· exact eHN); (· rfl); (· exact eSet))
      | ((with_reducible apply trA_ctr); (· exact eGT); (· rfl); (· rfl); (· exact eA); (· exact eArgs); (· infer_instance); (· exact eP); (· exact eHN); (· exact eHN); (· rfl); (· exact eSet))
      | ((with_reducible apply trA_ctrp); (· exact eGT); (· rfl); (· rfl); (· exact eA); (· exact eArgs); (· infer_instance); (· exact eP); (· exact eHN))
      | ((with_reducible apply trA_yld); (· exact eGT); (· rfl); (· rfl); (· exact eA); (· exact eArgs); (· infer_instance); (· rfl); (· exact eSet))
      | ((with_reducible apply dk_normal); (· decide +kernel))
      | ((with_reducible apply dk_panic); (· decide +kernel))
      | ((with_reducible apply fpost_ret); (· exact eRes))
      | ((with_reducible apply fpost_normal); (· exact eRes))
      | ((with_reducible apply fpost_panic))
      | ((with_reducible apply onEnd_ret); (· rfl); (· exact eSet))
      | ((with_reducible apply onEnd_panic))
      | ((with_reducible apply fpost_ret_mark); (· exact eHN); (· exact eHN); (· exact eRes))
      | ((with_reducible apply fpost_normal_mark); (· exact eHN); (· exact eHN); (· exact eRes))
      | ((with_reducible apply fpost_panic_mark); (· exact eHN); (· exact eHN))
      | ((with_reducible apply wround_normal); (· exact eHN); (· exact eHN))
      | ((with_reducible apply rpost_normal); (· exact eHN); (· exact eHN))
      | ((with_reducible apply rpost_ret); (· exact eHN); (· exact eHN))
      | ((with_reducible apply rpost_exit); (· exact eHN); (· exact eHN))
      | ((with_reducible apply rpost_goto); (· exact eHN); (· exact eHN))
      | ((with_reducible apply rpost_panic))
      | ((with_reducible apply dpost_ret); (· exact eRes))
      | ((with_reducible apply dpost_normal); (· exact eRes)))
    repeat' (first
      | with_reducible refine w_seq ?_
      | with_reducible refine w_block ?_
      | with_reducible refine w_region ?_
      | with_reducible refine w_skip ?_
      | with_reducible refine w_label ?_
      | with_reducible refine w_exit ?_
      | with_reducible refine w_ret ?_
      | with_reducible refine w_goto ?_
      | with_reducible refine wl_nil ?_
      | with_reducible refine wseq_normal ?_
      | with_reducible refine wseq_exit ?_
      | with_reducible refine wseq_goto ?_
      | with_reducible refine wseq_ret ?_
      | with_reducible refine wseq_panic ?_
      | with_reducible refine wloop_exit ?_
      | with_reducible refine wloop_goto ?_
      | with_reducible refine wloop_ret ?_
      | with_reducible refine wloop_panic ?_
      | with_reducible refine wloopS_exit ?_
      | with_reducible refine wloopS_goto ?_
      | with_reducible refine wloopS_ret ?_
      | with_reducible refine wloopS_panic ?_
      | with_reducible refine then_normal ?_
      | with_reducible refine then_exit ?_
      | with_reducible refine then_goto ?_
      | with_reducible refine then_ret ?_
      | with_reducible refine then_panic ?_
      | with_reducible refine inBlock_normal ?_
      | with_reducible refine inBlock_goto ?_
      | with_reducible refine inBlock_ret ?_
      | with_reducible refine inBlock_panic ?_
      | with_reducible refine inBlock_eq ?_
      | ((with_reducible apply inBlock_ne); (· rfl))
      | ((with_reducible apply wl_pure); (· rfl); (· rfl); (· rfl); (· exact eV); (· exact eSet))
      | ((with_reducible apply wl_guard_t); (· exact eG1))
      | ((with_reducible apply wl_guard_f); (· exact eG0); (· rfl); (· exact eSet))
      | ((with_reducible refine wl_plain ?_ ?_); (· rfl))
      | ((with_reducible apply wop_pure'); (· rfl); (· rfl); (· exact eV); (· exact eSet))
      | ((with_reducible apply wop_heap'); (· rfl); (· rfl); (· exact eLit); (· exact eSet))
      | ((with_reducible apply wop_heap'); (· rfl); (· rfl); (· exact eV); (· exact eSet))
      | ((with_reducible apply wop_convert'); (· rfl); (· rfl); (· (simp (disch := omega) only [go_sem, Int.reduceAdd, Int.reduceEq, Int.reduceLE, Int.reduceLT, Int.reduceNeg, Int.reduceSub, Int.reduceToNat, Nat.reduceAdd, Nat.reduceEqDiff, Nat.reduceLT, Nat.reduceLeDiff, Nat.reduceMul, Nat.reduceSub, reduceCtorEq, reduceIte]; done)); (· exact eV); (· exact eSet))
      | ((with_reducible apply wop_append'); (· rfl); (· rfl); (· rfl); (· rfl); (· (simp only [go_sem]; try exact rfl)); (· rfl); (· exact eApp); (· rfl); (· exact eSet))
      | ((with_reducible apply wop_heap0); (· rfl); (· rfl); (· exact eV))
      | ((with_reducible apply wop_ctr); (· rfl); (· rfl); (· exact eA); (· exact eArgs); (· infer_instance); (· exact eP); (· exact eHN); (· exact eHN); (· rfl); (· exact eSet))
      | ((with_reducible apply wop_ctrp); (· rfl); (· rfl); (· exact eA); (· exact eArgs); (· infer_instance); (· exact eP); (· exact eHN))
      | ((with_reducible apply wop_yld); (· rfl); (· rfl); (· exact eA); (· exact eArgs); (· infer_instance); (· rfl); (· exact eSet))
      | ((with_reducible apply wop_yldp); (· rfl); (· rfl); (· exact eA); (· exact eArgs); (· infer_instance))
      | ((with_reducible apply wop_defer'); (· rfl); (· rfl); (· exact eA); (· exact eArgs); (· rfl))
      | ((with_reducible apply wop_panic); (· rfl); (· exact eA))
      | ((with_reducible apply w_cond_t); (· (simp only [AAct.ev, List.getD_cons_zero, List.getD_cons_succ, constAV, AV.bool.injEq, decide_eq_true_eq, decide_eq_false_iff_not]; first | done | assumption | omega)))
      | ((with_reducible apply w_cond_f); (· (simp only [AAct.ev, List.getD_cons_zero, List.getD_cons_succ, constAV, AV.bool.injEq, decide_eq_true_eq, decide_eq_false_iff_not]; first | done | assumption | omega)))
      | ((with_reducible apply w_drawnA); (· (intro _ h; first | (cases h; done) | (cases h; omega))); (· (simp only [List.length_cons, List.length_nil, Nat.reduceAdd]; exact rfl)))
      | ((with_reducible apply trA_nil))
      | ((with_reducible apply trA_pure); (· exact eGT); (· rfl); (· rfl); (· exact eV); (· exact eSet))
      | ((with_reducible apply trA_offs); (· exact eG0); (· rfl); (· exact eSet))
      | ((with_reducible apply trA_heap); (· exact eGT); (· rfl); (· rfl); (· exact eLit); (· (first | exact fun _ => rfl | (intro hst; exact absurd hst (by decide)))); (· exact eSet))
      | ((with_reducible apply trA_heap); (· exact eGT); (· rfl); (· rfl); (· exact eV); (· (first | exact fun _ => rfl | (intro hst; exact absurd hst (by decide)))); (· exact eSet))
      | ((with_reducible apply trA_heap0s); (· exact eGT); (· rfl); (· rfl); (· first | (simp (disch := omega) only [hh, go_sem, Int.reduceAdd, Int.reduceEq, Int.reduceLE, Int.reduceLT, Int.reduceNeg, Int.reduceSub, Int.reduceToNat, Nat.reduceAdd, Nat.reduceEqDiff, Nat.reduceLT, Nat.reduceLeDiff, Nat.reduceMul, Nat.reduceSub, reduceCtorEq, reduceIte]; with_reducible exact rfl) | (simp (disch := omega) only [go_sem, Int.reduceAdd, Int.reduceEq, Int.reduceLE, Int.reduceLT, Int.reduceNeg, Int.reduceSub, Int.reduceToNat, Nat.reduceAdd, Nat.reduceEqDiff, Nat.reduceLT, Nat.reduceLeDiff, Nat.reduceMul, Nat.reduceSub, reduceCtorEq, reduceIte]; with_reducible exact rfl) | fail))
      | ((with_reducible apply trA_heap0); (· exact eGT); (· rfl); (· rfl); (· exact eV); (· (first | exact fun _ => rfl | (intro hst; exact absurd hst (by decide)))))
      | ((with_reducible apply trA_conv); (· exact eGT); (· rfl); (· rfl); (· (simp (disch := omega) only [go_sem, Int.reduceAdd, Int.reduceEq, Int.reduceLE, Int.reduceLT, Int.reduceNeg, Int.reduceSub, Int.reduceToNat, Nat.reduceAdd, Nat.reduceEqDiff, Nat.reduceLT, Nat.reduceLeDiff, Nat.reduceMul, Nat.reduceSub, reduceCtorEq, reduceIte]; done)); (· exact eV); (· (first | exact fun _ => rfl | (intro hst; exact absurd hst (by decide)))); (· exact eSet))
      | ((with_reducible apply trA_app); (· exact eGT); (· rfl); (· rfl); (· rfl); (· rfl); (· (simp only [go_sem]; try exact rfl)); (· rfl); (· exact eApp); (· rfl); (· exact eSet))
      | ((with_reducible apply trA_ctrs); (· exact eGT); (· rfl); (· rfl); (· exact eA); (· exact eArgs); (· infer_instance); (· exact eP); (· exact eHN); (· rfl); (· exact eSet))
      | ((with_reducible apply trA_ctr); (· exact eGT); (· rfl); (· rfl); (· exact eA); (· exact eArgs); (· infer_instance); (· exact eP); (· exact eHN); (· exact eHN); (· rfl); (· exact eSet))
      | ((with_reducible apply trA_ctrp); (· exact eGT); (· rfl); (· rfl); (· exact eA); (· exact eArgs); (· infer_instance); (· exact eP); (· exact eHN))
      | ((with_reducible apply trA_yld); (· exact eGT); (· rfl); (· rfl); (· exact eA); (· exact eArgs); (· infer_instance); (· rfl); (· exact eSet))
      | ((with_reducible apply dk_normal); (· decide +kernel))
      | ((with_reducible apply dk_panic); (· decide +kernel))
      | ((with_reducible apply fpost_ret); (· exact eRes))
      | ((with_reducible apply fpost_normal); (· exact eRes))
      | ((with_reducible apply fpost_panic))
      | ((with_reducible apply onEnd_ret); (· rfl); (· exact eSet))
      | ((with_reducible apply onEnd_panic))
      | ((with_reducible apply fpost_ret_mark); (· exact eHN); (· exact eHN); (· exact eRes))
      | ((with_reducible apply fpost_normal_mark); (· exact eHN); (· exact eHN); (· exact eRes))
      | ((with_reducible apply fpost_panic_mark); (· exact eHN); (· exact eHN))
      | ((with_reducible apply wround_normal); (· exact eHN); (· exact eHN))
      | ((with_reducible apply rpost_normal); (· exact eHN); (· exact eHN))
      | ((with_reducible apply rpost_ret); (· exact eHN); (· exact eHN))
      | ((with_reducible apply rpost_exit); (· exact eHN); (· exact eHN))
      | ((with_reducible apply rpost_goto); (· exact eHN); (· exact eHN))
      | ((with_reducible apply rpost_panic))
      | ((with_reducible apply dpost_ret); (· exact eRes))
      | ((with_reducible apply dpost_normal); (· exact eRes)))
    exact k.out) : G := e ⟨k⟩

/-- As far as it goes within one of several pieces. -/
theorem gos {G G' : Prop} (k : G') (e : Hold G' → G := by
    intro k
    (first
      | with_reducible refine w_seq ?_
      | with_reducible refine w_block ?_
      | with_reducible refine w_region ?_
      | with_reducible refine w_skip ?_
      | with_reducible refine w_label ?_
      | with_reducible refine w_exit ?_
      | with_reducible refine w_ret ?_
      | with_reducible refine w_goto ?_
      | with_reducible refine wl_nil ?_
      | with_reducible refine wseq_exit ?_
      | with_reducible refine wseq_goto ?_
      | with_reducible refine wseq_ret ?_
      | with_reducible refine wseq_panic ?_
      | with_reducible refine wloop_exit ?_
      | with_reducible refine wloop_goto ?_
      | with_reducible refine wloop_ret ?_
      | with_reducible refine wloop_panic ?_
      | with_reducible refine wloopS_exit ?_
      | with_reducible refine wloopS_goto ?_
      | with_reducible refine wloopS_ret ?_
      | with_reducible refine wloopS_panic ?_
      | with_reducible refine then_normal ?_
      | with_reducible refine then_exit ?_
      | with_reducible refine then_goto ?_
      | with_reducible refine then_ret ?_
      | with_reducible refine then_panic ?_
      | with_reducible refine inBlock_normal ?_
      | with_reducible refine inBlock_goto ?_
      | with_reducible refine inBlock_ret ?_
      | with_reducible refine inBlock_panic ?_
      | with_reducible refine inBlock_eq ?_
      | ((with_reducible apply inBlock_ne); (· rfl))
      | ((with_reducible apply wl_pure); (· rfl); (· rfl); (· rfl); (· exact eV); (· exact eSet))
      | ((with_reducible apply wl_guard_t); (· exact eG1))
      | ((with_reducible apply wl_guard_f); (· exact eG0); (· rfl); (· exact eSet))
      | ((with_reducible refine wl_plain ?_ ?_); (· rfl))
      | ((with_reducible apply wop_pure'); (· rfl); (· rfl); (· exact eV); (· exact eSet))
      | ((with_reducible apply wop_heap'); (· rfl); (· rfl); (· exact eLit); (· exact eSet))
      | ((with_reducible apply wop_heap'); (· rfl); (· rfl); (· exact eV); (· exact eSet))
      | ((with_reducible apply wop_convert'); (· rfl); (· rfl); (· (simp (disch := omega) only [go_sem, Int.reduceAdd, Int.reduceEq, Int.reduceLE, Int.reduceLT, Int.reduceNeg, Int.reduceSub, Int.reduceToNat, Nat.reduceAdd, Nat.reduceEqDiff, Nat.reduceLT, Nat.reduceLeDiff, Nat.reduceMul, Nat.reduceSub, reduceCtorEq, reduceIte]; done)); (· exact eV); (· exact eSet))
      | ((with_reducible apply wop_append'); (· rfl); (· rfl); (· rfl); (· rfl); (· (simp only [go_sem]; try exact rfl)); (· rfl); (· exact eApp); (· rfl); (· exact eSet))
      | ((with_reducible apply wop_heap0); (· rfl); (· rfl); (· exact eV))
      | ((with_reducible apply wop_ctr); (· rfl); (· rfl); (· exact eA); (· exact eArgs); (· infer_instance); (· exact eP); (· exact eHN); (· exact eHN); (· rfl); (· exact eSet))
      | ((with_reducible apply wop_ctrp); (· rfl); (· rfl); (· exact eA); (· exact eArgs); (· infer_instance); (· exact eP); (· exact eHN))
      | ((with_reducible apply wop_yld); (· rfl); (· rfl); (· exact eA); (· exact eArgs); (· infer_instance); (· rfl); (· exact eSet))
      | ((with_reducible apply wop_yldp); (· rfl); (· rfl); (· exact eA); (· exact eArgs); (· infer_instance))
      | ((with_reducible apply wop_defer'); (· rfl); (· rfl); (· exact eA); (· exact eArgs); (· rfl))
      | ((with_reducible apply wop_panic); (· rfl); (· exact eA))
      | ((with_reducible apply w_cond_t); (· (simp only [AAct.ev, List.getD_cons_zero, List.getD_cons_succ, constAV, AV.bool.injEq, decide_eq_true_eq, decide_eq_false_iff_not]; first | done | assumption | omega)))
      | ((with_reducible apply w_cond_f); (· (simp only [AAct.ev, List.getD_cons_zero, List.getD_cons_succ, constAV, AV.bool.injEq, decide_eq_true_eq, decide_eq_false_iff_not]; first | done | assumption | omega)))
      | ((with_reducible apply w_drawnA); (· (intro _ h; first | (cases h; done) | (cases h; omega))); (· (simp only [List.length_cons, List.length_nil, Nat.reduceAdd]; exact rfl)))
      | ((with_reducible apply trA_nil))
      | ((with_reducible apply trA_pure); (· exact eGT); (· rfl); (· rfl); (· exact eV); (· exact eSet))
      | ((with_reducible apply trA_offs); (· exact eG0); (· rfl); (· exact eSet))
      | ((with_reducible apply trA_heap); (· exact eGT); (· rfl); (· rfl); (· exact eLit); (· (first | exact fun _ => rfl | (intro hst; exact absurd hst (by decide)))); (· exact eSet))
      | ((with_reducible apply trA_heap); (· exact eGT); (· rfl); (· rfl); (· exact eV); (· (first | exact fun _ => rfl | (intro hst; exact absurd hst (by decide)))); (· exact eSet))
      | ((with_reducible apply trA_heap0s); (· exact eGT); (· rfl); (· rfl); (· first | (simp (disch := omega) only [hh, go_sem, Int.reduceAdd, Int.reduceEq, Int.reduceLE, Int.reduceLT, Int.reduceNeg, Int.reduceSub, Int.reduceToNat, Nat.reduceAdd, Nat.reduceEqDiff, Nat.reduceLT, Nat.reduceLeDiff, Nat.reduceMul, Nat.reduceSub, reduceCtorEq, reduceIte]; with_reducible exact rfl) | (simp (disch := omega) only [go_sem, Int.reduceAdd, Int.reduceEq, Int.reduceLE, Int.reduceLT, Int.reduceNeg, Int.reduceSub, Int.reduceToNat, Nat.reduceAdd, Nat.reduceEqDiff, Nat.reduceLT, Nat.reduceLeDiff, Nat.reduceMul, Nat.reduceSub, reduceCtorEq, reduceIte]; with_reducible exact rfl) | fail))
      | ((with_reducible apply trA_heap0); (· exact eGT); (· rfl); (· rfl); (· exact eV); (· (first | exact fun _ => rfl | (intro hst; exact absurd hst (by decide)))))
      | ((with_reducible apply trA_conv); (· exact eGT); (· rfl); (· rfl); (· (simp (disch := omega) only [go_sem, Int.reduceAdd, Int.reduceEq, Int.reduceLE, Int.reduceLT, Int.reduceNeg, Int.reduceSub, Int.reduceToNat, Nat.reduceAdd, Nat.reduceEqDiff, Nat.reduceLT, Nat.reduceLeDiff, Nat.reduceMul, Nat.reduceSub, reduceCtorEq, reduceIte]; done)); (· exact eV); (· (first | exact fun _ => rfl | (intro hst; exact absurd hst (by decide)))); (· exact eSet))
      | ((with_reducible apply trA_app); (· exact eGT); (· rfl); (· rfl); (· rfl); (· rfl); (· (simp only [go_sem]; try exact rfl)); (· rfl); (· exact eApp); (· rfl); (· exact eSet))
      | ((with_reducible apply trA_ctrs); (· exact eGT); (· rfl); (· rfl); (· exact eA); (· exact eArgs); (· infer_instance); (· exact eP); (· exact eHN); (· rfl); (· exact eSet))
      | ((with_reducible apply trA_ctr); (· exact eGT); (· rfl); (· rfl); (· exact eA); (· exact eArgs); (· infer_instance); (· exact eP); (· exact eHN); (· exact eHN); (· rfl); (· exact eSet))
      | ((with_reducible apply trA_ctrp); (· exact eGT); (· rfl); (· rfl); (· exact eA); (· exact eArgs); (· infer_instance); (· exact eP); (· exact eHN))
      | ((with_reducible apply trA_yld); (· exact eGT); (· rfl); (· rfl); (· exact eA); (· exact eArgs); (· infer_instance); (· rfl); (· exact eSet))
      | ((with_reducible apply dk_normal); (· decide +kernel))
      | ((with_reducible apply dk_panic); (· decide +kernel))
      | ((with_reducible apply fpost_ret); (· exact eRes))
      | ((with_reducible apply fpost_normal); (· exact eRes))
      | ((with_reducible apply fpost_panic))
      | ((with_reducible apply onEnd_ret); (· rfl); (· exact eSet))
      | ((with_reducible apply onEnd_panic))
      | ((with_reducible apply fpost_ret_mark); (· exact eHN); (· exact eHN); (· exact eRes))
      | ((with_reducible apply fpost_normal_mark); (· exact eHN); (· exact eHN); (· exact eRes))
      | ((with_reducible apply fpost_panic_mark); (· exact eHN); (· exact eHN))
      | ((with_reducible apply wround_normal); (· exact eHN); (· exact eHN))
      | ((with_reducible apply rpost_normal); (· exact eHN); (· exact eHN))
      | ((with_reducible apply rpost_ret); (· exact eHN); (· exact eHN))
      | ((with_reducible apply rpost_exit); (· exact eHN); (· exact eHN))
      | ((with_reducible apply rpost_goto); (· exact eHN); (· exact eHN))
      | ((with_reducible apply rpost_panic))
      | ((with_reducible apply dpost_ret); (· exact eRes))
      | ((with_reducible apply dpost_normal); (· exact eRes)))
    repeat' (first
      | with_reducible refine w_seq ?_
      | with_reducible refine w_block ?_
      | with_reducible refine w_region ?_
      | with_reducible refine w_skip ?_
      | with_reducible refine w_label ?_
      | with_reducible refine w_exit ?_
      | with_reducible refine w_ret ?_
      | with_reducible refine w_goto ?_
      | with_reducible refine wl_nil ?_
      | with_reducible refine wseq_exit ?_
      | with_reducible refine wseq_goto ?_
      | with_reducible refine wseq_ret ?_
      | with_reducible refine wseq_panic ?_
      | with_reducible refine wloop_exit ?_
      | with_reducible refine wloop_goto ?_
      | with_reducible refine wloop_ret ?_
      | with_reducible refine wloop_panic ?_
      | with_reducible refine wloopS_exit ?_
      | with_reducible refine wloopS_goto ?_
      | with_reducible refine wloopS_ret ?_
      | with_reducible refine wloopS_panic ?_
      | with_reducible refine then_normal ?_
      | with_reducible refine then_exit ?_
      | with_reducible refine then_goto ?_
      | with_reducible refine then_ret ?_
      | with_reducible refine then_panic ?_
      | with_reducible refine inBlock_normal ?_
      | with_reducible refine inBlock_goto ?_
      | with_reducible refine inBlock_ret ?_
      | with_reducible refine inBlock_panic ?_
      | with_reducible refine inBlock_eq ?_
      | ((with_reducible apply inBlock_ne); (· rfl))
      | ((with_reducible apply wl_pure); (· rfl); (· rfl); (· rfl); (· exact eV); (· exact eSet))
      | ((with_reducible apply wl_guard_t); (· exact eG1))
      | ((with_reducible apply wl_guard_f); (· exact eG0); (· rfl); (· exact eSet))
      | ((with_reducible refine wl_plain ?_ ?_); (· rfl))
      | ((with_reducible apply wop_pure'); (· rfl); (· rfl); (· exact eV); (· exact eSet))
      | ((with_reducible apply wop_heap'); (· rfl); (· rfl); (· exact eLit); (· exact eSet))
      | ((with_reducible apply wop_heap'); (· rfl); (· rfl); (· exact eV); (· exact eSet))
      | ((with_reducible apply wop_convert'); (· rfl); (· rfl); (· (simp (disch := omega) only [go_sem, Int.reduceAdd, Int.reduceEq, Int.reduceLE, Int.reduceLT, Int.reduceNeg, Int.reduceSub, Int.reduceToNat, Nat.reduceAdd, Nat.reduceEqDiff, Nat.reduceLT, Nat.reduceLeDiff, Nat.reduceMul, Nat.reduceSub, reduceCtorEq, reduceIte]; done)); (· exact eV); (· exact eSet))
      | ((with_reducible apply wop_append'); (· rfl); (· rfl); (· rfl); (· rfl); (· (simp only [go_sem]; try exact rfl)); (· rfl); (· exact eApp); (· rfl); (· exact eSet))
      | ((with_reducible apply wop_heap0); (· rfl); (· rfl); (· exact eV))
      | ((with_reducible apply wop_ctr); (· rfl); (· rfl); (· exact eA); (· exact eArgs); (· infer_instance); (· exact eP); (· exact eHN); (· exact eHN); (· rfl); (· exact eSet))
      | ((with_reducible apply wop_ctrp); (· rfl); (· rfl); (· exact eA); (· exact eArgs); (· infer_instance); (· exact eP); (· exact eHN))
      | ((with_reducible apply wop_yld); (· rfl); (· rfl); (· exact eA); (· exact eArgs); (· infer_instance); (· rfl); (· exact eSet))
      | ((with_reducible apply wop_yldp); (· rfl); (· rfl); (· exact eA); (· exact eArgs); (· infer_instance))
      | ((with_reducible apply wop_defer'); (· rfl); (· rfl); (· exact eA); (· exact eArgs); (· rfl))
      | ((with_reducible apply wop_panic); (· rfl); (· exact eA))
      | ((with_reducible apply w_cond_t); (· (simp only [AAct.ev, List.getD_cons_zero, List.getD_cons_succ, constAV, AV.bool.injEq, decide_eq_true_eq, decide_eq_false_iff_not]; first | done | assumption | omega)))
      | ((with_reducible apply w_cond_f); (· (simp only [AAct.ev, List.getD_cons_zero, List.getD_cons_succ, constAV, AV.bool.injEq, decide_eq_true_eq, decide_eq_false_iff_not]; first | done | assumption | omega)))
      | ((with_reducible apply w_drawnA); (· (intro _ h; first | (cases h; done) | (cases h; omega))); (· (simp only [List.length_cons, List.length_nil, Nat.reduceAdd]; exact rfl)))
      | ((with_reducible apply trA_nil))
      | ((with_reducible apply trA_pure); (· exact eGT); (· rfl); (· rfl); (· exact eV); (· exact eSet))
      | ((with_reducible apply trA_offs); (· exact eG0); (· rfl); (· exact eSet))
      | ((with_reducible apply trA_heap); (· exact eGT); (· rfl); (· rfl); (· exact eLit); (· (first | exact fun _ => rfl | (intro hst; exact absurd hst (by decide)))); (· exact eSet))
      | ((with_reducible apply trA_heap); (· exact eGT); (· rfl); (· rfl); (· exact eV); (· (first | exact fun _ => rfl | (intro hst; exact absurd hst (by decide)))); (· exact eSet))
      | ((with_reducible apply trA_heap0s); (· exact eGT); (· rfl); (· rfl); (· first | (simp (disch := omega) only [hh, go_sem, Int.reduceAdd, Int.reduceEq, Int.reduceLE, Int.reduceLT, Int.reduceNeg, Int.reduceSub, Int.reduceToNat, Nat.reduceAdd, Nat.reduceEqDiff, Nat.reduceLT, Nat.reduceLeDiff, Nat.reduceMul, Nat.reduceSub, reduceCtorEq, reduceIte]; with_reducible exact rfl) | (simp (disch := omega) only [go_sem, Int.reduceAdd, Int.reduceEq, Int.reduceLE, Int.reduceLT, Int.reduceNeg, Int.reduceSub, Int.reduceToNat, Nat.reduceAdd, Nat.reduceEqDiff, Nat.reduceLT, Nat.reduceLeDiff, Nat.reduceMul, Nat.reduceSub, reduceCtorEq, reduceIte]; with_reducible exact rfl) | fail))
      | ((with_reducible apply trA_heap0); (· exact eGT); (· rfl); (· rfl); (· exact eV); (· (first | exact fun _ => rfl | (intro hst; exact absurd hst (by decide)))))
      | ((with_reducible apply trA_conv); (· exact eGT); (· rfl); (· rfl); (· (simp (disch := omega) only [go_sem, Int.reduceAdd, Int.reduceEq, Int.reduceLE, Int.reduceLT, Int.reduceNeg, Int.reduceSub, Int.reduceToNat, Nat.reduceAdd, Nat.reduceEqDiff, Nat.reduceLT, Nat.reduceLeDiff, Nat.reduceMul, Nat.reduceSub, reduceCtorEq, reduceIte]; done)); (· exact eV); (· (first | exact fun _ => rfl | (intro hst; exact absurd hst (by decide)))); (· exact eSet))
      | ((with_reducible apply trA_app); (· exact eGT); (· rfl); (· rfl); (· rfl); (· rfl); (· (simp only [go_sem]; try exact rfl)); (· rfl); (· exact eApp); (· rfl); (· exact eSet))
      | ((with_reducible apply trA_ctrs); (· exact eGT); (· rfl); (· rfl); (· exact eA); (· exact eArgs); (· infer_instance); (· exact eP); (· exact eHN); (· rfl); (· exact eSet))
      | ((with_reducible apply trA_ctr); (· exact eGT); (· rfl); (· rfl); (· exact eA); (· exact eArgs); (· infer_instance); (· exact eP); (· exact eHN); (· exact eHN); (· rfl); (· exact eSet))
      | ((with_reducible apply trA_ctrp); (· exact eGT); (· rfl); (· rfl); (· exact eA); (· exact eArgs); (· infer_instance); (· exact eP); (· exact eHN))
      | ((with_reducible apply trA_yld); (· exact eGT); (· rfl); (· rfl); (· exact eA); (· exact eArgs); (· infer_instance); (· rfl); (· exact eSet))
      | ((with_reducible apply dk_normal); (· decide +kernel))
      | ((with_reducible apply dk_panic); (· decide +kernel))
      | ((with_reducible apply fpost_ret); (· exact eRes))
      | ((with_reducible apply fpost_normal); (· exact eRes))
      | ((with_reducible apply fpost_panic))
      | ((with_reducible apply onEnd_ret); (· rfl); (· exact eSet))
      | ((with_reducible apply onEnd_panic))
      | ((with_reducible apply fpost_ret_mark); (· exact eHN); (· exact eHN); (· exact eRes))
      | ((with_reducible apply fpost_normal_mark); (· exact eHN); (· exact eHN); (· exact eRes))
      | ((with_reducible apply fpost_panic_mark); (· exact eHN); (· exact eHN))
      | ((with_reducible apply wround_normal); (· exact eHN); (· exact eHN))
      | ((with_reducible apply rpost_normal); (· exact eHN); (· exact eHN))
      | ((with_reducible apply rpost_ret); (· exact eHN); (· exact eHN))
      | ((with_reducible apply rpost_exit); (· exact eHN); (· exact eHN))
      | ((with_reducible apply rpost_goto); (· exact eHN); (· exact eHN))
      | ((with_reducible apply rpost_panic))
      | ((with_reducible apply dpost_ret); (· exact eRes))
      | ((with_reducible apply dpost_normal); (· exact eRes)))
    exact k.out) : G := e ⟨k⟩

/-- Two ways. -/
theorem br {G p q G1 G2 : Prop} (h1 : p → G1) (h2 : q → G2) (e : Hold (p → G1) → Hold (q → G2) → G := by
    intro k1 k2
    first
      | ((with_reducible apply w_cond_br); (· (simp only [AAct.ev, List.getD_cons_zero, List.getD_cons_succ, constAV, go_sem]; try exact rfl)); (· exact eN); (· exact eN); (· exact k1.out); (· exact k2.out))
      | ((with_reducible apply wl_split_br); (· rfl); (· (simp only [List.getElem?_toArray, List.getElem?_cons_succ, List.getElem?_cons_zero, Option.bind_some]; try exact rfl)); (· (simp only [List.getD_cons_zero, List.getD_cons_succ]; try exact rfl)); (· exact eSet); (· exact eSet); (· exact eN); (· exact eN); (· exact k1.out); (· exact k2.out))
      | ((with_reducible apply trA_split_br); (· rfl); (· (simp only [List.getElem?_toArray, List.getElem?_cons_succ, List.getElem?_cons_zero, Option.bind_some]; try exact rfl)); (· (simp only [List.getD_cons_zero, List.getD_cons_succ]; try exact rfl)); (· exact eSet); (· exact eSet); (· exact eN); (· exact eN); (· exact k1.out); (· exact k2.out))
      | ((with_reducible apply wop_ctrif_br); (· rfl); (· rfl); (· exact eA); (· exact eArgs); (· infer_instance); (· exact eP); (· exact eN); (· exact eN); (· exact eHN); (· exact eHN); (· exact k1.out); (· exact k2.out))) : G := e ⟨h1⟩ ⟨h2⟩

theorem Shift.fgt_drop {l : List AO} (h : Ab.fgt ts ts2) (hgl : ∀ i, belowL N (E.gl i) = true) (hn : N ≤ H.length) (hf : Fit H.length H) (ht : belowL H.length ts2 = true) (hds : ds.all (·.within H.length) = true) : Shift E N ts ds (H ++ l) ts2 H := (Shift.fgt h).trans (Shift.drop l hgl hn hf ht hds)

/-- Another view, found. -/
theorem Shift.auto (h : Shift E N ts ds H ts2 H2 := by
    first
      | exact Shift.fgt (by repeat (first | exact fgt_nil | refine fgt_top ?_ | refine fgt_same rfl ?_ | refine fgt_same (by simp (disch := omega) only [wrap_i64, wrap_u8, wrap_u64, wrap_i32, Int.natCast_add, Int.natCast_one, Int.cast_ofNat_Int, byteAV]) ?_))
      | exact Shift.fgt_drop (by repeat (first | exact fgt_nil | refine fgt_top ?_ | refine fgt_same rfl ?_ | refine fgt_same (by simp (disch := omega) only [wrap_i64, wrap_u8, wrap_u64, wrap_i32, Int.natCast_add, Int.natCast_one, Int.cast_ofNat_Int, byteAV]) ?_)) (by assumption) (by (try simp only [List.append_assoc, List.cons_append, List.nil_append, Nat.add_assoc, Nat.reduceAdd, getE, getE0, setE, setE0, List.getElem?_cons_succ, List.getElem?_cons_zero, List.set_cons_succ, List.set_cons_zero, List.length_append, List.length_cons, List.length_nil, Nat.zero_add, List.length_set]); omega) (by ((try simp only [List.append_assoc, List.cons_append, List.nil_append, Nat.add_assoc, Nat.reduceAdd, getE, getE0, setE, setE0, List.getElem?_cons_succ, List.getElem?_cons_zero, List.set_cons_succ, List.set_cons_zero, List.length_append, List.length_cons, List.length_nil, Nat.zero_add, List.length_set]); repeat' (first | exact fit_nil | assumption | (refine fit_cons (by (first | rfl | (simp [AO.within, belowL, AV.within, cellsOf, AE.within]; done) | (simp [AO.within, belowL, AV.within, cellsOf, AE.within]; omega) | fail)) ?_) | ((refine Fit.mono ?_ (by assumption)); (try simp only [List.append_assoc, List.cons_append, List.nil_append, Nat.add_assoc, Nat.reduceAdd, getE, getE0, setE, setE0, List.getElem?_cons_succ, List.getElem?_cons_zero, List.set_cons_succ, List.set_cons_zero, List.length_append, List.length_cons, List.length_nil, Nat.zero_add, List.length_set]); omega) | refine Fit.append ?_ ?_ | fail))) (by first | rfl | (simp [belowL, AV.within]; done) | (simp [belowL, AV.within]; omega)) (by first | rfl | (simp [belowL, AV.within]; done) | (simp [belowL, AV.within]; omega))) : Shift E N ts ds H ts2 H2 := h

/-- Between two pieces: temporaries forgotten, what lies behind let go. -/
theorem cutTo {y : Code} (ks : List Nat) {l : List AO} (h : W E N rd md y Q ⟨ts2, ds⟩ H) (hts : ks.foldl (fun ts k => ts.set k .top) ts = ts2 := by (simp only [List.foldl_cons, List.foldl_nil, List.set_cons_succ, List.set_cons_zero]; exact rfl)) (hs : Shift E N ts ds (H ++ l) ts2 H := by exact Shift.auto) : WSeq E N rd md y Q .normal ⟨ts, ds⟩ (H ++ l) := wseq_shift hs h
/-- A function's contract, from its body. -/
theorem enter {f : FuncId} {fn : Func} {c : Code} {args : List AV} {R : AE → List AO → Prop} (hf : E.P.funcs[f]? = some fn) (h : Fit H.length H → (∀ i, belowL H.length (E.gl i) = true) → W E H.length none md c (FPost E H.length fn R) ⟨ts, []⟩ H)
    (hn : (fn.name == "runtime.NumGoroutine") = false := by rfl) (hb : fn.body = some c := by rfl) (hts : args ++ List.replicate (fn.ntmps - args.length) .top = ts := by (simp only [go_sem, List.length_cons, List.length_nil, Nat.reduceAdd, Nat.reduceSub, List.reduceReplicate, List.cons_append, List.nil_append]; exact rfl)) : AEnter E f args H R :=
  AEnter.go2 md hf hn hb hts h

/-- A loop, its head looked at through another view. -/
theorem loop {c : Code} {ι : Type} (st : ι → List AV) (Hs : ι → List AO) (inv : ι → Prop) (μ : ι → Nat) (i0 : ι) (h0 : inv i0)
    (round : ∀ i, inv i → W E N rd md c (WLoopS E N st ds Hs inv μ i Q) ⟨st i, ds⟩ (Hs i)) (h1 : Shift E N ts ds H (st i0) (Hs i0) := by exact Shift.auto) : W E N rd md (.loop c) Q ⟨ts, ds⟩ H := w_loopS st Hs inv μ i0 h0 h1 round
/-- A loop that leaves memory as it is. -/
theorem loop0 {c : Code} {ι : Type} (st : ι → List AV) (inv : ι → Prop) (μ : ι → Nat) (i0 : ι) (h0 : inv i0)
    (round : ∀ i, inv i → W E N rd md c (WLoopS E N st ds (fun _ => H) inv μ i Q) ⟨st i, ds⟩ H) (h1 : Shift E N ts ds H (st i0) H := by exact Shift.auto) : W E N rd md (.loop c) Q ⟨ts, ds⟩ H := w_loopS st (fun _ => H) inv μ i0 h0 h1 round
/-- A round's end. -/
theorem again {ι : Type} {st : ι → List AV} {Hs : ι → List AO} {inv : ι → Prop} {μ : ι → Nat} {i : ι} (j : ι) (h1 : inv j) (h2 : μ j < μ i := by omega) (h3 : Shift E N ts ds H (st j) (Hs j) := by exact Shift.auto) : WLoopS E N st ds Hs inv μ i Q .normal ⟨ts, ds⟩ H := wloopS_normal j h1 h2 h3
/-- A round's end, what is asked shown one by one. -/
theorem againE {ι : Type} {st : ι → List AV} {Hs : ι → List AO} {inv : ι → Prop} {μ : ι → Nat} {i : ι} (j : ι) (h1 : inv j) (h2 : μ j < μ i) (h3 : H = Hs j) (h4 : fgt ts (st j) := by (repeat (first | exact fgt_nil | refine fgt_top ?_ | refine fgt_same rfl ?_ | refine fgt_same (by simp) ?_ | fail))) : WLoopS E N st ds Hs inv μ i Q .normal ⟨ts, ds⟩ H := wloopS_normal j h1 h2 (by subst h3; exact Shift.fgt h4)
/-- Leaving, with what lies behind let go. -/
theorem Out.junkd {R : AE → List AO → Prop} {x : AE} {l : List AO} (h : R x H) (hN : N ≤ H.length := by (try simp only [List.append_assoc, List.cons_append, List.nil_append, Nat.add_assoc, Nat.reduceAdd, getE, getE0, setE, setE0, List.getElem?_cons_succ, List.getElem?_cons_zero, List.set_cons_succ, List.set_cons_zero, List.length_append, List.length_cons, List.length_nil, Nat.zero_add, List.length_set]); omega) (hf : Fit H.length H := by ((try simp only [List.append_assoc, List.cons_append, List.nil_append, Nat.add_assoc, Nat.reduceAdd, getE, getE0, setE, setE0, List.getElem?_cons_succ, List.getElem?_cons_zero, List.set_cons_succ, List.set_cons_zero, List.length_append, List.length_cons, List.length_nil, Nat.zero_add, List.length_set]); repeat' (first | exact fit_nil | assumption | (refine fit_cons (by (first | rfl | (simp [AO.within, belowL, AV.within, cellsOf, AE.within]; done) | (simp [AO.within, belowL, AV.within, cellsOf, AE.within]; omega) | fail)) ?_) | ((refine Fit.mono ?_ (by assumption)); (try simp only [List.append_assoc, List.cons_append, List.nil_append, Nat.add_assoc, Nat.reduceAdd, getE, getE0, setE, setE0, List.getElem?_cons_succ, List.getElem?_cons_zero, List.set_cons_succ, List.set_cons_zero, List.length_append, List.length_cons, List.length_nil, Nat.zero_add, List.length_set]); omega) | refine Fit.append ?_ ?_ | fail))) (hx : x.within H.length = true := by first | rfl | (simp [AE.within, AV.within, belowL]; done) | (simp [AE.within, AV.within, belowL]; omega)) : Out N R x (H ++ l) := Out.drop l hN hf hx h



/-- A range over a function; what is plain found by itself. -/
theorem over {J O P X σ : Type} {f : Operand} {ps : Array Tmp} {asg body : Code} {fid : FuncId} {first cap args : List AV} {n k : Nat} {tr : X → List AV} {Hr : FuncId → J → σ → List AO → List AO} {He : J → σ → List AO} {Hs' : O → σ → List AO} {n1 : Nat} {nr : List AO → Nat}
    (enc : X → List AV) (Hc : J → σ → List AO) (Hs : O → σ → List AO) (Ht : P → σ → List AO) (ch : P → List APanic) (pend : O → Code) (step : J → X → Res J O P) (j0 : J) (c0 : σ) (xs : List X)
    (hit : ∀ fn, let G := fun j c => Hc j c ++ [.defr, .loop .ready none fn ts ps asg body n]
      let S := fun o c => Hs o c ++ [.defr, .loop .done (some (pend o)) fn ts ps asg body n]
      let T := fun p c => Ht p c ++ [.defr, .loop .busy none fn ts ps asg body n]
      (∀ j c, Fit (n + 2) (G j c)) → (∀ j c, Fit (n + 2) (S j c)) → Rounds E (n + 1) enc G S T ch step j0 xs → AEnter E fid args (G j0 c0) (IterEnd G S T ch (foldR step j0 xs)))
    (hround : ∀ fn pre x post j c l, xs = pre ++ x :: post → foldR step j0 pre = .go j → Fit (nr l) (Hr fn j c l) → W E (nr l) (some n1) md asg (WRound E (nr l) n1 md fn ts ps asg body n none (RoundEnd (fun j c => Hc j c ++ [.defr, .loop .ready none fn ts ps asg body n]) (fun o c => Hs o c ++ [.defr, .loop .done (some (pend o)) fn ts ps asg body n]) (fun p c => Ht p c ++ [.defr, .loop .busy none fn ts ps asg body n]) ch c l (step j x)))
      ⟨tr x, []⟩ (Hr fn j c l))
    (hall : ∀ j c, foldR step j0 xs = .go j → Q .normal ⟨ts, .mark n :: ds⟩ (He j c))
    (hstop : ∀ o c, foldR step j0 xs = .stop o → W E N none md (pend o) Q ⟨ts, .mark n :: ds⟩ (Hs' o c))
    (hdie : ∀ fn p c, foldR step j0 xs = .die p → Q (.panic (ch p)) ⟨ts, .mark n :: ds⟩ (Ht p c ++ [.defr, .loop .busy none fn ts ps asg body n]))
    (hf : AAct.ev E.gl ⟨ts, ds⟩ f = .fn fid first cap := by (first | exact rfl | (simp only [AAct.ev, List.getD_cons_zero, List.getD_cons_succ, constAV, go_sem]; try exact rfl)))
    (hH : H = Hc j0 c0 := by (first | rfl | ((try simp only [List.append_assoc, List.cons_append, List.nil_append]); exact rfl) | fail))
    (hn : H.length = n := by ((try simp only [List.append_assoc, List.cons_append, List.nil_append, List.length_append, List.length_cons, List.length_nil, Nat.zero_add, Nat.add_assoc, Nat.reduceAdd]); first | done | exact rfl | fail))
    (hargs : first ++ [.yield (n + 1)] ++ cap = args := by (simp only [List.cons_append, List.nil_append, Nat.add_assoc, Nat.reduceAdd]; exact rfl))
    (hn1 : n + 1 = n1 := by ((try simp only [List.append_assoc, List.cons_append, List.nil_append, Nat.add_assoc, Nat.reduceAdd]); exact rfl))
    (hnr : ∀ l : List AO, n + (l.length + 1 + 1) = nr l := by (intro l; ((try simp only [List.append_assoc, List.cons_append, List.nil_append, Nat.add_assoc, Nat.reduceAdd]); exact rfl)))
    (htr : ∀ x, roundTmps ts ps (enc x) = tr x := by (intro x; simp only [roundTmps, List.zip_cons_cons, List.zip_nil_left, List.zip_nil_right, List.foldl_cons, List.foldl_nil, Array.toList, List.set_cons_succ, List.set_cons_zero]; exact rfl))
    (hHr : ∀ fn j c l, Hc j c ++ .defr :: .loop .ready none fn ts ps asg body n :: l = Hr fn j c l := by (intro fn j c l; ((try simp only [List.append_assoc, List.cons_append, List.nil_append, Nat.add_assoc, Nat.reduceAdd]); exact rfl)))
    (hHe : ∀ j c, Hc j c ++ [.defr, .dead] = He j c := by (intro j c; ((try simp only [List.append_assoc, List.cons_append, List.nil_append, Nat.add_assoc, Nat.reduceAdd]); exact rfl)))
    (hHs : ∀ o c, Hs o c ++ [.defr, .dead] = Hs' o c := by (intro o c; ((try simp only [List.append_assoc, List.cons_append, List.nil_append, Nat.add_assoc, Nat.reduceAdd]); exact rfl)))
    (hps : ps.size = k := by rfl) (hnc : ∀ j c, (Hc j c).length = n := by (intro j c; (try simp only [List.append_assoc, List.cons_append, List.nil_append, Nat.add_assoc, Nat.reduceAdd, getE, getE0, setE, setE0, List.getElem?_cons_succ, List.getElem?_cons_zero, List.set_cons_succ, List.set_cons_zero, List.length_append, List.length_cons, List.length_nil, Nat.zero_add, List.length_set]); first | done | omega | fail)) (hns : ∀ o c, (Hs o c).length = n := by (intro o c; (try simp only [List.append_assoc, List.cons_append, List.nil_append, Nat.add_assoc, Nat.reduceAdd, getE, getE0, setE, setE0, List.getElem?_cons_succ, List.getElem?_cons_zero, List.set_cons_succ, List.set_cons_zero, List.length_append, List.length_cons, List.length_nil, Nat.zero_add, List.length_set]); first | done | omega | fail)) (henc : ∀ x, (enc x).length = k := by (intro x; rfl))
    (hfit : ∀ j c, Fit n (Hc j c) := by (intro j c; ((try simp only [List.append_assoc, List.cons_append, List.nil_append, Nat.add_assoc, Nat.reduceAdd, getE, getE0, setE, setE0, List.getElem?_cons_succ, List.getElem?_cons_zero, List.set_cons_succ, List.set_cons_zero, List.length_append, List.length_cons, List.length_nil, Nat.zero_add, List.length_set]); repeat' (first | exact fit_nil | assumption | (refine fit_cons (by (first | rfl | (simp [AO.within, belowL, AV.within, cellsOf, AE.within]; done) | (simp [AO.within, belowL, AV.within, cellsOf, AE.within]; omega) | fail)) ?_) | ((refine Fit.mono ?_ (by assumption)); (try simp only [List.append_assoc, List.cons_append, List.nil_append, Nat.add_assoc, Nat.reduceAdd, getE, getE0, setE, setE0, List.getElem?_cons_succ, List.getElem?_cons_zero, List.set_cons_succ, List.set_cons_zero, List.length_append, List.length_cons, List.length_nil, Nat.zero_add, List.length_set]); omega) | refine Fit.append ?_ ?_ | fail)))) (hfits : ∀ j c, Fit n (Hs j c) := by (intro j c; ((try simp only [List.append_assoc, List.cons_append, List.nil_append, Nat.add_assoc, Nat.reduceAdd, getE, getE0, setE, setE0, List.getElem?_cons_succ, List.getElem?_cons_zero, List.set_cons_succ, List.set_cons_zero, List.length_append, List.length_cons, List.length_nil, Nat.zero_add, List.length_set]); repeat' (first | exact fit_nil | assumption | (refine fit_cons (by (first | rfl | (simp [AO.within, belowL, AV.within, cellsOf, AE.within]; done) | (simp [AO.within, belowL, AV.within, cellsOf, AE.within]; omega) | fail)) ?_) | ((refine Fit.mono ?_ (by assumption)); (try simp only [List.append_assoc, List.cons_append, List.nil_append, Nat.add_assoc, Nat.reduceAdd, getE, getE0, setE, setE0, List.getElem?_cons_succ, List.getElem?_cons_zero, List.set_cons_succ, List.set_cons_zero, List.length_append, List.length_cons, List.length_nil, Nat.zero_add, List.length_set]); omega) | refine Fit.append ?_ ?_ | fail)))) (hts : belowL n ts = true := by (first | rfl | (simp [AO.within, belowL, AV.within, cellsOf, AE.within]; done) | (simp [AO.within, belowL, AV.within, cellsOf, AE.within]; omega) | fail)) : W E N none md (.rangeFunc f ps asg body) Q ⟨ts, ds⟩ H := by
  subst hn1; subst hargs
  refine w_range enc Hc Hs Ht ch pend step j0 c0 xs hH hf hps hn hnc hns henc hfit hfits hts hit (fun fn pre x post j c l hx hj hft => ?_) (fun j c h => ?_) (fun o c h => ?_) hdie
  · rw [htr, hHr, hnr]
    refine hround fn pre x post j c l hx hj ?_
    rw [← hHr, ← hnr]; exact hft
  · rw [hHe]; exact hall j c h
  · rw [hHs]; exact hstop o c h

end Go.Ab

/- The abstract view, 31: what a cell holds, looked at anew. -/
set_option linter.unusedVariables false
set_option linter.unusedSimpArgs false
namespace Go.Ab
open Go Go.RowKit

variable {E : Env} {N : Nat} {g : Ghost} {H : List AO} {w : World} {ts : List AV} {ds : List ADef}

theorem Rep.recells {n0 : Nat} {w0 : World} {gl : Nat → List AV} (hr : Rep n0 w0 gl g H w) {i : Nat} {xs ys : List AV} (hH : H[i]? = some (.cells xs)) (hl : ys.length = xs.length)
    (hv : ∀ b cs T fz, g.phi[i]? = some b → w.heap[b]? = some (.cells cs T fz) → (∀ k, VRel g (xs.getD k .top) (cs.getD k undef)) → ∀ k, VRel g (ys.getD k .top) (cs.getD k undef)) : Rep n0 w0 gl g (H.set i (.cells ys)) w := by
  have hi : i < H.length := (List.getElem?_eq_some_iff.1 hH).1
  have hown : ∀ j, own g (H.set i (.cells ys)) j = own g H j := by
    intro j
    unfold own
    by_cases e : i = j
    · subst e; rw [List.getElem?_set_self hi, hH]
    · rw [List.getElem?_set_ne e]
  refine ⟨hr.below, hr.n0le, hr.know, by rw [hr.len]; simp, fun t e h => hr.beyond t e (by simpa using h), fun j o h => ?_, fun a b x ha hb => ?_, hr.glob⟩
  · by_cases e : i = j
    · subst e
      rw [List.getElem?_set_self hi] at h
      injection h with h; subst h
      obtain ⟨b, cs, T, fz, h1, h2, h3, h4, h5, h6, h7⟩ := hr.objs _ _ hH
      exact ⟨b, cs, T, fz, h1, h2, h3, by rw [hl]; exact h4, hv b cs T fz h1 h3 h5, by rw [hl]; exact h6, h7⟩
    · rw [List.getElem?_set_ne e] at h
      exact hr.objs j o h
  · rw [hown] at ha hb; exact hr.apart a b x ha hb

/-- A nil slice in a cell is from now on a row that may grow. -/
theorem Shift.cellVec (sz i k : Nat) {xs : List AV} (hH : H[i]? = some (.cells xs)) (hk : k < xs.length) (hx : xs.getD k .top = .sl 0 [] .full) {H2 : List AO} (h2 : H.set i (.cells (xs.set k (.vsl H.length 0))) ++ [.vec sz 0 []] = H2) : Shift E N ts ds H ts H2 := fun g0 g w a' hd hl hr ha => by
  subst h2
  obtain ⟨r1, r2⟩ := Rep.new_vec hr sz
  have hi : i < H.length := (List.getElem?_eq_some_iff.1 hH).1
  refine ⟨_, hl.trans r2, ?_, ha.1.mono r2, ha.2.mono r2⟩
  have := Rep.recells (ys := xs.set k (.vsl H.length 0)) r1 (i := i) (xs := xs) (by rw [List.getElem?_append_left hi, hH]) (by simp) (fun b cs T fz h1 h2 h3 j => ?_)
  · rwa [List.set_append_left _ _ hi] at this
  · by_cases e : k = j
    · subst e
      have hset : (xs.set k (.vsl H.length 0)).getD k .top = .vsl H.length 0 := by simp [List.getD_eq_getElem?_getD, hk]
      have h4 := h3 k
      rw [hx] at h4
      rw [hset]
      exact vec_of_nil h4 (setTok_same _ _ _ _)
    · have hset : (xs.set k (.vsl H.length 0)).getD j .top = xs.getD j .top := by simp only [List.getD_eq_getElem?_getD, List.getElem?_set_ne e]
      rw [hset]; exact h3 j

/-- A row that may grow, in a cell, is known from now on. -/
theorem Shift.cellKnow (i k id : Nat) {sz n : Nat} {xs ys : List AV} (hH : H[i]? = some (.cells xs)) (hx : xs.getD k .top = .vsl id n) (hk : k < xs.length) (hV : H[id]? = some (.vec sz n ys)) {H2 : List AO} (h2 : (H.set id .dead).set i (.cells (xs.set k (.sl n ys .ro))) = H2) : Shift E N ts ds H ts H2 := fun g0 g w a' hd hl hr ha => by
  subst h2
  obtain ⟨g', r1, r2, r3⟩ := Rep.know_vec hr hV
  have hne : id ≠ i := by rintro rfl; rw [hV] at hH; simp at hH
  refine ⟨g', hl.trans r1, ?_, ha.1.mono r1, ha.2.mono r1⟩
  refine Rep.recells (ys := xs.set k (.sl n ys .ro)) r2 (i := i) (xs := xs) (by rw [List.getElem?_set_ne hne, hH]) (by simp) (fun b cs T fz h1 h2 h3 j => ?_)
  by_cases e : k = j
  · subst e
    have hset : (xs.set k (.sl n ys .ro)).getD k .top = .sl n ys .ro := by simp [List.getD_eq_getElem?_getD, hk]
    rw [hset]
    refine r3 _ ?_
    obtain ⟨b', cs', T', fz', q1, q2, q3, q4, q5, q6, q7⟩ := hr.objs _ _ hH
    have hb := r1.phi _ _ q1
    rw [h1] at hb; injection hb with hb; subst hb
    rw [h2] at q3; injection q3 with q3; injection q3 with q3; subst q3
    have := q5 k
    rwa [hx] at this
  · have hset : (xs.set k (.sl n ys .ro)).getD j .top = xs.getD j .top := by simp only [List.getD_eq_getElem?_getD, List.getElem?_set_ne e]
    rw [hset]; exact h3 j

end Go.Ab

namespace Go.Ab
open Go Go.RowKit
variable {E : Env} {N : Nat} {ts : List AV} {ds : List ADef} {H : List AO} {g : Ghost}
/-- A full slice in a temporary: from now on what is behind it has a name of its own. -/
theorem Shift.tail (sz t n : Nat) {xs : List AV} (h : ts.getD t .top = .sl n xs .full) : Shift E N ts ds H (ts.set t (.sl n xs (.at H.length n))) (H ++ [.tail sz n]) := fun g0 g w a' hd hl hr ha => by
  obtain ⟨r1, r2⟩ := Rep.new_tok hr sz n ⟨0, 0, 0⟩ (.inl rfl) (fun h => absurd rfl h)
  have htk : ((g.push 0).setTok H.length n ⟨0, 0, 0⟩).tok H.length n = some ⟨0, 0, 0⟩ := setTok_same _ _ _ _
  refine ⟨_, hl.trans r2, r1, ?_, ha.2.mono r2⟩
  have h1 := (ha.1.2 t)
  rw [h] at h1
  have h3 : VRel ((g.push 0).setTok H.length n ⟨0, 0, 0⟩) (.sl n xs (.at H.length n)) (a'.tmps.getD t undef) := by
    have h4 := h1.mono r2
    generalize a'.tmps.getD t undef = c at h4
    cases h4 with
    | nsl tok h => exact .nsl _ ⟨_, htk, rfl⟩
    | sl n xs tok b o cap vs hn hk hv ht => exact .sl _ _ _ _ _ _ vs hn hk hv ⟨_, htk, (show 0 = cap - n from ht.symm), .inl ht⟩
  have h2 := (ha.1.mono r2).set t (c := a'.tmps.getD t undef) h3
  have e : a'.tmps.setIfInBounds t (a'.tmps.getD t undef) = a'.tmps := by
    apply Array.ext_getElem?
    intro i
    rw [Array.getElem?_setIfInBounds]
    split
    · rename_i e; subst e
      split
      · rename_i hlt; rw [Array.getElem?_eq_getElem hlt]; simp [Array.getD, hlt]
      · rename_i hlt; rw [Array.getElem?_eq_none (by omega)]
    · rfl
  rwa [e] at h2
end Go.Ab
