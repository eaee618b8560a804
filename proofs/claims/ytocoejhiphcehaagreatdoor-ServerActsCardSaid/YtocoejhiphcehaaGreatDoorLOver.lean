/- A range over a function whose own state shows in its elements' rounds. -/
import Derived.Test.YtocoejhiphcehaaGreatDoorFrE
set_option linter.unusedSimpArgs false
set_option linter.unusedVariables false
set_option maxHeartbeats 4000000
namespace Go.Ab
open Go Go.RowKit
variable {E : Env} {N : Nat} {rd : Option Nat} {md : Nat → Nat} {Q : APost} {ts ts2 : List AV} {ds : List ADef} {H : List AO}
/-- A consumer's rounds over some elements, where the function's own state is known. -/
def RoundsD {J O P X σ : Type} (E : Env) (lp : Nat) (enc : X → List AV) (G : J → σ → List AO) (S : O → σ → List AO) (T : P → σ → List AO) (ch : P → List APanic) (step : J → X → Res J O P) (D : J → σ → Prop) (j0 : J) (xs : List X) : Prop :=
  ∀ pre x post j c l, xs = pre ++ x :: post → foldR step j0 pre = .go j → D j c → ARound E lp (enc x) (G j c ++ l) (RoundEnd G S T ch c l (step j x))
theorem RoundsD.go {J O P X σ : Type} {lp : Nat} {enc : X → List AV} {G : J → σ → List AO} {S : O → σ → List AO} {T : P → σ → List AO} {ch : P → List APanic} {step : J → X → Res J O P} {D : J → σ → Prop} {j0 : J} {xs : List X} (h : RoundsD E lp enc G S T ch step D j0 xs) {pre post : List X} {x : X} {j j' : J} (c : σ) (l : List AO) (hx : xs = pre ++ x :: post) (hj : foldR step j0 pre = .go j) (hd : D j c) (hs : step j x = .go j') : Yld E lp (enc x) (G j c ++ l) (.bool true) (G j' c ++ l) := ⟨by
  have := h pre x post j c l hx hj hd; rw [hs] at this; exact this⟩
theorem RoundsD.go0 {J O P X σ : Type} {lp : Nat} {enc : X → List AV} {G : J → σ → List AO} {S : O → σ → List AO} {T : P → σ → List AO} {ch : P → List APanic} {step : J → X → Res J O P} {D : J → σ → Prop} {j0 : J} {xs : List X} (h : RoundsD E lp enc G S T ch step D j0 xs) {pre post : List X} {x : X} {j j' : J} (c : σ) (hx : xs = pre ++ x :: post) (hj : foldR step j0 pre = .go j) (hd : D j c) (hs : step j x = .go j') : Yld E lp (enc x) (G j c) (.bool true) (G j' c) := by
  have := h.go c [] hx hj hd hs; rwa [List.append_nil, List.append_nil] at this
theorem w_rangeD {J O P X σ : Type} {f : Operand} {ps : Array Tmp} {asg body : Code} {ts : List AV} {ds : List ADef} {fid : FuncId} {first cap : List AV} {n k : Nat} (enc : X → List AV) (Hc : J → σ → List AO) (Hs : O → σ → List AO) (Ht : P → σ → List AO) (ch : P → List APanic) (pend : O → Code) (step : J → X → Res J O P) (D : J → σ → Prop) (j0 : J) (c0 : σ) (xs : List X)
    (hH : H = Hc j0 c0) (hf : AAct.ev E.gl ⟨ts, ds⟩ f = .fn fid first cap) (hps : ps.size = k) (hn : H.length = n) (hnc : ∀ j c, (Hc j c).length = n) (hns : ∀ o c, (Hs o c).length = n) (henc : ∀ x, (enc x).length = k)
    (hfit : ∀ j c, Fit n (Hc j c)) (hfits : ∀ j c, Fit n (Hs j c)) (hts : belowL n ts = true)
    (hit : ∀ fn, let G := fun j c => Hc j c ++ [.defr, .loop .ready none fn ts ps asg body n]
      let S := fun o c => Hs o c ++ [.defr, .loop .done (some (pend o)) fn ts ps asg body n]
      let T := fun p c => Ht p c ++ [.defr, .loop .busy none fn ts ps asg body n]
      (∀ j c, Fit (n + 2) (G j c)) → (∀ j c, Fit (n + 2) (S j c)) → RoundsD E (n + 1) enc G S T ch step D j0 xs → AEnter E fid (first ++ [.yield (n + 1)] ++ cap) (G j0 c0) (IterEnd G S T ch (foldR step j0 xs)))
    (hround : ∀ fn pre x post j c l, xs = pre ++ x :: post → foldR step j0 pre = .go j → D j c → (Fit (n + (l.length + 1 + 1)) (Hc j c ++ .defr :: .loop .ready none fn ts ps asg body n :: l)) → W E (n + (l.length + 1 + 1)) (some (n + 1)) md asg (WRound E (n + (l.length + 1 + 1)) (n + 1) md fn ts ps asg body n none (RoundEnd (fun j c => Hc j c ++ [.defr, .loop .ready none fn ts ps asg body n]) (fun o c => Hs o c ++ [.defr, .loop .done (some (pend o)) fn ts ps asg body n]) (fun p c => Ht p c ++ [.defr, .loop .busy none fn ts ps asg body n]) ch c l (step j x)))
      ⟨roundTmps ts ps (enc x), []⟩ (Hc j c ++ .defr :: .loop .ready none fn ts ps asg body n :: l))
    (hall : ∀ j c, foldR step j0 xs = .go j → Q .normal ⟨ts, .mark n :: ds⟩ (Hc j c ++ [.defr, .dead]))
    (hstop : ∀ o c, foldR step j0 xs = .stop o → W E N none md (pend o) Q ⟨ts, .mark n :: ds⟩ (Hs o c ++ [.defr, .dead]))
    (hdie : ∀ fn p c, foldR step j0 xs = .die p → Q (.panic (ch p)) ⟨ts, .mark n :: ds⟩ (Ht p c ++ [.defr, .loop .busy none fn ts ps asg body n])) : W E N none md (.rangeFunc f ps asg body) Q ⟨ts, ds⟩ H := by
  have hfitl : ∀ (Hx : List AO) (st : LoopState) (pe : Option Code) (fn : FuncId), Hx.length = n → Fit n Hx → Fit (n + 2) (Hx ++ [.defr, .loop st pe fn ts ps asg body n]) := fun Hx st pe fn hl hf => by
    refine Fit.append (Fit.mono (by omega) hf) (fit_cons rfl (fit_cons ?_ fit_nil))
    simp only [AO.within, Bool.and_eq_true, decide_eq_true_eq]
    exact ⟨belowL_mono (by omega) _ hts, by omega⟩
  have hat : ∀ (Hx : List AO) (b : AO), Hx.length = n → (Hx ++ [.defr, b])[n + 1]? = some b := fun Hx b hl => by subst hl; exact getE Hx [.defr, b] 1
  have hput : ∀ (Hx : List AO) (b c : AO), Hx.length = n → (Hx ++ [.defr, b]).set (n + 1) c = Hx ++ [.defr, c] := fun Hx b c hl => by subst hl; exact setE Hx [.defr, b] 1 c
  refine w_rangeFunc (H2 := fun fn => H ++ [.defr, .loop .ready none fn ts ps asg body n]) hf hn rfl (fun _ => rfl) fun fn hfn => ?_
  subst hH
  refine AEnter.mono (hit fn (fun j c => hfitl _ _ _ _ (hnc j c) (hfit j c)) (fun o c => hfitl _ _ _ _ (hns o c) (hfits o c)) ?_) ?_
  · intro pre x post j c l hx hj hd
    have e : (Hc j c ++ [AO.defr, .loop .ready none fn ts ps asg body n] ++ l) = Hc j c ++ .defr :: .loop .ready none fn ts ps asg body n :: l := by simp
    rw [e]
    have hlen : (Hc j c ++ AO.defr :: .loop .ready none fn ts ps asg body n :: l).length = n + (l.length + 1 + 1) := by simp [hnc j c]
    refine ARound.go md (l := n + 1) (pe := none) (fn := fn) (ts := ts) (ps := ps) (asg := asg) (body := body) (d := n) (N := n + (l.length + 1 + 1)) ?_ hfn ?_ rfl hlen fun hft => hround fn pre x post j c l hx hj hd (by rw [← hlen]; exact hft)
    · rw [List.getElem?_append_right (by rw [hnc]; omega), hnc]
      simp
    · rw [henc, hps]
  · rintro y H' ⟨c, h⟩
    cases hr : foldR step j0 xs with
    | go j => rw [hr] at h; obtain ⟨rfl, rfl⟩ := h; exact rangeEnd_none (hat _ _ (hnc j c)) (by simp) (hput _ _ _ (hnc j c)) (hall j c hr)
    | stop o => rw [hr] at h; obtain ⟨rfl, rfl⟩ := h; exact rangeEnd_some md (hat _ _ (hns o c)) (by simp) (hput _ _ _ (hns o c)) (hstop o c hr)
    | die p => rw [hr] at h; obtain ⟨rfl, rfl⟩ := h; exact hdie fn p c hr

theorem overD {J O P X σ : Type} {f : Operand} {ps : Array Tmp} {asg body : Code} {fid : FuncId} {first cap args : List AV} {n k : Nat} {tr : X → List AV} {Hr : FuncId → J → σ → List AO → List AO} {He : J → σ → List AO} {Hs' : O → σ → List AO} {n1 : Nat} {nr : List AO → Nat}
    (enc : X → List AV) (Hc : J → σ → List AO) (Hs : O → σ → List AO) (Ht : P → σ → List AO) (ch : P → List APanic) (pend : O → Code) (step : J → X → Res J O P) (D : J → σ → Prop) (j0 : J) (c0 : σ) (xs : List X)
    (hit : ∀ fn, let G := fun j c => Hc j c ++ [.defr, .loop .ready none fn ts ps asg body n]
      let S := fun o c => Hs o c ++ [.defr, .loop .done (some (pend o)) fn ts ps asg body n]
      let T := fun p c => Ht p c ++ [.defr, .loop .busy none fn ts ps asg body n]
      (∀ j c, Fit (n + 2) (G j c)) → (∀ j c, Fit (n + 2) (S j c)) → RoundsD E (n + 1) enc G S T ch step D j0 xs → AEnter E fid args (G j0 c0) (IterEnd G S T ch (foldR step j0 xs)))
    (hround : ∀ fn pre x post j c l, xs = pre ++ x :: post → foldR step j0 pre = .go j → D j c → Fit (nr l) (Hr fn j c l) → W E (nr l) (some n1) md asg (WRound E (nr l) n1 md fn ts ps asg body n none (RoundEnd (fun j c => Hc j c ++ [.defr, .loop .ready none fn ts ps asg body n]) (fun o c => Hs o c ++ [.defr, .loop .done (some (pend o)) fn ts ps asg body n]) (fun p c => Ht p c ++ [.defr, .loop .busy none fn ts ps asg body n]) ch c l (step j x)))
      ⟨tr x, []⟩ (Hr fn j c l))
    (hall : ∀ j c, foldR step j0 xs = .go j → Q .normal ⟨ts, .mark n :: ds⟩ (He j c))
    (hstop : ∀ o c, foldR step j0 xs = .stop o → W E N none md (pend o) Q ⟨ts, .mark n :: ds⟩ (Hs' o c))
    (hdie : ∀ fn p c, foldR step j0 xs = .die p → Q (.panic (ch p)) ⟨ts, .mark n :: ds⟩ (Ht p c ++ [.defr, .loop .busy none fn ts ps asg body n]))
    (hf : AAct.ev E.gl ⟨ts, ds⟩ f = .fn fid first cap := by (first | exact rfl | (simp only [AAct.ev, List.getD_cons_zero, List.getD_cons_succ, constAV, go_sem]; try exact rfl)))
    (hH : H = Hc j0 c0 := by (first | rfl | ((try simp only [List.append_assoc, List.cons_append, List.nil_append]); exact rfl) | fail))
    (hn : H.length = n := by ((try simp only [List.append_assoc, List.cons_append, List.nil_append, List.length_append, List.length_cons, List.length_nil, Nat.zero_add, Nat.add_assoc, Nat.reduceAdd]); first | done | exact rfl | fail))
    (hargs : first ++ [.yield (n + 1)] ++ cap = args := by (simp only [List.cons_append, List.nil_append, Nat.add_assoc, Nat.reduceAdd]; exact rfl))
    (hn1 : n + 1 = n1 := by ((try simp only [List.append_assoc, List.cons_append, List.nil_append, Nat.add_assoc, Nat.reduceAdd]); exact rfl))
    (hnr : ∀ l : List AO, n + (l.length + 1 + 1) = nr l := by (intro l; ((try simp only [List.append_assoc, List.cons_append, List.nil_append, Nat.add_assoc, Nat.reduceAdd]); exact rfl)))
    (htr : ∀ x, roundTmps ts ps (enc x) = tr x := by (intro x; simp only [roundTmps, List.zip_cons_cons, List.zip_nil_left, List.zip_nil_right, List.foldl_cons, List.foldl_nil, Array.toList, List.set_cons_succ, List.set_cons_zero]; exact rfl))
    (hHr : ∀ fn j c l, Hc j c ++ .defr :: .loop .ready none fn ts ps asg body n :: l = Hr fn j c l := by (intro fn j c l; ((try simp only [List.append_assoc, List.cons_append, List.nil_append, Nat.add_assoc, Nat.reduceAdd]); exact rfl)))
    (hHe : ∀ j c, Hc j c ++ [.defr, .dead] = He j c := by (intro j c; ((try simp only [List.append_assoc, List.cons_append, List.nil_append, Nat.add_assoc, Nat.reduceAdd]); exact rfl)))
    (hHs : ∀ o c, Hs o c ++ [.defr, .dead] = Hs' o c := by (intro o c; ((try simp only [List.append_assoc, List.cons_append, List.nil_append, Nat.add_assoc, Nat.reduceAdd]); exact rfl)))
    (hps : ps.size = k := by rfl) (hnc : ∀ j c, (Hc j c).length = n := by (intro j c; (try simp only [List.append_assoc, List.cons_append, List.nil_append, Nat.add_assoc, Nat.reduceAdd, getE, getE0, setE, setE0, List.getElem?_cons_succ, List.getElem?_cons_zero, List.set_cons_succ, List.set_cons_zero, List.length_append, List.length_cons, List.length_nil, Nat.zero_add, List.length_set]); first | done | omega | fail)) (hns : ∀ o c, (Hs o c).length = n := by (intro o c; (try simp only [List.append_assoc, List.cons_append, List.nil_append, Nat.add_assoc, Nat.reduceAdd, getE, getE0, setE, setE0, List.getElem?_cons_succ, List.getElem?_cons_zero, List.set_cons_succ, List.set_cons_zero, List.length_append, List.length_cons, List.length_nil, Nat.zero_add, List.length_set]); first | done | omega | fail)) (henc : ∀ x, (enc x).length = k := by (intro x; rfl))
    (hfit : ∀ j c, Fit n (Hc j c) := by (intro j c; ((try simp only [List.append_assoc, List.cons_append, List.nil_append, Nat.add_assoc, Nat.reduceAdd, getE, getE0, setE, setE0, List.getElem?_cons_succ, List.getElem?_cons_zero, List.set_cons_succ, List.set_cons_zero, List.length_append, List.length_cons, List.length_nil, Nat.zero_add, List.length_set]); repeat' (first | exact fit_nil | assumption | (refine fit_cons (by (first | rfl | (simp [AO.within, belowL, AV.within, cellsOf, AE.within]; done) | (simp [AO.within, belowL, AV.within, cellsOf, AE.within]; omega) | fail)) ?_) | ((refine Fit.mono ?_ (by assumption)); (try simp only [List.append_assoc, List.cons_append, List.nil_append, Nat.add_assoc, Nat.reduceAdd, getE, getE0, setE, setE0, List.getElem?_cons_succ, List.getElem?_cons_zero, List.set_cons_succ, List.set_cons_zero, List.length_append, List.length_cons, List.length_nil, Nat.zero_add, List.length_set]); omega) | refine Fit.append ?_ ?_ | fail)))) (hfits : ∀ j c, Fit n (Hs j c) := by (intro j c; ((try simp only [List.append_assoc, List.cons_append, List.nil_append, Nat.add_assoc, Nat.reduceAdd, getE, getE0, setE, setE0, List.getElem?_cons_succ, List.getElem?_cons_zero, List.set_cons_succ, List.set_cons_zero, List.length_append, List.length_cons, List.length_nil, Nat.zero_add, List.length_set]); repeat' (first | exact fit_nil | assumption | (refine fit_cons (by (first | rfl | (simp [AO.within, belowL, AV.within, cellsOf, AE.within]; done) | (simp [AO.within, belowL, AV.within, cellsOf, AE.within]; omega) | fail)) ?_) | ((refine Fit.mono ?_ (by assumption)); (try simp only [List.append_assoc, List.cons_append, List.nil_append, Nat.add_assoc, Nat.reduceAdd, getE, getE0, setE, setE0, List.getElem?_cons_succ, List.getElem?_cons_zero, List.set_cons_succ, List.set_cons_zero, List.length_append, List.length_cons, List.length_nil, Nat.zero_add, List.length_set]); omega) | refine Fit.append ?_ ?_ | fail)))) (hts : belowL n ts = true := by (first | rfl | (simp [AO.within, belowL, AV.within, cellsOf, AE.within]; done) | (simp [AO.within, belowL, AV.within, cellsOf, AE.within]; omega) | fail)) : W E N none md (.rangeFunc f ps asg body) Q ⟨ts, ds⟩ H := by
  subst hn1; subst hargs
  refine w_rangeD enc Hc Hs Ht ch pend step D j0 c0 xs hH hf hps hn hnc hns henc hfit hfits hts hit (fun fn pre x post j c l hx hj hd hft => ?_) (fun j c h => ?_) (fun o c h => ?_) hdie
  · rw [htr, hHr, hnr]
    refine hround fn pre x post j c l hx hj hd ?_
    rw [← hHr, ← hnr]; exact hft
  · rw [hHe]; exact hall j c h
  · rw [hHs]; exact hstop o c h

end Go.Ab
