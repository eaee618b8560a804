/- Loops in which marks pile up; leaving with many marks. -/
import Derived.Test.YtocoejhiphcehaaGreatDoorLOver
set_option linter.unusedSimpArgs false
set_option linter.unusedVariables false
set_option maxHeartbeats 4000000
namespace Go.Ab
open Go Go.RowKit
variable {E : Env} {N : Nat} {rd : Option Nat} {md : Nat → Nat} {Q : APost} {ts ts2 : List AV} {ds : List ADef} {H : List AO} {a : AAct}

/-- Behind a round of a loop whose rounds leave marks. -/
def WLoopM {ι : Type} (E : Env) (N : Nat) (st : ι → List AV) (df : ι → List ADef) (Hs : ι → List AO) (inv : ι → Prop) (μ : ι → Nat) (i : ι) (Q : APost) : APost :=
  AX.then (fun a' H' => ∃ j, inv j ∧ μ j < μ i ∧ a'.defers = df j ∧ Shift E N a'.tmps (df j) H' (st j) (Hs j)) Q
section
variable {ι : Type} {st : ι → List AV} {df : ι → List ADef} {Hs : ι → List AO} {inv : ι → Prop} {μ : ι → Nat} {i : ι}
theorem againM (j : ι) (h1 : inv j) (h2 : μ j < μ i) (h3 : ds = df j) (h4 : Shift E N ts (df j) H (st j) (Hs j)) : WLoopM E N st df Hs inv μ i Q .normal ⟨ts, ds⟩ H := ⟨j, h1, h2, h3, h4⟩
theorem wloopM_exit {id : Nat} (h : Q (.exit id) a H) : WLoopM E N st df Hs inv μ i Q (.exit id) a H := h
theorem wloopM_ret (h : Q .ret a H) : WLoopM E N st df Hs inv μ i Q .ret a H := h
end
theorem w_loopM {c : Code} {ι : Type} (st : ι → List AV) (df : ι → List ADef) (Hs : ι → List AO) (inv : ι → Prop) (μ : ι → Nat) (i0 : ι) (h0 : inv i0) (h1 : Shift E N ts ds H (st i0) (Hs i0)) (hd0 : ds = df i0)
    (round : ∀ i, inv i → W E N rd md c (WLoopM E N st df Hs inv μ i Q) ⟨st i, df i⟩ (Hs i)) : W E N rd md (.loop c) Q ⟨ts, ds⟩ H := by
  subst hd0
  intro g0 g w a' hd hl hr ha
  obtain ⟨g1, k1, k2, k3⟩ := h1 g0 g w a' hd hl hr ha
  refine wpV_loopI (I := fun (i : { i : ι // inv i }) a' w' => ∃ g, GLe g0 g ∧ E.Rep g (Hs i.1) w' ∧ ARel g ⟨st i.1, df i.1⟩ a') (fun i => μ i.1) ?_ ⟨i0, h0⟩ ⟨g1, k1, k2, k3⟩
  rintro ⟨i, hi⟩ a1 w1 ⟨g1, hl1, hr1, ha1⟩
  refine wpV_mono (W_sound c _ _ _ (round i hi) g0 g1 w1 a1 hd hl1 hr1 ha1) ?_
  rintro e a2 w2 ⟨x, A, H', g', hq, hl', hr', ha', hx⟩
  cases hx with
  | normal =>
    obtain ⟨j, hj, hlt, hds, hsh⟩ := hq
    obtain ⟨ts', ds'⟩ := A
    simp only at hds hsh
    subst hds
    obtain ⟨g2, q1, q2, q3⟩ := hsh g0 g' w2 a2 hd hl' hr' ha'
    exact ⟨⟨j, hj⟩, ⟨g2, q1, q2, q3⟩, hlt⟩
  | exit id => exact ⟨.exit id, A, H', g', hq, hl', hr', ha', .exit id⟩
  | goto l => exact ⟨.goto l, A, H', g', hq, hl', hr', ha', .goto l⟩
  | ret => exact ⟨.ret, A, H', g', hq, hl', hr', ha', .ret⟩
  | panic hp => exact ⟨.panic _, A, H', g', hq, hl', hr', ha', .panic hp⟩
/-- Marks let go one by one. -/
def killL (H : List AO) (ms : List Nat) : List AO := ms.foldl (fun H m => H.set m .dead) H
theorem killL_app {A : List AO} : ∀ (ms : List Nat) (l : List AO), (∀ m ∈ ms, A.length ≤ m) → ∃ l', killL (A ++ l) ms = A ++ l'
  | [], l, _ => ⟨l, rfl⟩
  | m :: ms, l, h => by
    obtain ⟨l', e⟩ := killL_app ms (l.set (m - A.length) .dead) fun x hx => h x (List.mem_cons_of_mem _ hx)
    refine ⟨l', ?_⟩
    rw [← e]
    show killL ((A ++ l).set m .dead) ms = _
    rw [List.set_append_right _ _ (h m (List.mem_cons_self ..))]
theorem fpost_ret_marks {fn : Func} {R : AE → List AO → Prop} {v : AV} (hv : ∀ H, evResults E fn ts H = some v) : ∀ (ms : List Nat) (H : List AO), ms.Nodup → (∀ m ∈ ms, H[m]? = some .defr) → Out N R (.ret v) (killL H ms) → FPost E N fn R .ret ⟨ts, ms.map .mark⟩ H
  | [], H, _, _, h => by simp only [FPost, ALeave, List.map_nil, hv]; exact h
  | m :: ms, H, hn, hm, h => by
    have hn2 := List.nodup_cons.1 hn
    have ih := fpost_ret_marks (fn := fn) (R := R) hv ms (H.set m .dead) hn2.2 (fun x hx => by
      rw [List.getElem?_set_ne (fun e => hn2.1 (by rw [e]; exact hx))]
      exact hm x (List.mem_cons_of_mem _ hx)) h
    simp only [FPost, List.map_cons, ALeave] at ih ⊢
    exact ⟨hm m (List.mem_cons_self ..), ih⟩
end Go.Ab
