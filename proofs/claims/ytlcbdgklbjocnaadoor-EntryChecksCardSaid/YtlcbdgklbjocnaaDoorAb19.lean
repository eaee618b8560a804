/- The abstract view, 19: loops by a family of temporaries; numbers that are in range; small helps. -/
import Derived.Test.YtlcbdgklbjocnaaDoorAb18
set_option linter.unusedVariables false
set_option linter.unusedSimpArgs false
namespace Go.Ab
open Go Go.RowKit

variable {E : Env} {N : Nat} {rd : Option Nat} {md : Nat → Nat} {Q : APost} {a b : AAct} {H : List AO}

/-- What is asked behind a round of a loop. -/
def WLoop {ι : Type} (st : ι → List AV) (ds : List ADef) (Hs : ι → List AO) (inv : ι → Prop) (μ : ι → Nat) (i : ι) (Q : APost) : APost :=
  AX.then (fun a' H' => ∃ j, inv j ∧ μ j < μ i ∧ fgt a'.tmps (st j) ∧ a'.defers = ds ∧ H' = Hs j) Q
theorem wloop_normal {ι : Type} {st : ι → List AV} {ds : List ADef} {Hs : ι → List AO} {inv : ι → Prop} {μ : ι → Nat} {i : ι} (j : ι) {ts : List AV} (h1 : inv j) (h2 : μ j < μ i) (h3 : fgt ts (st j)) (h4 : H = Hs j) : WLoop st ds Hs inv μ i Q .normal ⟨ts, ds⟩ H := ⟨j, h1, h2, h3, rfl, h4⟩
theorem wloop_exit {ι : Type} {st : ι → List AV} {ds : List ADef} {Hs : ι → List AO} {inv : ι → Prop} {μ : ι → Nat} {i : ι} {id : Nat} (h : Q (.exit id) a H) : WLoop st ds Hs inv μ i Q (.exit id) a H := h
theorem wloop_goto {ι : Type} {st : ι → List AV} {ds : List ADef} {Hs : ι → List AO} {inv : ι → Prop} {μ : ι → Nat} {i : ι} {l : Nat} (h : Q (.goto l) a H) : WLoop st ds Hs inv μ i Q (.goto l) a H := h
theorem wloop_ret {ι : Type} {st : ι → List AV} {ds : List ADef} {Hs : ι → List AO} {inv : ι → Prop} {μ : ι → Nat} {i : ι} (h : Q .ret a H) : WLoop st ds Hs inv μ i Q .ret a H := h
theorem wloop_panic {ι : Type} {st : ι → List AV} {ds : List ADef} {Hs : ι → List AO} {inv : ι → Prop} {μ : ι → Nat} {i : ι} {ch : List APanic} (h : Q (.panic ch) a H) : WLoop st ds Hs inv μ i Q (.panic ch) a H := h

theorem w_loop_by {c : Code} {ι : Type} {ts : List AV} {ds : List ADef} (st : ι → List AV) (Hs : ι → List AO) (inv : ι → Prop) (μ : ι → Nat) (i0 : ι) (h0 : inv i0) (h1 : fgt ts (st i0)) (h2 : H = Hs i0)
    (round : ∀ i, inv i → W E N rd md c (WLoop st ds Hs inv μ i Q) ⟨st i, ds⟩ (Hs i)) : W E N rd md (.loop c) Q ⟨ts, ds⟩ H := by
  refine wpc_loop (ι := { i : ι // inv i }) (fun i => (⟨st i.1, ds⟩, Hs i.1)) (fun i => μ i.1) ⟨i0, h0⟩ ⟨rfl, h1, h2⟩ ?_
  rintro ⟨i, hi⟩
  refine WPc.mono (W_sound c _ _ _ (round i hi)) ?_
  intro x a H hq
  cases x <;> first | exact hq | skip
  obtain ⟨j, h1, h2, h3, h4, h5⟩ := hq
  exact ⟨⟨j, h1⟩, h2, h4.symm, h3, h5⟩

theorem w_loop_at {c : Code} {ι : Type} {ts : List AV} {ds : List ADef} (st : ι → List AV) (inv : ι → Prop) (μ : ι → Nat) (i0 : ι) (h0 : inv i0) (h1 : fgt ts (st i0))
    (round : ∀ i, inv i → W E N rd md c (WLoop st ds (fun _ => H) inv μ i Q) ⟨st i, ds⟩ H) : W E N rd md (.loop c) Q ⟨ts, ds⟩ H :=
  w_loop_by st (fun _ => H) inv μ i0 h0 h1 rfl round

theorem wrap_in {k : IntKind} {n : Int} (h1 : k.min ≤ n) (h2 : n ≤ k.max) : k.wrap n = n := by
  cases k <;> simp only [IntKind.wrap, IntKind.min, IntKind.max, IntKind.signed, IntKind.bits] at * <;> simp_all <;> omega

theorem wrap_i64 {n : Int} (h1 : -9223372036854775808 ≤ n) (h2 : n ≤ 9223372036854775807) : IntKind.i64.wrap n = n := wrap_in h1 h2
theorem wrap_u64 {n : Int} (h1 : 0 ≤ n) (h2 : n ≤ 18446744073709551615) : IntKind.u64.wrap n = n := wrap_in h1 h2
theorem wrap_i32 {n : Int} (h1 : -2147483648 ≤ n) (h2 : n ≤ 2147483647) : IntKind.i32.wrap n = n := wrap_in h1 h2
theorem wrap_u32 {n : Int} (h1 : 0 ≤ n) (h2 : n ≤ 4294967295) : IntKind.u32.wrap n = n := wrap_in h1 h2
theorem wrap_u8 {n : Int} (h1 : 0 ≤ n) (h2 : n ≤ 255) : IntKind.u8.wrap n = n := wrap_in h1 h2

theorem toNat_sub1 (n : Nat) : ((n : Int) - 1).toNat = n - 1 := by omega
theorem toNat_add1 (n : Nat) : ((n : Int) + 1).toNat = n + 1 := by omega
theorem toNat_addN (a b : Nat) : ((a : Int) + (b : Int)).toNat = a + b := by omega
theorem toNat_subN (a b : Nat) : ((a : Int) - (b : Int)).toNat = a - b := by omega

theorem getE {α : Type} (H l : List α) (k : Nat) : (H ++ l)[H.length + k]? = l[k]? := by rw [List.getElem?_append_right (by omega)]; congr 1; omega
theorem getE0 {α : Type} (H l : List α) : (H ++ l)[H.length]? = l[0]? := getE H l 0
theorem setE {α : Type} (H l : List α) (k : Nat) (x : α) : (H ++ l).set (H.length + k) x = H ++ l.set k x := by rw [List.set_append_right _ _ (by omega)]; congr 2; omega
theorem setE0 {α : Type} (H l : List α) (x : α) : (H ++ l).set H.length x = H ++ l.set 0 x := setE H l 0 x

theorem fgt_nil : fgt [] [] := trivial
theorem fgt_top {x : AV} {xs ys : List AV} (h : fgt xs ys) : fgt (x :: xs) (.top :: ys) := ⟨.inr rfl, h⟩
theorem fgt_same {x y : AV} {xs ys : List AV} (e : y = x) (h : fgt xs ys) : fgt (x :: xs) (y :: ys) := ⟨.inl e, h⟩

/-- Truth of a sentence, as a bool. -/
noncomputable def tf (p : Prop) : Bool := @decide p (Classical.propDecidable p)
theorem tf_true {p : Prop} (h : p) : tf p = true := by unfold tf; exact @decide_eq_true _ (Classical.propDecidable p) h
theorem tf_false {p : Prop} (h : ¬ p) : tf p = false := by unfold tf; exact @decide_eq_false _ (Classical.propDecidable p) h
theorem tf_congr {p q : Prop} (h : p ↔ q) : tf p = tf q := by rw [propext h]
theorem tf_iff {p : Prop} : tf p = true ↔ p := by unfold tf; exact @decide_eq_true_iff _ (Classical.propDecidable p)
theorem tf_not_iff {p : Prop} : tf p = false ↔ ¬ p := by unfold tf; exact @decide_eq_false_iff_not _ (Classical.propDecidable p)
theorem tf_decide {p : Prop} [d : Decidable p] : decide p = tf p := by by_cases h : p <;> simp [h, tf_true, tf_false]
theorem not_tf {p : Prop} : (!tf p) = tf (¬ p) := by by_cases h : p <;> simp [h, tf_true, tf_false]

mutual
theorem within_mono {n m : Nat} (h : n ≤ m) : ∀ v : AV, v.within n = true → v.within m = true
  | .top, _ | .bool _, _ | .int _ _, _ | .str _, _ | .nilp, _ | .nilmap, _ | .nilfn, _ | .nili, _ => rfl
  | .ref id _, k => by simp only [AV.within, decide_eq_true_eq] at *; omega
  | .msl id _ _, k => by simp only [AV.within, decide_eq_true_eq] at *; omega
  | .map id, k => by simp only [AV.within, decide_eq_true_eq] at *; omega
  | .yield id, k => by simp only [AV.within, decide_eq_true_eq] at *; omega
  | .row xs, k => by simp only [AV.within] at *; exact belowL_mono h xs k
  | .agg xs, k => by simp only [AV.within] at *; exact belowL_mono h xs k
  | .tup xs, k => by simp only [AV.within] at *; exact belowL_mono h xs k
  | .iface _ v, k => by simp only [AV.within] at *; exact within_mono h v k
  | .fn _ xs ys, k => by simp only [AV.within, Bool.and_eq_true] at *; exact ⟨belowL_mono h xs k.1, belowL_mono h ys k.2⟩
  | .sl _ xs tok, k => by
    simp only [AV.within, Bool.and_eq_true] at *
    refine ⟨belowL_mono h xs k.1, ?_⟩
    have := k.2
    split
    · simp only [decide_eq_true_eq] at *; omega
    · rfl
theorem belowL_mono {n m : Nat} (h : n ≤ m) : ∀ xs : List AV, belowL n xs = true → belowL m xs = true
  | [], _ => rfl
  | x :: xs, k => by simp only [belowL, Bool.and_eq_true] at *; exact ⟨within_mono h x k.1, belowL_mono h xs k.2⟩
end

theorem AO.within_mono {n m : Nat} (h : n ≤ m) {o : AO} (k : o.within n = true) : o.within m = true := by
  cases o <;> simp only [AO.within, Bool.and_eq_true, decide_eq_true_eq, List.all_eq_true] at * <;> first | trivial | exact belowL_mono h _ k | skip
  · exact ⟨belowL_mono h _ k.1, by omega⟩
  · exact fun e he => ⟨Go.Ab.within_mono h _ (k e he).1, Go.Ab.within_mono h _ (k e he).2⟩

theorem Fit.mono {n m : Nat} {H : List AO} (h : n ≤ m) (k : Fit n H) : Fit m H := fun o ho => AO.within_mono h (k o ho)
theorem Fit.append {n : Nat} {H l : List AO} (k : Fit n H) (k2 : Fit n l) : Fit n (H ++ l) := fun o ho => by
  rcases List.mem_append.1 ho with h | h
  · exact k o h
  · exact k2 o h
theorem fit_nil {n : Nat} : Fit n [] := fun o ho => by simp at ho
theorem fit_cons {n : Nat} {o : AO} {l : List AO} (h : o.within n = true) (k : Fit n l) : Fit n (o :: l) := fun o' ho => by
  rcases List.mem_cons.1 ho with h' | h'
  · subst h'; exact h
  · exact k o' h'
/-- A heap that grew. -/
theorem Out.ext {R : AE → List AO → Prop} {x : AE} {H : List AO} (l : List AO) {n : Nat} (hn : H.length + l.length = n) (hf : Fit H.length H) (hl : Fit n l) (hx : x.within n = true) (h : R x (H ++ l)) : Out H.length R x (H ++ l) := by
  have e : (H ++ l).length = n := by rw [List.length_append, hn]
  exact Out.of (by rw [e]; omega) (by rw [e]; exact Fit.append (Fit.mono (by omega) hf) hl) (by rw [e]; exact hx) h

end Go.Ab
