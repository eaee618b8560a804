/- The abstract view, 32: regions that are drawn, with readers of memory that are not ordered against what turns memory elsewhere. Printed by gen32.py. -/
import Derived.Test.YtocoejhiphcehaaGreatDoorFrE
set_option linter.unusedVariables false
set_option linter.unusedSimpArgs false
namespace Go.Ab
open Go Go.RowKit

variable {E : Env} {N : Nat} {rd : Option Nat} {md : Nat → Nat} {Q : APost} {a b : AAct} {H H2 : List AO}

/-- One reader comes in a settled order with what turns memory, but for the steps that are named. -/
def okSi (md : Nat → Nat) (ops : Array Oper) (pan : Option Nat) (same : List Nat) (i : Nat) : Bool :=
  let T := ancT ops.toList []
  let roles := rolesOf md pan ops.toList 0
  (List.range ops.size).all fun j => match roles.getD j .pure with
      | .step _ => (T.getD i []).contains j || (T.getD j []).contains i || same.contains j
      | _ => true
def okSP (md : Nat → Nat) (ops : Array Oper) (pan : Option Nat) (same sp st : List Nat) : Bool :=
  (List.range ops.size).all fun i => match ops[i]? with
    | some o => !(readerOp o.op) || stepOp md o || okSi md ops pan same i || (st.contains i && okSi md ops pan sp i)
    | none => true

theorem allowed_gen (R : List AO → Prop) {ops : Array Oper} {l : List Oper} (hl : ops = l.toArray) {ds : List ADef} {ts : List AV} {es : List En} {out : DOut} (h : Tr E md ops ds l ts H es out) {n : Nat} (hR : okR ops n = true) {same : List Nat} (hsame : ∀ j ∈ same, ∃ e, es[j]? = some e ∧ (R e.H' ↔ R e.H))  {i k : Nat} {o : Oper} {e : En} (ho : l[i]? = some o) (he : es[i]? = some e)
    (hSi : okSi md ops (panOf 0 es out) same i = true) (hown : R e.H) (hp : (rolesOf md (panOf 0 es out) l 0).getD i .pure = .pure) (ha : allowed (ancT ops.toList []) ops.size (rolesOf md (panOf 0 es out) l 0) i k = true) : R (hsAt md l es out k) := by
  have hnum : ∀ j m, (rolesOf md (panOf 0 es out) l 0).getD j .pure = .step m → m = nSteps ((rolesOf md (panOf 0 es out) l 0).take j) := fun j m h => by have := rolesOf_num md l (panOf 0 es out) 0 j m h; omega
  have hlen := rolesOf_len md l (panOf 0 es out) 0
  have hpure := hs_pure h 0 i e he hp
  have hil := (List.getElem?_eq_some_iff.1 ho).1
  have hsz : ops.size = l.length := by subst hl; simp
  have hlist : ops.toList = l := by subst hl; simp
  unfold okSi at hSi
  simp only [hlist] at hSi
  have hat := fun m j e2 (he2 : es[j]? = some e2) => (hs_at h 0 j m e2 he2).1
  have hstepe : ∀ j m, (rolesOf md (panOf 0 es out) l 0).getD j .pure = .step m → ∃ e2, es[j]? = some e2 := by
    intro j m hj
    have hjl : j < l.length := by
      by_cases hh : j < l.length
      · exact hh
      · rw [List.getD_eq_getElem?_getD, List.getElem?_eq_none (by omega)] at hj; simp at hj
    rcases role_told h 0 j l[j] (List.getElem?_eq_getElem hjl) with h1 | ⟨e2, h1, _⟩
    · rw [h1] at hj; simp at hj
    · exact ⟨e2, h1⟩
  generalize hroles : rolesOf md (panOf 0 es out) l 0 = roles at *
  -- a step that is not settled against i leaves the heap
  have conn : ∀ j m, roles.getD j .pure = .step m → (j < i → k ≤ m → (R ((hsOf md l es out.heap).getD (m + 1) out.heap) ↔ R ((hsOf md l es out.heap).getD m out.heap))) ∧ (i < j → m < k → (R ((hsOf md l es out.heap).getD (m + 1) out.heap) ↔ R ((hsOf md l es out.heap).getD m out.heap))) := by
    intro j m hj
    have hjlt : j < ops.size := by
      by_cases hh : j < ops.size
      · exact hh
      · rw [List.getD_eq_getElem?_getD, List.getElem?_eq_none (by omega)] at hj; simp at hj
    have h1 := List.all_eq_true.1 hSi j (List.mem_range.2 hjlt)
    have h2 := List.all_eq_true.1 ha j (List.mem_range.2 hjlt)
    rw [hj] at h1 h2
    rw [hlist] at h2
    have hlt := ancT_lt hR
    rw [hlist] at hlt
    simp only [Bool.or_eq_true, Bool.and_eq_true, Bool.not_eq_true', decide_eq_true_eq] at h1 h2
    have flat : same.contains j = true → (R ((hsOf md l es out.heap).getD (m + 1) out.heap) ↔ R ((hsOf md l es out.heap).getD m out.heap)) := by
      intro hc
      obtain ⟨e2, q1, q2⟩ := hsame j (by simpa using hc)
      obtain ⟨_, q3, q4⟩ := hat m j e2 q1 hj
      simp only [Nat.sub_zero] at q3 q4
      rw [q3, q4]; exact q2
    rcases h1 with (h1 | h1) | h1
    · have := hlt i j (by simpa using h1)
      have h3 := h2.1.resolve_left (by rw [h1]; simp)
      exact ⟨fun _ hk => by omega, fun hh => by omega⟩
    · have := hlt j i (by simpa using h1)
      have h3 := h2.2.resolve_left (by rw [h1]; simp)
      exact ⟨fun hh => by omega, fun _ hk => by omega⟩
    · exact ⟨fun _ _ => flat h1, fun _ _ => flat h1⟩
  have hmono : ∀ p q, p ≤ q → nSteps (roles.take p) ≤ nSteps (roles.take q) := by
    intro p q hpq
    induction hpq with
    | refl => exact Nat.le_refl _
    | step _ ih => exact Nat.le_trans ih (by rw [nSteps_succ]; omega)
  have hle : nSteps (roles.take i) ≤ nSteps roles := by
    simp only [nSteps_eq]
    exact ((List.take_sublist i roles).filter _).length_le
  -- where a step with a number stands
  have side : ∀ j m, roles.getD j .pure = .step m → (m < nSteps (roles.take i) → j < i) ∧ (nSteps (roles.take i) ≤ m → i < j) := by
    intro j m hj
    have hm := hnum j m hj
    refine ⟨fun hlt => ?_, fun hge => ?_⟩
    · by_cases hh : j < i
      · exact hh
      · have := hmono i j (by omega); omega
    · by_cases hh : i < j
      · exact hh
      · have hne : j ≠ i := by rintro rfl; rw [hp] at hj; simp at hj
        have := hmono (j + 1) i (by omega)
        rw [nSteps_succ, hj] at this
        simp only [Role.isStep, if_true] at this
        omega
  -- walking from i's own place
  have up : ∀ d, nSteps (roles.take i) + d ≤ min k (nSteps roles) → R ((hsOf md l es out.heap).getD (nSteps (roles.take i) + d) out.heap) := by
    intro d
    induction d with
    | zero => intro _; rw [Nat.add_zero, hpure]; exact hown
    | succ d ih =>
      intro hd
      obtain ⟨j, hj⟩ := step_ex hnum (nSteps (roles.take i) + d) (by omega)
      have := (conn j _ hj).2 ((side j _ hj).2 (by omega)) (by omega)
      rw [show nSteps (roles.take i) + (d + 1) = nSteps (roles.take i) + d + 1 by omega]
      exact this.2 (ih (by omega))
  have down : ∀ d, d ≤ nSteps (roles.take i) → k ≤ nSteps (roles.take i) - d → R ((hsOf md l es out.heap).getD (nSteps (roles.take i) - d) out.heap) := by
    intro d
    induction d with
    | zero => intro _ _; rw [Nat.sub_zero, hpure]; exact hown
    | succ d ih =>
      intro hd hk
      obtain ⟨j, hj⟩ := step_ex hnum (nSteps (roles.take i) - (d + 1)) (by omega)
      have := (conn j _ hj).1 ((side j _ hj).1 (by omega)) (by omega)
      rw [show nSteps (roles.take i) - (d + 1) + 1 = nSteps (roles.take i) - d by omega] at this
      exact this.1 (ih (by omega) (by omega))
  unfold hsAt
  rw [hroles]
  rcases Nat.lt_or_ge (min k (nSteps roles)) (nSteps (roles.take i)) with hlt | hge
  · have := down (nSteps (roles.take i) - min k (nSteps roles)) (by omega) (by omega)
    rwa [show nSteps (roles.take i) - (nSteps (roles.take i) - min k (nSteps roles)) = min k (nSteps roles) by omega] at this
  · have := up (min k (nSteps roles) - nSteps (roles.take i)) (by omega)
    rwa [show nSteps (roles.take i) + (min k (nSteps roles) - nSteps (roles.take i)) = min k (nSteps roles) by omega] at this


def DKP (md : Nat → Nat) (l : List Oper) (n : Nat) (Q : APost) (ds : List ADef) (pan : Option Nat) (same sp st : List Nat) (out : DOut) : Prop := (okPlan md l.toArray n pan && okSP md l.toArray pan same sp st) = true ∧ DFin Q ds out
/-- The operations from number i on. same: steps before that left the heap as it was; sp: that left P; st: readers that read the same wherever P holds. -/
def TrP (E : Env) (md : Nat → Nat) (ops : Array Oper) (ds : List ADef) (P : List AO → Prop) (i : Nat) (same sp st : List Nat) (l : List Oper) (ts : List AV) (H : List AO) (K : Option Nat → List Nat → List Nat → List Nat → DOut → Prop) : Prop :=
  ∃ es out sm sq su, Tr E md ops ds l ts H es out ∧ (∀ j ∈ sm, j ∈ same ∨ (i ≤ j ∧ ∃ e, es[j - i]? = some e ∧ e.H' = e.H)) ∧ (∀ j ∈ sq, j ∈ sp ∨ (i ≤ j ∧ ∃ e, es[j - i]? = some e ∧ (P e.H' ↔ P e.H))) ∧
    (∀ j ∈ su, j ∈ st ∨ (i ≤ j ∧ ∃ e o, es[j - i]? = some e ∧ l[j - i]? = some o ∧ P e.H ∧ ∀ H', P H' → Ent E md ops ds o e.ts H' e.v H')) ∧ K (panOf i es out) sm sq su out

theorem w_drawnP (P : List AO → Prop) {id : Nat} {l : List Oper} {ts0 : List AV} {ds : List ADef} (hrd : ∀ l, rd = some l → l < N) {n : Nat} (hn : ts0.length = n) (h : TrP E md l.toArray ds P 0 [] [] [] l ts0 H (DKP md l n Q ds)) : W E N rd md (.region id l.toArray true) Q ⟨ts0, ds⟩ H := by
  subst hn
  obtain ⟨es, out, sm, sq, su, htr, hsm, hsq, hsu, hok, hfin⟩ := h
  rw [Bool.and_eq_true] at hok
  refine w_drawn hrd htr hok.1 (fun i o e ho he hr hs hp k ha => ?_) hfin
  have hR : okR l.toArray ts0.length = true := by have := hok.1; simp only [okPlan, Bool.and_eq_true] at this; exact this.1.1.1
  have hil := (List.getElem?_eq_some_iff.1 ho).1
  have hSi := List.all_eq_true.1 hok.2 i (List.mem_range.2 (by simpa using hil))
  rw [show l.toArray[i]? = some o by simpa using ho] at hSi
  simp only [hr, hs, Bool.not_true, Bool.false_or, Bool.or_eq_true, Bool.and_eq_true] at hSi
  rcases hSi with hSi | ⟨hst, hSi⟩
  · have hH := allowed_gen (fun X => X = e.H) rfl htr hR (fun j hj => by
      rcases hsm j hj with h | ⟨_, e2, h, h3⟩
      · simp at h
      · rw [Nat.sub_zero] at h; exact ⟨e2, h, by rw [h3]⟩) ho he hSi rfl hp (by simpa using ha)
    rw [hH]
    rcases role_told htr 0 i o ho with h | ⟨e2, he2, h2, _⟩
    · rw [h] at hp; simp at hp
    · have := tr_ent htr i o e ho he (h2 hp).2
      have h3 := this.2 hs
      rw [h3] at this
      exact this.1
  · rcases hsu i (by simpa using hst) with h | ⟨_, e2, o2, h1, h2, h3, h4⟩
    · simp at h
    rw [Nat.sub_zero] at h1 h2
    obtain rfl := Option.some.inj (he.symm.trans h1)
    obtain rfl := Option.some.inj (ho.symm.trans h2)
    exact h4 _ (allowed_gen P rfl htr hR (fun j hj => by
      rcases hsq j hj with h | ⟨_, e2, h, h3⟩
      · simp at h
      · rw [Nat.sub_zero] at h; exact ⟨e2, h, h3⟩) ho he hSi h3 hp (by simpa using ha))

variable {ops : Array Oper} {ds : List ADef} {i : Nat} {o : Oper} {l : List Oper} {ts : List AV} {P : List AO → Prop} {same sp st : List Nat} {K : Option Nat → List Nat → List Nat → List Nat → DOut → Prop}

theorem trP_nil (h : K none same sp st (.normal ts H)) : TrP E md ops ds P i same sp st [] ts H K := ⟨[], _, same, sp, st, .nil, fun j hj => .inl hj, fun j hj => .inl hj, fun j hj => .inl hj, h⟩
theorem shiftI {i j : Nat} (h : i + 1 ≤ j) : j - i = (j - (i + 1)) + 1 := by omega
theorem trP_gen {v : AV} {H' : List AO} {same2 sp2 st2 : List Nat} (h : Ent E md ops ds o ts H v H') (hs : stepOp md o = false → H' = H) (h1 : ∀ j ∈ same2, j ∈ same ∨ (j = i ∧ H' = H)) (h2 : ∀ j ∈ sp2, j ∈ sp ∨ (j = i ∧ (P H' ↔ P H)))
    (h3 : ∀ j ∈ st2, j ∈ st ∨ (j = i ∧ P H ∧ ∀ H', P H' → Ent E md ops ds o ts H' v H')) (k : TrP E md ops ds P (i + 1) same2 sp2 st2 l (putL ts o.dst v) H' K) : TrP E md ops ds P i same sp st (o :: l) ts H K := by
  obtain ⟨es, out, sm, sq, su, htr, hsm, hsq, hsu, hk⟩ := k
  refine ⟨_, out, sm, sq, su, .cons h hs htr, fun j hj => ?_, fun j hj => ?_, fun j hj => ?_, by rw [panOf_cons]; exact hk⟩
  · rcases hsm j hj with h4 | ⟨h4, e, h5, h6⟩
    · rcases h1 j h4 with h7 | ⟨rfl, h7⟩
      · exact .inl h7
      · exact .inr ⟨Nat.le_refl _, _, by simp; rfl, h7⟩
    · exact .inr ⟨by omega, e, by rw [shiftI h4]; simpa using h5, h6⟩
  · rcases hsq j hj with h4 | ⟨h4, e, h5, h6⟩
    · rcases h2 j h4 with h7 | ⟨rfl, h7⟩
      · exact .inl h7
      · exact .inr ⟨Nat.le_refl _, _, by simp; rfl, h7⟩
    · exact .inr ⟨by omega, e, by rw [shiftI h4]; simpa using h5, h6⟩
  · rcases hsu j hj with h4 | ⟨h4, e, o2, h5, h5', h6⟩
    · rcases h3 j h4 with h7 | ⟨rfl, h7⟩
      · exact .inl h7
      · exact .inr ⟨Nat.le_refl _, ⟨ts, H, v, H'⟩, o, by simp, by simp, h7⟩
    · exact .inr ⟨by omega, e, o2, by rw [shiftI h4]; simpa using h5, by rw [shiftI h4]; simpa using h5', h6⟩
theorem trP_cons {v : AV} {H' : List AO} (h : Ent E md ops ds o ts H v H') (hs : stepOp md o = false → H' = H) (k : TrP E md ops ds P (i + 1) same sp st l (putL ts o.dst v) H' K) : TrP E md ops ds P i same sp st (o :: l) ts H K :=
  trP_gen h hs (fun _ h => .inl h) (fun _ h => .inl h) (fun _ h => .inl h) k
theorem trP_cons_k {v : AV} {H' : List AO} (hP1 : P H) (hP2 : P H') (h : Ent E md ops ds o ts H v H') (hs : stepOp md o = false → H' = H) (k : TrP E md ops ds P (i + 1) same (i :: sp) st l (putL ts o.dst v) H' K) : TrP E md ops ds P i same sp st (o :: l) ts H K :=
  trP_gen h hs (fun _ h => .inl h) (fun j h => by
    rcases List.mem_cons.1 h with h | h
    · exact .inr ⟨h, iff_of_true hP2 hP1⟩
    · exact .inl h) (fun _ h => .inl h) k
theorem trP_cons_same {v : AV} (h : Ent E md ops ds o ts H v H) (k : TrP E md ops ds P (i + 1) (i :: same) (i :: sp) st l (putL ts o.dst v) H K) : TrP E md ops ds P i same sp st (o :: l) ts H K :=
  trP_gen h (fun _ => rfl) (fun j h => by
    rcases List.mem_cons.1 h with h | h
    · exact .inr ⟨h, rfl⟩
    · exact .inl h) (fun j h => by
    rcases List.mem_cons.1 h with h | h
    · exact .inr ⟨h, Iff.rfl⟩
    · exact .inl h) (fun _ h => .inl h) k
/-- A reader that reads the same wherever P holds. -/
theorem trP_stab (hr : readerOp o.op = true) (hg : guardOk ops ⟨ts, ds⟩ o = some true) (hp : pureOp o.op = true) {d : Tmp} (hd : o.dst = some d) {v : AV} (hv : ∀ H', P H' → evPure E ⟨ts, ds⟩ H' o = some v) (hP : P H) {ts2 : List AV} (hs : ts.set d v = ts2) (k : TrP E md ops ds P (i + 1) (i :: same) (i :: sp) (i :: st) l ts2 H K) : TrP E md ops ds P i same sp st (o :: l) ts H K :=
  trP_gen (.pure hg hp (hv H hP)) (fun _ => rfl) (fun j h => by
    rcases List.mem_cons.1 h with h | h
    · exact .inr ⟨h, rfl⟩
    · exact .inl h) (fun j h => by
    rcases List.mem_cons.1 h with h | h
    · exact .inr ⟨h, Iff.rfl⟩
    · exact .inl h) (fun j h => by
    rcases List.mem_cons.1 h with h | h
    · exact .inr ⟨h, hP, fun H' h' => .pure hg hp (hv H' h')⟩
    · exact .inl h) (by rw [hd]; subst hs; exact k)
theorem trP_pure (hg : guardOk ops ⟨ts, ds⟩ o = some true) (hp : pureOp o.op = true) {d : Tmp} (hd : o.dst = some d) {v : AV} (hv : evPure E ⟨ts, ds⟩ H o = some v) {ts2 : List AV} (hs : ts.set d v = ts2) (k : TrP E md ops ds P (i + 1) (i :: same) (i :: sp) st l ts2 H K) : TrP E md ops ds P i same sp st (o :: l) ts H K :=
  trP_cons_same (.pure hg hp hv) (by rw [hd]; subst hs; exact k)
theorem trP_off (hg : guardOk ops ⟨ts, ds⟩ o = some false) {d : Tmp} (hd : o.dst = some d) {ts2 : List AV} (hs : ts.set d (.tup []) = ts2) (k : TrP E md ops ds P (i + 1) (i :: same) (i :: sp) st l ts2 H K) : TrP E md ops ds P i same sp st (o :: l) ts H K :=
  trP_cons_same (.off hg) (by rw [hd]; subst hs; exact k)
theorem trP_heap (hg : guardOk ops ⟨ts, ds⟩ o = some true) (hp : heapOp o.op = true) {d : Tmp} (hd : o.dst = some d) {v : AV} {H' : List AO} (hv : evHeap E md ⟨ts, ds⟩ H o = some (v, H')) (hst : stepOp md o = false → H' = H) {ts2 : List AV} (hs : ts.set d v = ts2) (k : TrP E md ops ds P (i + 1) same sp st l ts2 H' K) : TrP E md ops ds P i same sp st (o :: l) ts H K :=
  trP_cons (.heap hg hp hv) hst (by rw [hd]; subst hs; exact k)
theorem trP_heap0 (hg : guardOk ops ⟨ts, ds⟩ o = some true) (hp : heapOp o.op = true) (hd : o.dst = none) {v : AV} {H' : List AO} (hv : evHeap E md ⟨ts, ds⟩ H o = some (v, H')) (hst : stepOp md o = false → H' = H) (k : TrP E md ops ds P (i + 1) same sp st l ts H' K) : TrP E md ops ds P i same sp st (o :: l) ts H K :=
  trP_cons (.heap hg hp hv) hst (by rw [hd]; exact k)
theorem trP_conv (hg : guardOk ops ⟨ts, ds⟩ o = some true) {s t : TypeId} {x : Operand} (hp : o.op = .convert s t x) {d : Tmp} (hd : o.dst = some d) {v : AV} {H' : List AO} (h0 : evPure E ⟨ts, ds⟩ H o = none) (hv : evHeap E md ⟨ts, ds⟩ H o = some (v, H')) (hst : stepOp md o = false → H' = H) {ts2 : List AV} (hs : ts.set d v = ts2) (k : TrP E md ops ds P (i + 1) same sp st l ts2 H' K) : TrP E md ops ds P i same sp st (o :: l) ts H K :=
  trP_cons (.conv hg hp h0 hv) hst (by rw [hd]; subst hs; exact k)
theorem trP_app (hg : guardOk ops ⟨ts, ds⟩ o = some true) {c : Call} (ho : o.op = .call c) (hc : c.callee = .builtin .append) {x y : Operand} {t t2 : TypeId} (hx : c.args = [x, y].toArray) (ht : c.argTypes = [t, t2].toArray) {i2 : TyI} (ht2 : E.ty t2 = some i2) (hi2 : (match i2.u with | .int _ => false | _ => true) = true)
    {v : AV} {H' : List AO} (hv : evAppend E H t (AAct.ev E.gl ⟨ts, ds⟩ x) (AAct.ev E.gl ⟨ts, ds⟩ y) = some (v, H')) {d : Tmp} (hd : o.dst = some d) {ts2 : List AV} (hs : ts.set d v = ts2) (k : TrP E md ops ds P (i + 1) same sp st l ts2 H' K) : TrP E md ops ds P i same sp st (o :: l) ts H K :=
  trP_cons (.app hg ho hc hx ht ht2 hi2 hv) (fun h => by simp only [stepOp, ho, hc] at h; simp at h) (by rw [hd]; subst hs; exact k)
theorem trP_ctr (hg : guardOk ops ⟨ts, ds⟩ o = some true) {c : Call} (ho : o.op = .call c) {f : Operand} (hc : c.callee = .value f) {fid : FuncId} {first cap : List AV} (hf : AAct.ev E.gl ⟨ts, ds⟩ f = .fn fid first cap) {args : List AV} (ha : first ++ evCallArgs ⟨ts, ds⟩ E.gl c ++ cap = args)
    {pre : Prop} {x : AV} {H2 : List AO} (inst : Ctr E fid args H pre x H2) (hp : pre) {x' : AV} (hx : x = x') {H2' : List AO} (hH : H2 = H2') {d : Tmp} (hd : o.dst = some d) {ts2 : List AV} (hs : ts.set d x' = ts2) (k : TrP E md ops ds P (i + 1) same sp st l ts2 H2' K) : TrP E md ops ds P i same sp st (o :: l) ts H K := by
  subst hx; subst hH
  exact trP_cons (.call hg ho hc hf ha (inst.call hp)) (fun h => by simp only [stepOp, ho, hc] at h; simp at h) (by rw [hd]; subst hs; exact k)
theorem trP_ctrs (hg : guardOk ops ⟨ts, ds⟩ o = some true) {c : Call} (ho : o.op = .call c) {f : Operand} (hc : c.callee = .value f) {fid : FuncId} {first cap : List AV} (hf : AAct.ev E.gl ⟨ts, ds⟩ f = .fn fid first cap) {args : List AV} (ha : first ++ evCallArgs ⟨ts, ds⟩ E.gl c ++ cap = args)
    {pre : Prop} {x : AV} (inst : Ctr E fid args H pre x H) (hp : pre) {x' : AV} (hx : x = x') {d : Tmp} (hd : o.dst = some d) {ts2 : List AV} (hs : ts.set d x' = ts2) (k : TrP E md ops ds P (i + 1) (i :: same) (i :: sp) st l ts2 H K) : TrP E md ops ds P i same sp st (o :: l) ts H K := by
  subst hx
  exact trP_cons_same (.call hg ho hc hf ha (inst.call hp)) (by rw [hd]; subst hs; exact k)
theorem trP_yield (hg : guardOk ops ⟨ts, ds⟩ o = some true) {c : Call} (ho : o.op = .call c) {f : Operand} (hc : c.callee = .value f) {lp : Nat} (hf : AAct.ev E.gl ⟨ts, ds⟩ f = .yield lp) {args : List AV} (ha : evCallArgs ⟨ts, ds⟩ E.gl c = args)
    {x : AV} {H2 : List AO} (h : ARound E lp args H (fun y H' => y = .ret x ∧ H' = H2)) {d : Tmp} (hd : o.dst = some d) {ts2 : List AV} (hs : ts.set d x = ts2) (k : TrP E md ops ds P (i + 1) same sp st l ts2 H2 K) : TrP E md ops ds P i same sp st (o :: l) ts H K :=
  trP_cons (.yield hg ho hc hf ha h) (fun h => by simp only [stepOp, ho, hc] at h; simp at h) (by rw [hd]; subst hs; exact k)
theorem trP_heap_k (hg : guardOk ops ⟨ts, ds⟩ o = some true) (hp : heapOp o.op = true) {d : Tmp} (hd : o.dst = some d) {v : AV} {H' : List AO} (hv : evHeap E md ⟨ts, ds⟩ H o = some (v, H')) (hst : stepOp md o = false → H' = H) {ts2 : List AV} (hs : ts.set d v = ts2) (hP1 : P H) (hP2 : P H') (k : TrP E md ops ds P (i + 1) same (i :: sp) st l ts2 H' K) : TrP E md ops ds P i same sp st (o :: l) ts H K :=
  trP_cons_k hP1 hP2 (.heap hg hp hv) hst (by rw [hd]; subst hs; exact k)

theorem trP_heap0_k (hg : guardOk ops ⟨ts, ds⟩ o = some true) (hp : heapOp o.op = true) (hd : o.dst = none) {v : AV} {H' : List AO} (hv : evHeap E md ⟨ts, ds⟩ H o = some (v, H')) (hst : stepOp md o = false → H' = H) (hP1 : P H) (hP2 : P H') (k : TrP E md ops ds P (i + 1) same (i :: sp) st l ts H' K) : TrP E md ops ds P i same sp st (o :: l) ts H K :=
  trP_cons_k hP1 hP2 (.heap hg hp hv) hst (by rw [hd]; exact k)

theorem trP_conv_k (hg : guardOk ops ⟨ts, ds⟩ o = some true) {s t : TypeId} {x : Operand} (hp : o.op = .convert s t x) {d : Tmp} (hd : o.dst = some d) {v : AV} {H' : List AO} (h0 : evPure E ⟨ts, ds⟩ H o = none) (hv : evHeap E md ⟨ts, ds⟩ H o = some (v, H')) (hst : stepOp md o = false → H' = H) {ts2 : List AV} (hs : ts.set d v = ts2) (hP1 : P H) (hP2 : P H') (k : TrP E md ops ds P (i + 1) same (i :: sp) st l ts2 H' K) : TrP E md ops ds P i same sp st (o :: l) ts H K :=
  trP_cons_k hP1 hP2 (.conv hg hp h0 hv) hst (by rw [hd]; subst hs; exact k)

theorem trP_app_k (hg : guardOk ops ⟨ts, ds⟩ o = some true) {c : Call} (ho : o.op = .call c) (hc : c.callee = .builtin .append) {x y : Operand} {t t2 : TypeId} (hx : c.args = [x, y].toArray) (ht : c.argTypes = [t, t2].toArray) {i2 : TyI} (ht2 : E.ty t2 = some i2) (hi2 : (match i2.u with | .int _ => false | _ => true) = true)
    {v : AV} {H' : List AO} (hv : evAppend E H t (AAct.ev E.gl ⟨ts, ds⟩ x) (AAct.ev E.gl ⟨ts, ds⟩ y) = some (v, H')) {d : Tmp} (hd : o.dst = some d) {ts2 : List AV} (hs : ts.set d v = ts2) (hP1 : P H) (hP2 : P H') (k : TrP E md ops ds P (i + 1) same (i :: sp) st l ts2 H' K) : TrP E md ops ds P i same sp st (o :: l) ts H K :=
  trP_cons_k hP1 hP2 (.app hg ho hc hx ht ht2 hi2 hv) (fun h => by simp only [stepOp, ho, hc] at h; simp at h) (by rw [hd]; subst hs; exact k)

theorem trP_ctr_k (hg : guardOk ops ⟨ts, ds⟩ o = some true) {c : Call} (ho : o.op = .call c) {f : Operand} (hc : c.callee = .value f) {fid : FuncId} {first cap : List AV} (hf : AAct.ev E.gl ⟨ts, ds⟩ f = .fn fid first cap) {args : List AV} (ha : first ++ evCallArgs ⟨ts, ds⟩ E.gl c ++ cap = args)
    {pre : Prop} {x : AV} {H2 : List AO} (inst : Ctr E fid args H pre x H2) (hp : pre) {x' : AV} (hx : x = x') {H2' : List AO} (hH : H2 = H2') {d : Tmp} (hd : o.dst = some d) {ts2 : List AV} (hs : ts.set d x' = ts2) (hP1 : P H) (hP2 : P H2') (k : TrP E md ops ds P (i + 1) same (i :: sp) st l ts2 H2' K) : TrP E md ops ds P i same sp st (o :: l) ts H K := by
  subst hx; subst hH
  exact trP_cons_k hP1 hP2 (.call hg ho hc hf ha (inst.call hp)) (fun h => by simp only [stepOp, ho, hc] at h; simp at h) (by rw [hd]; subst hs; exact k)

theorem trP_yield_k (hg : guardOk ops ⟨ts, ds⟩ o = some true) {c : Call} (ho : o.op = .call c) {f : Operand} (hc : c.callee = .value f) {lp : Nat} (hf : AAct.ev E.gl ⟨ts, ds⟩ f = .yield lp) {args : List AV} (ha : evCallArgs ⟨ts, ds⟩ E.gl c = args)
    {x : AV} {H2 : List AO} (h : ARound E lp args H (fun y H' => y = .ret x ∧ H' = H2)) {d : Tmp} (hd : o.dst = some d) {ts2 : List AV} (hs : ts.set d x = ts2) (hP1 : P H) (hP2 : P H2) (k : TrP E md ops ds P (i + 1) same (i :: sp) st l ts2 H2 K) : TrP E md ops ds P i same sp st (o :: l) ts H K :=
  trP_cons_k hP1 hP2 (.yield hg ho hc hf ha h) (fun h => by simp only [stepOp, ho, hc] at h; simp at h) (by rw [hd]; subst hs; exact k)

theorem dkP_normal {n : Nat} (hok : (okPlan md l.toArray n none && okSP md l.toArray none same sp st) = true) (h : Q .normal ⟨ts, ds⟩ H) : DKP md l n Q ds none same sp st (.normal ts H) := ⟨hok, h⟩

/-- As far as it goes within a region told by w_drawnP. -/
theorem goP {G G' : Prop} (k : G') (e : Hold G' → G := by
    intro k
    (first
      | ((with_reducible apply trP_stab); (· rfl); (· exact eGT); (· rfl); (· rfl); (· (intro X hX; first | (simp (disch := omega) only [hX, hh, go_sem, Int.reduceAdd, Nat.reduceAdd, Nat.reduceMul, Nat.reduceLeDiff, reduceIte]; exact rfl) | (simp (disch := omega) only [hX, go_sem, Int.reduceAdd, Nat.reduceAdd, Nat.reduceMul, Nat.reduceLeDiff, reduceIte]; exact rfl))); (· first | exact trivial | (simp; done)); (· exact eSet))
      | ((with_reducible apply trP_nil))
      | ((with_reducible apply trP_pure); (· exact eGT); (· rfl); (· rfl); (· exact eV); (· exact eSet))
      | ((with_reducible apply trP_offs); (· exact eG0); (· rfl); (· exact eSet))
      | ((with_reducible apply trP_heap_k); (· exact eGT); (· rfl); (· rfl); (· exact eLit); (· (first | exact fun _ => rfl | (intro hst; exact absurd hst (by decide)))); (· exact eSet); (· first | exact trivial | (simp; done)); (· first | exact trivial | (simp; done)))
      | ((with_reducible apply trP_heap); (· exact eGT); (· rfl); (· rfl); (· exact eLit); (· (first | exact fun _ => rfl | (intro hst; exact absurd hst (by decide)))); (· exact eSet))
      | ((with_reducible apply trP_heap_k); (· exact eGT); (· rfl); (· rfl); (· exact eV); (· (first | exact fun _ => rfl | (intro hst; exact absurd hst (by decide)))); (· exact eSet); (· first | exact trivial | (simp; done)); (· first | exact trivial | (simp; done)))
      | ((with_reducible apply trP_heap); (· exact eGT); (· rfl); (· rfl); (· exact eV); (· (first | exact fun _ => rfl | (intro hst; exact absurd hst (by decide)))); (· exact eSet))
      | ((with_reducible apply trP_heap0_k); (· exact eGT); (· rfl); (· rfl); (· exact eV); (· (first | exact fun _ => rfl | (intro hst; exact absurd hst (by decide)))); (· first | exact trivial | (simp; done)); (· first | exact trivial | (simp; done)))
      | ((with_reducible apply trP_heap0); (· exact eGT); (· rfl); (· rfl); (· exact eV); (· (first | exact fun _ => rfl | (intro hst; exact absurd hst (by decide)))))
      | ((with_reducible apply trP_conv_k); (· exact eGT); (· rfl); (· rfl); (· (simp (disch := omega) only [go_sem, Int.reduceAdd, Int.reduceEq, Int.reduceLE, Int.reduceLT, Int.reduceNeg, Int.reduceSub, Int.reduceToNat, Nat.reduceAdd, Nat.reduceEqDiff, Nat.reduceLT, Nat.reduceLeDiff, Nat.reduceMul, Nat.reduceSub, reduceCtorEq, reduceIte]; done)); (· exact eV); (· (first | exact fun _ => rfl | (intro hst; exact absurd hst (by decide)))); (· exact eSet); (· first | exact trivial | (simp; done)); (· first | exact trivial | (simp; done)))
      | ((with_reducible apply trP_conv); (· exact eGT); (· rfl); (· rfl); (· (simp (disch := omega) only [go_sem, Int.reduceAdd, Int.reduceEq, Int.reduceLE, Int.reduceLT, Int.reduceNeg, Int.reduceSub, Int.reduceToNat, Nat.reduceAdd, Nat.reduceEqDiff, Nat.reduceLT, Nat.reduceLeDiff, Nat.reduceMul, Nat.reduceSub, reduceCtorEq, reduceIte]; done)); (· exact eV); (· (first | exact fun _ => rfl | (intro hst; exact absurd hst (by decide)))); (· exact eSet))
      | ((with_reducible apply trP_app_k); (· exact eGT); (· rfl); (· rfl); (· rfl); (· rfl); (· (simp only [go_sem]; try exact rfl)); (· rfl); (· exact eApp); (· rfl); (· exact eSet); (· first | exact trivial | (simp; done)); (· first | exact trivial | (simp; done)))
      | ((with_reducible apply trP_app); (· exact eGT); (· rfl); (· rfl); (· rfl); (· rfl); (· (simp only [go_sem]; try exact rfl)); (· rfl); (· exact eApp); (· rfl); (· exact eSet))
      | ((with_reducible apply trP_ctrs); (· exact eGT); (· rfl); (· rfl); (· exact eA); (· exact eArgs); (· infer_instance); (· exact eP); (· exact eHN); (· rfl); (· exact eSet))
      | ((with_reducible apply trP_ctr_k); (· exact eGT); (· rfl); (· rfl); (· exact eA); (· exact eArgs); (· infer_instance); (· exact eP); (· exact eHN); (· exact eHN); (· rfl); (· exact eSet); (· first | exact trivial | (simp; done)); (· first | exact trivial | (simp; done)))
      | ((with_reducible apply trP_ctr); (· exact eGT); (· rfl); (· rfl); (· exact eA); (· exact eArgs); (· infer_instance); (· exact eP); (· exact eHN); (· exact eHN); (· rfl); (· exact eSet))
      | ((with_reducible apply dkP_normal); (· decide +kernel)))
    repeat' (first
      | ((with_reducible apply trP_stab); (· rfl); (· exact eGT); (· rfl); (· rfl); (· (intro X hX; first | (simp (disch := omega) only [hX, hh, go_sem, Int.reduceAdd, Nat.reduceAdd, Nat.reduceMul, Nat.reduceLeDiff, reduceIte]; exact rfl) | (simp (disch := omega) only [hX, go_sem, Int.reduceAdd, Nat.reduceAdd, Nat.reduceMul, Nat.reduceLeDiff, reduceIte]; exact rfl))); (· first | exact trivial | (simp; done)); (· exact eSet))
      | ((with_reducible apply trP_nil))
      | ((with_reducible apply trP_pure); (· exact eGT); (· rfl); (· rfl); (· exact eV); (· exact eSet))
      | ((with_reducible apply trP_offs); (· exact eG0); (· rfl); (· exact eSet))
      | ((with_reducible apply trP_heap_k); (· exact eGT); (· rfl); (· rfl); (· exact eLit); (· (first | exact fun _ => rfl | (intro hst; exact absurd hst (by decide)))); (· exact eSet); (· first | exact trivial | (simp; done)); (· first | exact trivial | (simp; done)))
      | ((with_reducible apply trP_heap); (· exact eGT); (· rfl); (· rfl); (· exact eLit); (· (first | exact fun _ => rfl | (intro hst; exact absurd hst (by decide)))); (· exact eSet))
      | ((with_reducible apply trP_heap_k); (· exact eGT); (· rfl); (· rfl); (· exact eV); (· (first | exact fun _ => rfl | (intro hst; exact absurd hst (by decide)))); (· exact eSet); (· first | exact trivial | (simp; done)); (· first | exact trivial | (simp; done)))
      | ((with_reducible apply trP_heap); (· exact eGT); (· rfl); (· rfl); (· exact eV); (· (first | exact fun _ => rfl | (intro hst; exact absurd hst (by decide)))); (· exact eSet))
      | ((with_reducible apply trP_heap0_k); (· exact eGT); (· rfl); (· rfl); (· exact eV); (· (first | exact fun _ => rfl | (intro hst; exact absurd hst (by decide)))); (· first | exact trivial | (simp; done)); (· first | exact trivial | (simp; done)))
      | ((with_reducible apply trP_heap0); (· exact eGT); (· rfl); (· rfl); (· exact eV); (· (first | exact fun _ => rfl | (intro hst; exact absurd hst (by decide)))))
      | ((with_reducible apply trP_conv_k); (· exact eGT); (· rfl); (· rfl); (· (simp (disch := omega) only [go_sem, Int.reduceAdd, Int.reduceEq, Int.reduceLE, Int.reduceLT, Int.reduceNeg, Int.reduceSub, Int.reduceToNat, Nat.reduceAdd, Nat.reduceEqDiff, Nat.reduceLT, Nat.reduceLeDiff, Nat.reduceMul, Nat.reduceSub, reduceCtorEq, reduceIte]; done)); (· exact eV); (· (first | exact fun _ => rfl | (intro hst; exact absurd hst (by decide)))); (· exact eSet); (· first | exact trivial | (simp; done)); (· first | exact trivial | (simp; done)))
      | ((with_reducible apply trP_conv); (· exact eGT); (· rfl); (· rfl); (· (simp (disch := omega) only [go_sem, Int.reduceAdd, Int.reduceEq, Int.reduceLE, Int.reduceLT, Int.reduceNeg, Int.reduceSub, Int.reduceToNat, Nat.reduceAdd, Nat.reduceEqDiff, Nat.reduceLT, Nat.reduceLeDiff, Nat.reduceMul, Nat.reduceSub, reduceCtorEq, reduceIte]; done)); (· exact eV); (· (first | exact fun _ => rfl | (intro hst; exact absurd hst (by decide)))); (· exact eSet))
      | ((with_reducible apply trP_app_k); (· exact eGT); (· rfl); (· rfl); (· rfl); (· rfl); (· (simp only [go_sem]; try exact rfl)); (· rfl); (· exact eApp); (· rfl); (· exact eSet); (· first | exact trivial | (simp; done)); (· first | exact trivial | (simp; done)))
      | ((with_reducible apply trP_app); (· exact eGT); (· rfl); (· rfl); (· rfl); (· rfl); (· (simp only [go_sem]; try exact rfl)); (· rfl); (· exact eApp); (· rfl); (· exact eSet))
      | ((with_reducible apply trP_ctrs); (· exact eGT); (· rfl); (· rfl); (· exact eA); (· exact eArgs); (· infer_instance); (· exact eP); (· exact eHN); (· rfl); (· exact eSet))
      | ((with_reducible apply trP_ctr_k); (· exact eGT); (· rfl); (· rfl); (· exact eA); (· exact eArgs); (· infer_instance); (· exact eP); (· exact eHN); (· exact eHN); (· rfl); (· exact eSet); (· first | exact trivial | (simp; done)); (· first | exact trivial | (simp; done)))
      | ((with_reducible apply trP_ctr); (· exact eGT); (· rfl); (· rfl); (· exact eA); (· exact eArgs); (· infer_instance); (· exact eP); (· exact eHN); (· exact eHN); (· rfl); (· exact eSet))
      | ((with_reducible apply dkP_normal); (· decide +kernel)))
    exact k.out) : G := e ⟨k⟩

end Go.Ab
