/- The abstract view, 34: a call that panics in a region told by w_drawnP. -/
import Derived.Test.YtadghefkbjacjaaGreatDoorLMimeA
section
set_option linter.unusedVariables false
set_option linter.unusedSimpArgs false
namespace Go.Ab
open Go Go.RowKit

variable {E : Env} {N : Nat} {rd : Option Nat} {md : Nat → Nat} {Q : APost} {H : List AO}
variable {ops : Array Oper} {ds : List ADef} {i : Nat} {o : Oper} {l : List Oper} {ts : List AV} {P : List AO → Prop} {same sp st : List Nat} {K : Option Nat → List Nat → List Nat → List Nat → DOut → Prop}

theorem trP_ctrp (hg : guardOk ops ⟨ts, ds⟩ o = some true) {c : Call} (ho : o.op = .call c) {f : Operand} (hc : c.callee = .value f) {fid : FuncId} {first cap : List AV} (hf : AAct.ev E.gl ⟨ts, ds⟩ f = .fn fid first cap) {args : List AV} (ha : first ++ evCallArgs ⟨ts, ds⟩ E.gl c ++ cap = args)
    {pre : Prop} {ch : List APanic} {H2 : List AO} (inst : CtrP E fid args H pre ch H2) (hp : pre) {H2' : List AO} (hH : H2 = H2') (k : K (some i) same sp st (.panic ch H2')) : TrP E md ops ds P i same sp st (o :: l) ts H K := by
  subst hH
  refine ⟨_, _, same, sp, st, .panic (.call hg ho hc hf ha (inst.call hp)), fun j hj => .inl hj, fun j hj => .inl hj, fun j hj => .inl hj, ?_⟩
  have : panOf i [(⟨ts, H, .top, H2⟩ : En)] (.panic ch H2) = some i := by simp [panOf]
  rw [this]; exact k
theorem dkP_panic {n : Nat} {ch : List APanic} (hok : (okPlan md l.toArray n (some i) && okSP md l.toArray (some i) same sp st) = true) (h : ∀ ts, Q (.panic ch) ⟨ts, ds⟩ H) : DKP md l n Q ds (some i) same sp st (.panic ch H) := ⟨hok, h⟩
/-- A plan is fit. -/
def okV (l : List Oper) (n0 : Nat) (roles : List Role) (n : Nat) : Bool :=
  okR l.toArray n0 && okP (ancT l []) l.toArray.size roles && okN l.toArray roles n && decide (roles.length = l.length) && (List.range l.length).any fun i => match roles.getD i .pure with | .panics _ => true | _ => false
/-- What is asked of an operation by a plan. -/
def AskV (E : Env) (md : Nat → Nat) (Q : APost) (ds : List ADef) (l : List Oper) (ts0 vals : List AV) (roles : List Role) (Hs : List (List AO)) (n : Nat) (i : Nat) (o : Oper) : Prop := match roles.getD i .pure with
  | .pure => ∀ k, k ≤ n → Ent E md l.toArray ds o (applyK (ksOf l.toArray i o ts0.length) ts0 vals) (Hs.getD k []) (vals.getD i .top) (Hs.getD k [])
  | .step m => m < n ∧ Ent E md l.toArray ds o (applyK (ksOf l.toArray i o ts0.length) ts0 vals) (Hs.getD m []) (vals.getD i .top) (Hs.getD (m + 1) [])
  | .panics m => m ≤ n ∧ ∃ ch H', EntP E l.toArray ds o (applyK (ksOf l.toArray i o ts0.length) ts0 vals) (Hs.getD m []) ch H' ∧ ∀ ts, Q (.panic ch) ⟨ts, ds⟩ H'
  | .never => True
/-- A region that is drawn and ends in a panic, by a plan. -/
theorem w_drawnV {id : Nat} {l : List Oper} {ts0 : List AV} {ds : List ADef} (roles : List Role) (vals : List AV) (Hs : List (List AO)) (n : Nat) (hrd : ∀ l, rd = some l → l < N) {k0 : Nat} (hk0 : ts0.length = k0) (hok : okV l k0 roles n = true) (hH : Hs.getD 0 [] = H)
    (hD : ∀ i o, l[i]? = some o → AskV E md Q ds l ts0 vals roles Hs n i o) : W E N rd md (.region id l.toArray true) Q ⟨ts0, ds⟩ H := by
  subst hk0
  intro t
  simp only [okV, Bool.and_eq_true, decide_eq_true_eq] at hok
  obtain ⟨⟨⟨⟨hR, hP⟩, hN⟩, hlen⟩, hany⟩ := hok
  have hlist : l.toArray.toList = l := by simp
  have hops : ∀ i : Nat, l.toArray[i]? = l[i]? := fun i => by simp
  have key := planned_sound (E := E) (N := N) (rd := rd) (md := md) (Q := Q) (ops := l.toArray) (ts0 := ts0) (vals := vals) (ds := ds) (roles := roles) (Hs := fun k => Hs.getD (min k n) []) (n := n) hrd hR (by rw [hlist]; exact hP) hN (by rw [hlen]; simp) ?_ ?_ l.toArray.size t (Array.replicate l.toArray.size false) 0 ⟨ts0, ds⟩ ?_ ?_ ?_
  · simp only [Nat.zero_min, hH] at key; exact key
  · intro i o hi
    rw [hops] at hi
    refine ⟨ksOf l.toArray i o ts0.length, okK_ksOf _ _ _ _, by simp [ksOf], ?_⟩
    have h := hD i o hi
    unfold AskV at h
    split
    · rename_i hr
      rw [hr] at h
      intro k _
      exact Ent.dopg (h (min k n) (Nat.min_le_right _ _))
    · rename_i m hr
      rw [hr] at h
      obtain ⟨h1, h2⟩ := h
      rw [show min m n = m by omega, show min (m + 1) n = m + 1 by omega]
      exact Ent.dopg h2
    · rename_i m hr
      rw [hr] at h
      obtain ⟨h1, ch, H', h2, h3⟩ := h
      rw [show min m n = m by omega]
      exact EntP.dopn h2 fun ts2 _ => h3 ts2
    · trivial
  · intro hnone a listed hi hall
    exfalso
    obtain ⟨i, hi1, hi2⟩ := List.any_eq_true.1 hany
    have hil := List.mem_range.1 hi1
    cases hr : roles.getD i .pure with
    | panics m => exact (hnone i (by simpa using hil)).1 m hr
    | pure => rw [hr] at hi2; simp at hi2
    | step m => rw [hr] at hi2; simp at hi2
    | never => rw [hr] at hi2; simp at hi2
  · refine ⟨by simp, fun i o hi hl => ?_, rfl, rfl, fun i t hl => ?_, fun t _ => rfl⟩
    · exfalso; rw [Array.getD_eq_getD_getElem?, Array.getElem?_replicate] at hl; split at hl <;> simp at hl
    · exfalso; rw [Array.getD_eq_getD_getElem?, Array.getElem?_replicate] at hl; split at hl <;> simp at hl
  · have hf : ∀ j : Nat, (Array.replicate l.toArray.size false).getD j false = false := by
      intro j; rw [Array.getD_eq_getD_getElem?, Array.getElem?_replicate]; split <;> rfl
    exact ⟨fun j m _ => by rw [hf]; simp, fun m hm => by omega, fun j hj => by rw [hf] at hj; simp at hj⟩
  · unfold unlisted
    refine Nat.le_trans (List.length_filter_le _ _) ?_
    simp
/-- The operations asked one by one. -/
def AllV (p : Nat → Oper → Prop) : Nat → List Oper → Prop
  | _, [] => True
  | i, o :: l => p i o ∧ AllV p (i + 1) l
theorem AllV.at {p : Nat → Oper → Prop} : ∀ {l : List Oper} {j : Nat}, AllV p j l → ∀ i o, l[i]? = some o → p (j + i) o
  | [], j, _, i, o, h => by simp at h
  | x :: l, j, ⟨h1, h2⟩, 0, o, h => by simp at h; subst h; exact h1
  | x :: l, j, ⟨h1, h2⟩, i + 1, o, h => by
    have := AllV.at h2 i o (by simpa using h)
    rwa [show j + 1 + i = j + (i + 1) by omega] at this
theorem allV_of {E : Env} {md : Nat → Nat} {Q : APost} {ds : List ADef} {l : List Oper} {ts0 vals : List AV} {roles : List Role} {Hs : List (List AO)} {n : Nat} (h : AllV (fun i o => AskV E md Q ds l ts0 vals roles Hs n i o) 0 l) : ∀ i o, l[i]? = some o → AskV E md Q ds l ts0 vals roles Hs n i o := fun i o ho => by
  have := h.at i o ho
  rwa [Nat.zero_add] at this

theorem Ent.agree1 {ts2 : List AV} {v : AV} {H2 : List AO} {t0 : Nat} (h : Ent E md ops ds o ts H v H2) (ht : tmpsOf ops o = [t0]) (he : ts.getD t0 .top = ts2.getD t0 .top) : Ent E md ops ds o ts2 H v H2 :=
  h.agree fun t h => by rw [ht, List.mem_singleton] at h; subst h; exact he
theorem EntP.agree1 {ts2 : List AV} {ch : List APanic} {H2 : List AO} {t0 : Nat} (h : EntP E ops ds o ts H ch H2) (ht : tmpsOf ops o = [t0]) (he : ts.getD t0 .top = ts2.getD t0 .top) : EntP E ops ds o ts2 H ch H2 :=
  h.agree fun t h => by rw [ht, List.mem_singleton] at h; subst h; exact he

/-- A call that panics. -/
theorem panP {G G' : Prop} (k : G') (e : Hold G' → G := by
    intro k
    (with_reducible apply trP_ctrp)
    · exact eGT
    · rfl
    · rfl
    · exact eA
    · exact eArgs
    · infer_instance
    · first | trivial | omega | (constructor <;> omega)
    · first | rfl | ((try simp only [List.append_assoc, List.cons_append, List.nil_append]); exact rfl)
    (with_reducible apply dkP_panic)
    · decide +kernel
    exact k.out) : G := e ⟨k⟩

end Go.Ab

end

section
set_option linter.unusedVariables false
set_option linter.unusedSimpArgs false
namespace Go.Ab
open Go Go.RowKit

variable {E : Env} {N : Nat} {rd : Option Nat} {md : Nat → Nat} {Q : APost} {H : List AO}

/-- The temporaries behind all operations. -/
def putV : List Oper → List AV → List AV → List AV
  | [], _, ts => ts
  | o :: l, vs, ts => putV l vs.tail (putL ts o.dst (vs.headD .top))
theorem getD_ext {x y : List AV} (hl : x.length = y.length) (h : ∀ t, x.getD t .top = y.getD t .top) : x = y := by
  refine List.ext_getElem hl fun i h1 h2 => ?_
  have := h i
  simpa [List.getD_eq_getElem?_getD, h1, h2] using this
theorem putL_len (ts : List AV) (d : Option Tmp) (v : AV) : (putL ts d v).length = ts.length := by cases d <;> simp [putL]
theorem putV_eq : ∀ (l : List Oper) (vals ts b : List AV), b.length = ts.length → (∀ (i t : Nat), (l[i]?).bind (·.dst) = some t → b.getD t .top = vals.getD i .top) →
    (∀ t : Nat, (∀ i : Nat, (l[i]?).bind (·.dst) ≠ some t) → b.getD t .top = ts.getD t .top) → b = putV l vals ts
  | [], vals, ts, b, hl, h1, h2 => getD_ext hl fun t => h2 t fun i => by simp
  | o :: l, vals, ts, b, hl, h1, h2 => by
    refine putV_eq l vals.tail _ b (by rw [putL_len]; exact hl) (fun i t h => ?_) (fun t h => ?_)
    · have := h1 (i + 1) t (by simpa using h)
      rw [this]; cases vals <;> simp
    · by_cases hd : o.dst = some t
      · have e := h1 0 t (by simpa using hd)
        rw [e]
        by_cases hlt : t < ts.length
        · simp [putL, hd, List.getD_eq_getElem?_getD, hlt]
          cases vals <;> simp
        · have hb : b.getD t .top = .top := by simp [List.getD_eq_getElem?_getD, List.getElem?_eq_none (show b.length ≤ t by omega)]
          rw [← e, hb]
          simp [putL, hd, List.getD_eq_getElem?_getD, List.getElem?_eq_none (show (ts.set t _).length ≤ t by simp; omega)]
      · have e := h2 t fun i => by
          cases i with
          | zero => simpa using hd
          | succ i => simpa using h i
        rw [e]
        cases hdo : o.dst with
        | none => rfl
        | some d =>
          have hne : d ≠ t := by rintro rfl; exact hd hdo
          simp [putL, List.getD_eq_getElem?_getD, List.getElem?_set, hne]
/-- A plan is fit. -/
def okW (l : List Oper) (n0 : Nat) (roles : List Role) (n : Nat) : Bool :=
  okR l.toArray n0 && okP (ancT l []) l.toArray.size roles && okN l.toArray roles n && decide (roles.length = l.length)
/-- A region that is drawn and ends well, by a plan. -/
theorem w_drawnW {id : Nat} {l : List Oper} {ts0 : List AV} {ds : List ADef} (roles : List Role) (vals : List AV) (Hs : List (List AO)) (n : Nat) (hrd : ∀ l, rd = some l → l < N) {k0 : Nat} (hk0 : ts0.length = k0) (hok : okW l k0 roles n = true) (hH : Hs.getD 0 [] = H)
    (hD : ∀ i o, l[i]? = some o → AskV E md Q ds l ts0 vals roles Hs n i o) {ts2 : List AV} (hts : putV l vals ts0 = ts2) {H2 : List AO} (hH2 : Hs.getD n [] = H2) (hq : Q .normal ⟨ts2, ds⟩ H2) : W E N rd md (.region id l.toArray true) Q ⟨ts0, ds⟩ H := by
  subst hk0; subst hts; subst hH2
  intro t
  simp only [okW, Bool.and_eq_true, decide_eq_true_eq] at hok
  obtain ⟨⟨⟨hR, hP⟩, hN⟩, hlen⟩ := hok
  have hlist : l.toArray.toList = l := by simp
  have hops : ∀ i : Nat, l.toArray[i]? = l[i]? := fun i => by simp
  have key := planned_sound (E := E) (N := N) (rd := rd) (md := md) (Q := Q) (ops := l.toArray) (ts0 := ts0) (vals := vals) (ds := ds) (roles := roles) (Hs := fun k => Hs.getD (min k n) []) (n := n) hrd hR (by rw [hlist]; exact hP) hN (by rw [hlen]; simp) ?_ ?_ l.toArray.size t (Array.replicate l.toArray.size false) 0 ⟨ts0, ds⟩ ?_ ?_ ?_
  · simp only [Nat.zero_min, hH] at key; exact key
  · intro i o hi
    rw [hops] at hi
    refine ⟨ksOf l.toArray i o ts0.length, okK_ksOf _ _ _ _, by simp [ksOf], ?_⟩
    have h := hD i o hi
    unfold AskV at h
    split
    · rename_i hr
      rw [hr] at h
      intro k _
      exact Ent.dopg (h (min k n) (Nat.min_le_right _ _))
    · rename_i m hr
      rw [hr] at h
      obtain ⟨h1, h2⟩ := h
      rw [show min m n = m by omega, show min (m + 1) n = m + 1 by omega]
      exact Ent.dopg h2
    · rename_i m hr
      rw [hr] at h
      obtain ⟨h1, ch, H', h2, h3⟩ := h
      rw [show min m n = m by omega]
      exact EntP.dopn h2 fun ts2 _ => h3 ts2
    · trivial
  · intro _ a listed hi hall
    have hds := hi.defers
    have e : a.tmps = putV l vals ts0 := putV_eq l vals ts0 a.tmps hi.len
      (fun i t h => by
        have hil : i < l.length := by
          by_cases hh : i < l.length
          · exact hh
          · rw [List.getElem?_eq_none (by omega)] at h; simp at h
        exact hi.done i t (hall i (by simpa using hil)) (by unfold dstOf; rw [hops]; exact h))
      (fun t h => hi.kept t fun i hl => by unfold dstOf; rw [hops]; exact h i)
    obtain ⟨tm, df⟩ := a
    simp only at hds e
    subst hds; subst e
    rw [Nat.min_self]
    exact hq
  · refine ⟨by simp, fun i o hi hl => ?_, rfl, rfl, fun i t hl => ?_, fun t _ => rfl⟩
    · exfalso; rw [Array.getD_eq_getD_getElem?, Array.getElem?_replicate] at hl; split at hl <;> simp at hl
    · exfalso; rw [Array.getD_eq_getD_getElem?, Array.getElem?_replicate] at hl; split at hl <;> simp at hl
  · have hf : ∀ j : Nat, (Array.replicate l.toArray.size false).getD j false = false := by
      intro j; rw [Array.getD_eq_getD_getElem?, Array.getElem?_replicate]; split <;> rfl
    exact ⟨fun j m _ => by rw [hf]; simp, fun m hm => by omega, fun j hj => by rw [hf] at hj; simp at hj⟩
  · unfold unlisted
    refine Nat.le_trans (List.length_filter_le _ _) ?_
    simp
end Go.Ab

end
