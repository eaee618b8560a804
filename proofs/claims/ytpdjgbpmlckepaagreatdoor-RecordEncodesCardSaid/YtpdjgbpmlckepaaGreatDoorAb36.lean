/- The abstract view, 36: a region that is drawn and ends well, by a plan told by hand (calls that leave memory as it was may count as no steps). -/
import Derived.Test.YtpdjgbpmlckepaaGreatDoorAb34
set_option linter.unusedVariables false
set_option linter.unusedSimpArgs false
namespace Go.Ab
open Go Go.RowKit

variable {E : Env} {N : Nat} {rd : Option Nat} {md : Nat → Nat} {Q : APost} {H : List AO}

/-- The temporaries behind all operations. -/
def putV : List Oper → List AV → List AV → List AV
  | [], _, ts => ts
  | o :: l, vs, ts => putV l vs.tail (putL ts o.dst (vs.headD .top))
theorem getD_ext {x y : List AV} (hl : x.length = y.length) (h : ∀ t, x.getD t .top = y.getD t .top) : x = y := by
  refine List.ext_getElem hl fun i h1 h2 => ?_
  have := h i
  simpa [List.getD_eq_getElem?_getD, h1, h2] using this
theorem putL_len (ts : List AV) (d : Option Tmp) (v : AV) : (putL ts d v).length = ts.length := by cases d <;> simp [putL]
theorem putV_eq : ∀ (l : List Oper) (vals ts b : List AV), b.length = ts.length → (∀ (i t : Nat), (l[i]?).bind (·.dst) = some t → b.getD t .top = vals.getD i .top) →
    (∀ t : Nat, (∀ i : Nat, (l[i]?).bind (·.dst) ≠ some t) → b.getD t .top = ts.getD t .top) → b = putV l vals ts
  | [], vals, ts, b, hl, h1, h2 => getD_ext hl fun t => h2 t fun i => by simp
  | o :: l, vals, ts, b, hl, h1, h2 => by
    refine putV_eq l vals.tail _ b (by rw [putL_len]; exact hl) (fun i t h => ?_) (fun t h => ?_)
    · have := h1 (i + 1) t (by simpa using h)
      rw [this]; cases vals <;> simp
    · by_cases hd : o.dst = some t
      · have e := h1 0 t (by simpa using hd)
        rw [e]
        by_cases hlt : t < ts.length
        · simp [putL, hd, List.getD_eq_getElem?_getD, hlt]
          cases vals <;> simp
        · have hb : b.getD t .top = .top := by simp [List.getD_eq_getElem?_getD, List.getElem?_eq_none (show b.length ≤ t by omega)]
          rw [← e, hb]
          simp [putL, hd, List.getD_eq_getElem?_getD, List.getElem?_eq_none (show (ts.set t _).length ≤ t by simp; omega)]
      · have e := h2 t fun i => by
          cases i with
          | zero => simpa using hd
          | succ i => simpa using h i
        rw [e]
        cases hdo : o.dst with
        | none => rfl
        | some d =>
          have hne : d ≠ t := by rintro rfl; exact hd hdo
          simp [putL, List.getD_eq_getElem?_getD, List.getElem?_set, hne]
/-- A plan is fit. -/
def okW (l : List Oper) (n0 : Nat) (roles : List Role) (n : Nat) : Bool :=
  okR l.toArray n0 && okP (ancT l []) l.toArray.size roles && okN l.toArray roles n && decide (roles.length = l.length)
/-- A region that is drawn and ends well, by a plan. -/
theorem w_drawnW {id : Nat} {l : List Oper} {ts0 : List AV} {ds : List ADef} (roles : List Role) (vals : List AV) (Hs : List (List AO)) (n : Nat) (hrd : ∀ l, rd = some l → l < N) {k0 : Nat} (hk0 : ts0.length = k0) (hok : okW l k0 roles n = true) (hH : Hs.getD 0 [] = H)
    (hD : ∀ i o, l[i]? = some o → AskV E md Q ds l ts0 vals roles Hs n i o) {ts2 : List AV} (hts : putV l vals ts0 = ts2) {H2 : List AO} (hH2 : Hs.getD n [] = H2) (hq : Q .normal ⟨ts2, ds⟩ H2) : W E N rd md (.region id l.toArray true) Q ⟨ts0, ds⟩ H := by
  subst hk0; subst hts; subst hH2
  intro t
  simp only [okW, Bool.and_eq_true, decide_eq_true_eq] at hok
  obtain ⟨⟨⟨hR, hP⟩, hN⟩, hlen⟩ := hok
  have hlist : l.toArray.toList = l := by simp
  have hops : ∀ i : Nat, l.toArray[i]? = l[i]? := fun i => by simp
  have key := planned_sound (E := E) (N := N) (rd := rd) (md := md) (Q := Q) (ops := l.toArray) (ts0 := ts0) (vals := vals) (ds := ds) (roles := roles) (Hs := fun k => Hs.getD (min k n) []) (n := n) hrd hR (by rw [hlist]; exact hP) hN (by rw [hlen]; simp) ?_ ?_ l.toArray.size t (Array.replicate l.toArray.size false) 0 ⟨ts0, ds⟩ ?_ ?_ ?_
  · simp only [Nat.zero_min, hH] at key; exact key
  · intro i o hi
    rw [hops] at hi
    refine ⟨ksOf l.toArray i o ts0.length, okK_ksOf _ _ _ _, by simp [ksOf], ?_⟩
    have h := hD i o hi
    unfold AskV at h
    split
    · rename_i hr
      rw [hr] at h
      intro k _
      exact Ent.dopg (h (min k n) (Nat.min_le_right _ _))
    · rename_i m hr
      rw [hr] at h
      obtain ⟨h1, h2⟩ := h
      rw [show min m n = m by omega, show min (m + 1) n = m + 1 by omega]
      exact Ent.dopg h2
    · rename_i m hr
      rw [hr] at h
      obtain ⟨h1, ch, H', h2, h3⟩ := h
      rw [show min m n = m by omega]
      exact EntP.dopn h2 fun ts2 _ => h3 ts2
    · trivial
  · intro _ a listed hi hall
    have hds := hi.defers
    have e : a.tmps = putV l vals ts0 := putV_eq l vals ts0 a.tmps hi.len
      (fun i t h => by
        have hil : i < l.length := by
          by_cases hh : i < l.length
          · exact hh
          · rw [List.getElem?_eq_none (by omega)] at h; simp at h
        exact hi.done i t (hall i (by simpa using hil)) (by unfold dstOf; rw [hops]; exact h))
      (fun t h => hi.kept t fun i hl => by unfold dstOf; rw [hops]; exact h i)
    obtain ⟨tm, df⟩ := a
    simp only at hds e
    subst hds; subst e
    rw [Nat.min_self]
    exact hq
  · refine ⟨by simp, fun i o hi hl => ?_, rfl, rfl, fun i t hl => ?_, fun t _ => rfl⟩
    · exfalso; rw [Array.getD_eq_getD_getElem?, Array.getElem?_replicate] at hl; split at hl <;> simp at hl
    · exfalso; rw [Array.getD_eq_getD_getElem?, Array.getElem?_replicate] at hl; split at hl <;> simp at hl
  · have hf : ∀ j : Nat, (Array.replicate l.toArray.size false).getD j false = false := by
      intro j; rw [Array.getD_eq_getD_getElem?, Array.getElem?_replicate]; split <;> rfl
    exact ⟨fun j m _ => by rw [hf]; simp, fun m hm => by omega, fun j hj => by rw [hf] at hj; simp at hj⟩
  · unfold unlisted
    refine Nat.le_trans (List.length_filter_le _ _) ?_
    simp
end Go.Ab
