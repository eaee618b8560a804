/- Walks: the head of a letter, read. -/
import Derived.Test.YtpdjgbpmlckepaaDoorSMbox4
import Derived.Test.YtpdjgbpmlckepaaDoorLErr
set_option linter.unusedSimpArgs false
set_option linter.unusedVariables false
set_option maxHeartbeats 4000000
set_option maxRecDepth 4000
namespace Go.Ab.Tryd
open Go Go.Ab Go.Proofs
attribute [local irreducible] W Wl Wop TrA WSeq WLoopS FPost DPost RPost WRound DK onEnd
attribute [local simp] belowL_bytesAV
variable {n0 : Nat} {w0 : World} {gl : Nat → List AV} {H : List AO}

theorem parseIntB_lo {s : List UInt8} {n : Int} (h : Lib.parseIntB 64 s = .ok n) : -9223372036854775808 ≤ n ∧ n ≤ 9223372036854775807 := by
  have h3 : (2 : Nat) ^ (64 - 1) = 9223372036854775808 := by decide
  unfold Lib.parseIntB at h
  split at h
  · simp at h
  · simp only at h
    split at h <;> (try simp at h)
    all_goals (split at h <;> try simp at h)
    all_goals (try (split at h <;> try simp at h))
    all_goals (try (split at h <;> try simp at h))
    all_goals omega

/-- What stands behind a line that is read. -/
def restL (s : List UInt8) : List UInt8 := match cutAt 10 s with
  | none => s
  | some (_, y) => y
theorem restL_len (s : List UInt8) : (restL s).length ≤ s.length := by
  unfold restL
  cases h : cutAt 10 s with
  | none => exact Nat.le_refl _
  | some p => have := cutAt_len (x := p.1) (y := p.2) (by rw [h]); simp only; omega
noncomputable def mheadE (s : List UInt8) : AE := match mheadR s with
  | some (f, n, _) => .ret (.agg [.str f, .int .i64 n, .sl 0 [] .full])
  | none => .panic thrownM
theorem mheadR_restL {s f y : List UInt8} {n : Int} (h : mheadR s = some (f, n, y)) : y = restL s := by
  unfold mheadR at h
  unfold restL
  split at h
  · simp at h
  · rename_i hc
    rw [hc]
    split at h
    · simp at h
    · split at h
      · simp at h
      · split at h
        · split at h
          · simp only [Option.some.injEq, Prod.mk.injEq] at h
            exact h.2.2.symm
          · simp at h
        · simp at h
theorem mhead_t [ht : Tab10 n0 w0] [he : Errs n0 w0] {a : Nat} {s : List UInt8} (hs : s.length ≤ 1000000000) (hA : H[a]? = some (.cells [.sl s.length (bytesAV s) .ro])) :
    AEnter (env n0 w0 gl) 63 [.ref a 0] H (fun y H' => y = mheadE s ∧ H' = H.set a (.cells [.sl (restL s).length (bytesAV (restL s)) .ro])) := by
  have ha : a < H.length := by
    rcases Nat.lt_or_ge a H.length with h | h
    · exact h
    · rw [List.getElem?_eq_none h] at hA; cases hA
  unfold mheadE
  rcases hc : cutAt 10 s with _ | ⟨x, y⟩
  · have hR : mheadR s = none := by unfold mheadR; rw [hc]
    have hL : restL s = s := by unfold restL; rw [hc]
    have hset : H.set a (.cells [.sl s.length (bytesAV s) .ro]) = H := by
      apply List.ext_getElem?
      intro i
      by_cases e : a = i
      · subst e; rw [List.getElem?_set_self ha, hA]
      · rw [List.getElem?_set_ne e]
    rw [hR, hL, hset]
    have hline : ∀ c : AO, CtrP (env n0 w0 gl) 107 [.ref a 0] (H ++ [c]) True thrownM (H ++ [c]) := fun c => .of fun _ =>
      mline_none (n0 := n0) (w0 := w0) (gl := gl) (H := H ++ [c]) hs (by rw [List.getElem?_append_left ha]; exact hA) hc
    refine enter (md := fun _ => 0) Tryd.func63 (fun hfit hgl => ?_)
    repeat' (first | refine go ?_ | (refine br (fun hc => ?_) (fun hc => ?_) <;> try (exfalso; omega)) | fail)
    all_goals exact .junkd ⟨rfl, rfl⟩
  have hL : restL s = y := by unfold restL; rw [hc]
  rw [hL]
  have hcl := cutAt_len hc
  have hxl : x.length ≤ 1000000000 := by omega
  have hline : ∀ c : AO, Ctr (env n0 w0 gl) 107 [.ref a 0] (H ++ [c]) True (.str x) (H.set a (.cells [.sl y.length (bytesAV y) .ro]) ++ [c]) := fun c => .of fun _ => by
    have := mline_some (n0 := n0) (w0 := w0) (gl := gl) (H := H ++ [c]) hs (by rw [List.getElem?_append_left ha]; exact hA) hc
    rw [List.set_append_left _ _ ha] at this; exact this
  have hR : ∀ n, (AO.cells [.sl y.length (bytesAV y) .ro]).within n = true := fun n => by
    simp [AO.within, belowL, AV.within, cellsOf, belowL_bytesAV]
  generalize hRO : (.cells [.sl y.length (bytesAV y) .ro] : AO) = R at *
  have hlr : H.length = (H.set a R).length := List.length_set.symm
  have hfG : Fit H.length H → Fit (H.set a R).length (H.set a R) := fun hf o ho => by
    rw [List.length_set]
    rcases List.mem_or_eq_of_mem_set ho with h | h
    · exact hf o h
    · rw [h]; exact hR _
  have hq0 : mheadR s = match prefR fromB x with
    | none => none
    | some z => match cutAt 32 z with
      | none => none
      | some (who, when_) => match Lib.parseIntB 64 when_ with
        | .ok n => open Classical in if Lib.itoa n = when_ ∧ 0 ≤ n ∧ (who = [45] ∨ MailboxOk who) then some (if who = [45] then [] else who, n, y) else none
        | _ => none := by
    unfold mheadR
    rw [hc]
    rfl
  rw [hq0]
  clear hq0 hRO hA
  generalize hG : H.set a R = G at *
  have hpre : ∀ H, Ctr (env n0 w0 gl) 52 [.str x, .str [70, 114, 111, 109, 32]] H True (prefV fromB x) H := fun H => ⟨fun _ =>
    (pref_t (n0 := n0) (w0 := w0) (gl := gl) (H := H) x fromB).call ⟨hxl, by decide⟩⟩
  unfold prefV at hpre
  rcases hz : prefR fromB x with _ | z
  · simp only [hz] at hpre ⊢
    have hh := hlr
    refine enter (md := fun _ => 0) Tryd.func63 (fun hfit hgl => ?_)
    repeat' (first | refine go ?_ | (refine br (fun hc => ?_) (fun hc => ?_) <;> try (exfalso; omega)) | fail)
    all_goals exact .junkd (hf := hfG hfit) ⟨rfl, rfl⟩
  simp only [hz] at hpre ⊢
  have hzl : z.length ≤ 1000000000 := by
    unfold prefR at hz
    split at hz
    · injection hz with hz; subst hz; rw [List.length_drop]; omega
    · simp at hz
  have hcut : ∀ H, Ctr (env n0 w0 gl) 49 [.str z, .str [32]] H True (cutV 32 z) H := fun H => ⟨fun _ =>
    (cut_t (n0 := n0) (w0 := w0) (gl := gl) (H := H) z 32).call (by omega)⟩
  unfold cutV at hcut
  rcases hw : cutAt 32 z with _ | ⟨who, when_⟩
  · simp only [hw] at hcut ⊢
    have hh := hlr
    refine enter (md := fun _ => 0) Tryd.func63 (fun hfit hgl => ?_)
    repeat' (first | refine go ?_ | (refine br (fun hc => ?_) (fun hc => ?_) <;> try (exfalso; omega)) | fail)
    all_goals exact .junkd (hf := hfG hfit) ⟨rfl, rfl⟩
  simp only [hw] at hcut ⊢
  have hwl := cutAt_len hw
  have hwho : who.length ≤ 1000000000 := by omega
  have hpn : ∀ H, Ctr (env n0 w0 gl) 39 [.str when_, .int .i64 10, .int .i64 64] H True (pIntV when_) H := fun H => ⟨fun _ =>
    (parseInt_any (n0 := n0) (w0 := w0) (gl := gl) (H := H) when_).call (by omega)⟩
  unfold pIntV at hpn
  rcases hq : Lib.parseIntB 64 when_ with n | _ | _
  · simp only [hq] at hpn ⊢
    obtain ⟨hn1, hn2⟩ := parseIntB_lo hq
    by_cases hi : Lib.itoa n = when_
    · by_cases h0 : 0 ≤ n
      · by_cases hw1 : who = [45]
        · rw [if_pos ⟨hi, h0, .inl hw1⟩, if_pos hw1]
          subst hw1
          have hh := And.intro h0 (And.intro hlr hi)
          refine enter (md := fun _ => 0) Tryd.func63 (fun hfit hgl => ?_)
          repeat' (first | refine go ?_ | (refine br (fun hc => ?_) (fun hc => ?_) <;> try (exfalso; omega)) | fail)
          all_goals exact .junkd (hf := hfG hfit) ⟨rfl, rfl⟩
        · by_cases hm : MailboxOk who
          · rw [if_pos ⟨hi, h0, .inr hm⟩, if_neg hw1]
            have hh := And.intro h0 (And.intro hlr (And.intro hi (And.intro hw1 (tf_true hm))))
            refine enter (md := fun _ => 0) Tryd.func63 (fun hfit hgl => ?_)
            repeat' (first | refine go ?_ | (refine br (fun hc => ?_) (fun hc => ?_) <;> try (exfalso; omega)) | fail)
            all_goals exact .junkd (hf := hfG hfit) ⟨rfl, rfl⟩
          · rw [if_neg (fun h => h.2.2.elim hw1 hm)]
            have hh := And.intro h0 (And.intro hlr (And.intro hi (And.intro hw1 (tf_false hm))))
            refine enter (md := fun _ => 0) Tryd.func63 (fun hfit hgl => ?_)
            repeat' (first | refine go ?_ | (refine br (fun hc => ?_) (fun hc => ?_) <;> try (exfalso; omega)) | fail)
            all_goals exact .junkd (hf := hfG hfit) ⟨rfl, rfl⟩
      · rw [if_neg (fun h => h0 h.2.1)]
        have hh := And.intro h0 (And.intro hlr hi)
        refine enter (md := fun _ => 0) Tryd.func63 (fun hfit hgl => ?_)
        repeat' (first | refine go ?_ | (refine br (fun hc => ?_) (fun hc => ?_) <;> try (exfalso; omega)) | fail)
        all_goals exact .junkd (hf := hfG hfit) ⟨rfl, rfl⟩
    · rw [if_neg (fun h => hi h.1)]
      have hh := And.intro hlr hi
      refine enter (md := fun _ => 0) Tryd.func63 (fun hfit hgl => ?_)
      repeat' (first | refine go ?_ | (refine br (fun hc => ?_) (fun hc => ?_) <;> try (exfalso; omega)) | fail)
      all_goals exact .junkd (hf := hfG hfit) ⟨rfl, rfl⟩
  all_goals
    simp only [hq] at hpn ⊢
    have hh := hlr
    refine enter (md := fun _ => 0) Tryd.func63 (fun hfit hgl => ?_)
    repeat' (first | refine go ?_ | (refine br (fun hc => ?_) (fun hc => ?_) <;> try (exfalso; omega)) | fail)
    all_goals exact .junkd (hf := hfG hfit) ⟨rfl, rfl⟩

end Go.Ab.Tryd
