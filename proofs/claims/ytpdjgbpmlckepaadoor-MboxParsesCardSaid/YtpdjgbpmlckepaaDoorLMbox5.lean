/- Walks: letters as a mailbox file, by the document. -/
import Derived.Test.YtpdjgbpmlckepaaDoorLMbox4
set_option linter.unusedSimpArgs false
set_option linter.unusedVariables false
set_option maxHeartbeats 4000000
set_option maxRecDepth 4000
namespace Go.Ab.Tryd
open Go Go.Ab Go.Proofs
attribute [local irreducible] W Wl Wop TrA WSeq WLoopS FPost DPost RPost WRound DK onEnd
attribute [local simp] belowL_bytesAV
variable {n0 : Nat} {w0 : World} {gl : Nat → List AV} {H : List AO}

theorem letter_e (x : Ltr) (hs : x.Small) : AEnter (env n0 w0 gl) 110 [.agg x.cells] H (fun y H' => y = .ret (.bool (tf x.Ok)) ∧ H' = H) := by
  obtain ⟨fro, a, body⟩ := x
  obtain ⟨h1, h2, h3⟩ := hs
  simp only at h1 h2 h3
  simp only [Ltr.cells]
  by_cases hok : (Ltr.mk fro a body).Ok
  · rw [tf_true hok]
    obtain ⟨hF, ha, hB⟩ := hok
    simp only at hF ha hB
    by_cases hm : MailboxOk fro
    · have hh := tf_true hm
      refine enter (md := fun _ => 0) Tryd.func110 (fun hfit hgl => ?_)
      repeat' (first | refine go ?_ | (refine br (fun hc => ?_) (fun hc => ?_) <;> try (exfalso; omega)) | fail)
      all_goals exact .junkd ⟨by congr 2 <;> first | rfl | (rw [decide_eq_true]; omega), rfl⟩
    · have hf0 : fro.length = 0 := hF.resolve_right hm
      refine enter (md := fun _ => 0) Tryd.func110 (fun hfit hgl => ?_)
      repeat' (first | refine go ?_ | (refine br (fun hc => ?_) (fun hc => ?_) <;> try (exfalso; omega)) | fail)
      all_goals exact .junkd ⟨by congr 2 <;> first | rfl | (rw [decide_eq_true]; omega), rfl⟩
  · rw [tf_false hok]
    by_cases hm : MailboxOk fro
    · have h6 : ¬ (0 ≤ a ∧ (body.length = 0 ∨ (body.getD (body.length - 1) 0).toNat = 10)) := fun h => hok ⟨.inr hm, h⟩
      have hh := tf_true hm
      refine enter (md := fun _ => 0) Tryd.func110 (fun hfit hgl => ?_)
      repeat' (first | refine go ?_ | (refine br (fun hc => ?_) (fun hc => ?_) <;> try (exfalso; omega)) | fail)
      all_goals exact .junkd ⟨by congr 2 <;> first | rfl | (rw [decide_eq_false]; omega), rfl⟩
    · have h6 : ¬ (fro.length = 0 ∧ 0 ≤ a ∧ (body.length = 0 ∨ (body.getD (body.length - 1) 0).toNat = 10)) := fun h => hok ⟨.inl h.1, h.2⟩
      have hh := tf_false hm
      refine enter (md := fun _ => 0) Tryd.func110 (fun hfit hgl => ?_)
      repeat' (first | refine go ?_ | (refine br (fun hc => ?_) (fun hc => ?_) <;> try (exfalso; omega)) | fail)
      all_goals exact .junkd ⟨by congr 2 <;> first | rfl | (rw [decide_eq_false]; omega), rfl⟩
instance letter_t (x : Ltr) : Ctr (env n0 w0 gl) 110 [.agg x.cells] H x.Small (.bool (tf x.Ok)) H := .of fun hs => letter_e x hs

instance export09_t [ht : Tab10 n0 w0] (l : List Ltr) : Ctr (env n0 w0 gl) 70 [.sl l.length (ltrAV l) .ro] H (l.length ≤ 1000000 ∧ ∀ x ∈ l, x.Small) (exportV l) H := .of fun ⟨hl, hs⟩ => by
  have hfl := ltrAV_len l
  unfold exportV
  refine enter (md := fun _ => 0) Tryd.func70 (fun hfit hgl => ?_)
  refine gos ?_
  refine wseq_normal ?_
  refine gos ?_
  refine wseq_shift (Shift.vec 1 4 rfl) ?_
  simp only [List.set_cons_succ, List.set_cons_zero]
  repeat' (first | refine go ?_ | (refine br (fun hc => ?_) (fun hc => ?_) <;> try (exfalso; omega)) | fail)
  refine loop (fun i : Nat => (.sl l.length (ltrAV l) .ro :: .top :: .sl 0 [] .full :: .int .i64 0 :: .vsl H.length (showM (l.take i)).length :: .top :: .top :: .top :: .sl l.length (ltrAV l) .ro :: .int .i64 l.length :: .int .i64 (i : Int) :: .top :: .top :: .top :: .top :: .top :: .top :: .top :: .top :: .top :: .top :: .top :: .top :: .top :: .top :: .top :: .top :: .top :: .top :: .top :: .top :: .top :: .top :: .top :: .top :: .top :: .top :: .top :: .top :: .top :: [])) (fun i => H ++ [.vec 1 (showM (l.take i)).length (bytesAV (showM (l.take i)))])
    (fun i => i ≤ l.length ∧ ∀ k, k < i → (l.getD k default).Ok) (fun i => l.length - i) 0 ⟨Nat.zero_le _, fun k h => absurd h (Nat.not_lt_zero _)⟩ ?_
  rintro i ⟨hi, hall⟩
  by_cases hlt : i < l.length
  · have hat := ltrAV_at hlt
    have hmem : l.getD i default ∈ l := by rw [List.getD_eq_getElem?_getD, List.getElem?_eq_getElem hlt]; exact List.getElem_mem _
    have hxs := hs _ hmem
    have hst := showM_take hlt
    have hbd : (showM (l.take i)).length ≤ 1000000 * 2200000 := Nat.le_trans (showM_len fun x hx => ⟨hs x (List.mem_of_mem_take hx), by
      obtain ⟨k, hk, rfl⟩ := List.getElem_of_mem hx
      simp only [List.length_take] at hk
      have := (hall k (by omega)).2.1
      rw [List.getD_eq_getElem?_getD, List.getElem?_eq_getElem (by omega)] at this
      rw [List.getElem_take]; exact this⟩) (by rw [List.length_take]; exact Nat.mul_le_mul_right _ (by omega))
    have hno : ¬ (l.getD i default).Ok → ¬ ∀ x ∈ l, x.Ok := fun h hh => h (hh _ hmem)
    have hyes : (l.getD i default).Ok → ∀ k, k < i + 1 → (l.getD k default).Ok := fun h k hk => by
      rcases Nat.lt_succ_iff_lt_or_eq.1 hk with h1 | h1
      · exact hall k h1
      · subst h1; exact h
    generalize l.getD i default = x at *
    have hlc : ∀ H, Ctr (env n0 w0 gl) 110 [.agg x.cells] H True (.bool (tf x.Ok)) H := fun H => .of fun _ => letter_e x hxs
    obtain ⟨hx1, hx2, hx3⟩ := hxs
    obtain ⟨fro, a, body⟩ := x
    simp only [Ltr.cells] at hat hlc
    simp only at hx1 hx2 hx3
    by_cases hok : (Ltr.mk fro a body).Ok
    · rw [tf_true hok] at hlc
      obtain ⟨hF, ha, hB⟩ := hok
      simp only at hF ha hB
      have hit := itoa_len ha hx3
      have hql := quoteS_len body
      have hh := And.intro hfl (And.intro hat hit)
      repeat' (first | refine go ?_ | (refine br (fun hc => ?_) (fun hc => ?_) <;> try (exfalso; omega)) | fail)
      all_goals
        have hc0 := hc
        first
          | (rw [show (showM (l.take i)).length + ((Lib.itoa a).length + (8 + ((quoteS body).length + 1))) = (showM (l.take (i + 1))).length by
              rw [hst]; simp [Ltr.show, whoS, hc0, fromB]; omega])
          | (rw [show (showM (l.take i)).length + (fro.length + ((Lib.itoa a).length + (7 + ((quoteS body).length + 1)))) = (showM (l.take (i + 1))).length by
              rw [hst]; simp [Ltr.show, whoS, hc0, fromB]; omega])
        refine againJ (i + 1) ⟨by omega, hyes ⟨hF, ha, hB⟩⟩ (by omega) [.cells [.str fro, .int .i64 a, .sl body.length (bytesAV body) .ro]] ?_
        simp [hst, Ltr.show, whoS, hc0, fromB, bytesAV, byteAV]
    · rw [tf_false hok] at hlc
      rw [tf_false (hno hok)]
      have hh := And.intro hfl hat
      repeat' (first | refine go ?_ | (refine br (fun hc => ?_) (fun hc => ?_) <;> try (exfalso; omega)) | fail)
      exact .junkd ⟨rfl, rfl⟩
  · obtain rfl : i = l.length := by omega
    rw [List.take_length]
    have hA : ∀ x ∈ l, x.Ok := fun x hx => by
      obtain ⟨k, hk, rfl⟩ := List.getElem_of_mem hx
      have := hall k hk
      rwa [List.getD_eq_getElem?_getD, List.getElem?_eq_getElem hk] at this
    rw [tf_true hA]
    refine gos ?_
    refine wseq_normal ?_
    refine gos ?_
    refine wseq_shift (Shift.know 4 (sz := 1) rfl (by rw [getE0]; rfl)) ?_
    simp only [List.set_cons_succ, List.set_cons_zero, setE0]
    repeat' (first | refine go ?_ | (refine br (fun hc => ?_) (fun hc => ?_) <;> try (exfalso; omega)) | fail)
    exact .junkd ⟨rfl, rfl⟩

end Go.Ab.Tryd
