/- Walks: a letter's first line, by the document. -/
import Derived.Test.YtpdjgbpmlckepaaDoorLMbox9
import Derived.Test.YtpdjgbpmlckepaaDoorSMbox5
import Derived.Test.YtpdjgbpmlckepaaDoorSHead2
set_option linter.unusedSimpArgs false
set_option linter.unusedVariables false
set_option maxHeartbeats 4000000
set_option maxRecDepth 4000
namespace Go.Ab.Tryd
open Go Go.Ab Go.Proofs
attribute [local irreducible] W Wl Wop TrA WSeq WLoopS FPost DPost RPost WRound DK onEnd
attribute [local simp] belowL_bytesAV belowL_ltrAV
variable {n0 : Nat} {w0 : World} {gl : Nat → List AV} {H : List AO}

open Classical in
noncomputable def numN (s : List UInt8) : Int := if Fine s then decVal s else 0
noncomputable def numB (s : List UInt8) : Bool := tf (NumOk s)
theorem numV_eq (s : List UInt8) : numV s = .tup [.int .i64 (numN s), .bool (numB s)] := by
  unfold numN numB NumOk
  by_cases h : Fine s
  · rw [numV_good h, if_pos h]
    by_cases h2 : Lead s
    · rw [tf_true h2, tf_true ⟨h, h2⟩]
    · rw [tf_false h2, tf_false (fun h => h2 h.2)]
  · rw [numV_bad h, if_neg h, tf_false (fun k => h k.1)]
theorem cutAt_first {c : UInt8} {s : List UInt8} {k : Nat} (hk : k < s.length) (h : (s.getD k 0).toNat = c.toNat) (hn : ∀ j, j < k → ¬ (s.getD j 0).toNat = c.toNat) : cutAt c s = some (s.take k, s.drop (k + 1)) := by
  have hi := indexByte_first hk h hn
  rcases cutAt_idx c s with ⟨h1, _⟩ | ⟨j, _, h1, h2⟩
  · omega
  · obtain rfl : j = k := by omega
    exact h2
theorem cutAt_never {c : UInt8} {s : List UInt8} (hn : ∀ j, j < s.length → ¬ (s.getD j 0).toNat = c.toNat) : cutAt c s = none := by
  have hi := indexByte_never hn
  rcases cutAt_idx c s with ⟨_, h2⟩ | ⟨j, _, h1, _⟩
  · exact h2
  · omega
/-- Who, when, and whether it is a letter's first line. -/
noncomputable def fstE (z : List UInt8) : List UInt8 × Int × Bool := match cutAt 32 z with
  | none => ([], 0, false)
  | some (who, when_) => (if who = [45] then [] else who, numN when_, tf (NumOk when_ ∧ (who = [45] ∨ MailboxOk who)))
noncomputable def firstE (x : List UInt8) : List UInt8 × Int × Bool := match fstS x with
  | none => ([], 0, false)
  | some z => fstE z
theorem firstR_true {x f : List UInt8} {n : Int} (h : firstE x = (f, n, true)) : firstR x = some (f, n) := by
  unfold firstE at h
  unfold firstR
  split at h
  · simp at h
  · rename_i z hz
    rw [hz]
    unfold fstE at h
    simp only
    unfold fstT
    split at h
    · simp at h
    · rename_i who w hw
      rw [hw]
      simp only [Prod.mk.injEq] at h ⊢
      obtain ⟨h1, h2, h3⟩ := h
      have hk : NumOk w ∧ (who = [45] ∨ MailboxOk who) := by
        by_cases h : NumOk w ∧ (who = [45] ∨ MailboxOk who)
        · exact h
        · rw [tf_false h] at h3; cases h3
      rw [if_pos hk, h1]
      unfold numN at h2
      rw [if_pos hk.1.1] at h2
      rw [h2]
theorem firstR_false {x f : List UInt8} {n : Int} (h : firstE x = (f, n, false)) : firstR x = none := by
  unfold firstE at h
  unfold firstR
  split at h
  · rename_i hz; rw [hz]
  · rename_i z hz
    rw [hz]
    unfold fstE at h
    simp only
    unfold fstT
    split at h
    · rename_i hw; rw [hw]
    · rename_i who w hw
      rw [hw]
      simp only [Prod.mk.injEq] at h ⊢
      obtain ⟨h1, h2, h3⟩ := h
      rw [if_neg (fun hk => by rw [tf_true hk] at h3; cases h3)]
theorem firstE_len (x : List UInt8) : (firstE x).1.length ≤ x.length ∧ 0 ≤ (firstE x).2.1 ∧ (firstE x).2.1 ≤ 9223372036854775807 := by
  unfold firstE
  split
  · simp
  · rename_i z hz
    have hzl : z.length ≤ x.length := by
      unfold fstS at hz
      split at hz
      · injection hz with hz; subst hz; simp only [List.length_drop, List.length_take]; omega
      · simp at hz
    unfold fstE
    split
    · simp
    · rename_i who w hw
      have := cutAt_len hw
      refine ⟨?_, ?_, ?_⟩
      · simp only
        split
        · exact Nat.zero_le _
        · omega
      · simp only [numN]; split <;> omega
      · simp only [numN]; split
        · rename_i hf; have := hf.2; omega
        · omega

theorem first10_t (x : List UInt8) (hx : x.length ≤ 1000000000) : AEnter (env n0 w0 gl) 67 [.sl x.length (bytesAV x) .ro] H (fun y H' => y = .ret (.tup [.agg [.str (firstE x).1, .int .i64 (firstE x).2.1, .sl 0 [] .full], .bool (firstE x).2.2]) ∧ H' = H) := by
  by_cases hf : 6 ≤ x.length ∧ x.take 5 = fromB ∧ (x.getD (x.length - 1) 0).toNat = 10
  · obtain ⟨h6, h5, h10⟩ := hf
    have hz : fstS x = some ((x.take (x.length - 1)).drop 5) := by unfold fstS; rw [if_pos ⟨h6, h5, h10⟩]
    have hE : firstE x = fstE ((x.take (x.length - 1)).drop 5) := by unfold firstE; rw [hz]
    rw [hE]
    have hzl : ((x.take (x.length - 1)).drop 5).length = x.length - 6 := by rw [List.length_drop, List.length_take]; omega
    have h5' : x.take 5 = [70, 114, 111, 109, 32] := h5
    have hh := And.intro h5' (And.intro h10 hzl)
    refine enter (md := fun _ => 0) Tryd.func67 (fun hfit hgl => ?_)
    repeat' (first | refine go ?_ | (refine br (fun hc => ?_) (fun hc => ?_) <;> try (exfalso; omega)) | fail)
    have hz1 : (x.take (x.length - 1)).drop 5 = (x.take ((x.length : Int) - 1).toNat).drop 5 := by rw [show ((x.length : Int) - 1).toNat = x.length - 1 by omega]
    try rw [← hz1]
    generalize (x.take (x.length - 1)).drop 5 = z at *
    clear hz1
    refine loop (fun i : Nat => (.sl x.length (bytesAV x) .ro :: .top :: .ref H.length 0 :: .bool false :: .str z :: .int .i64 (i : Int) :: .top :: .top :: .top :: .top :: .top :: .top :: .top :: .top :: .top :: .top :: .top :: .top :: .top :: .top :: .top :: .top :: .top :: .top :: .top :: .top :: .top :: .top :: .top :: .top :: .top :: .top :: .top :: .top :: .top :: .top :: .top :: .top :: .top :: .top :: .top :: .top :: .top :: .top :: .top :: .top :: .top :: .top :: .top :: .top :: .top :: .top :: .top :: .top :: .top :: .top :: .top :: .top :: .top :: .top :: .top :: .top :: .top :: .top :: .top :: .top :: .top :: .top :: .top :: .top :: .top :: .top :: .top :: .top :: .top :: [])) (fun _ => H ++ [.cells [.str [], .int .i64 0, .sl 0 [] .full]]) (fun i => i ≤ z.length ∧ ∀ j, j < i → ¬ (z.getD j 0).toNat = (32 : UInt8).toNat) (fun i => z.length - i) 0 ⟨Nat.zero_le _, fun j h => absurd h (Nat.not_lt_zero _)⟩ ?_
    rintro i ⟨hi, hall⟩
    have h32 : (32 : UInt8).toNat = 32 := rfl
    rw [h32] at hall
    by_cases hlt : i < z.length
    · by_cases hc : (z.getD i 0).toNat = 32
      · have hcut := cutAt_first (c := 32) hlt hc hall
        have hF : fstE z = (if z.take i = [45] then [] else z.take i, numN (z.drop (i + 1)), tf (NumOk (z.drop (i + 1)) ∧ (z.take i = [45] ∨ MailboxOk (z.take i)))) := by unfold fstE; rw [hcut]
        rw [hF]
        have hdl : (z.drop (i + 1)).length ≤ 1000000000 := by rw [List.length_drop]; omega
        have htl : (z.take i).length ≤ 1000000000 := by rw [List.length_take]; omega
        have hn : ∀ H, Ctr (env n0 w0 gl) 43 [.str (z.drop (i + 1))] H True (.tup [.int .i64 (numN (z.drop (i + 1))), .bool (numB (z.drop (i + 1)))]) H := fun H => ⟨fun _ => by
          have := (number_t (n0 := n0) (w0 := w0) (gl := gl) (H := H) (z.drop (i + 1))).call (by omega)
          rwa [numV_eq] at this⟩
        have hm : ∀ H, Ctr (env n0 w0 gl) 109 [.str (z.take i)] H True (.bool (tf (MailboxOk (z.take i)))) H := fun H => ⟨fun _ => (ref_mailbox_t (n0 := n0) (w0 := w0) (gl := gl) (H := H) (z.take i)).call (by omega)⟩
        unfold numB at hn
        by_cases hk : NumOk (z.drop (i + 1))
        · rw [tf_true hk] at hn
          by_cases hd : z.take i = [45]
          · rw [if_pos hd, tf_true ⟨hk, .inl hd⟩]
            have hh := And.intro hc hd
            repeat' (first | refine go ?_ | (refine br (fun hc => ?_) (fun hc => ?_) <;> try (exfalso; omega)) | fail)
            all_goals exact .junkd ⟨rfl, rfl⟩
          · rw [if_neg hd]
            by_cases hM : MailboxOk (z.take i)
            · rw [tf_true ⟨hk, .inr hM⟩]
              rw [tf_true hM] at hm
              have hh := And.intro hc hd
              repeat' (first | refine go ?_ | (refine br (fun hc => ?_) (fun hc => ?_) <;> try (exfalso; omega)) | fail)
              all_goals exact .junkd ⟨rfl, rfl⟩
            · rw [tf_false (fun h => h.2.elim hd hM)]
              rw [tf_false hM] at hm
              have hh := And.intro hc hd
              repeat' (first | refine go ?_ | (refine br (fun hc => ?_) (fun hc => ?_) <;> try (exfalso; omega)) | fail)
              all_goals exact .junkd ⟨rfl, rfl⟩
        · rw [tf_false hk] at hn
          rw [tf_false (fun h => hk h.1)]
          by_cases hd : z.take i = [45]
          · rw [if_pos hd]
            have hh := And.intro hc hd
            repeat' (first | refine go ?_ | (refine br (fun hc => ?_) (fun hc => ?_) <;> try (exfalso; omega)) | fail)
            all_goals exact .junkd ⟨rfl, rfl⟩
          · rw [if_neg hd]
            have hh := And.intro hc hd
            repeat' (first | refine go ?_ | (refine br (fun hc => ?_) (fun hc => ?_) <;> try (exfalso; omega)) | fail)
            all_goals exact .junkd ⟨rfl, rfl⟩
      · have hh := hc
        repeat' (first | refine go ?_ | (refine br (fun hc => ?_) (fun hc => ?_) <;> try (exfalso; omega)) | fail)
        exact again (i + 1) ⟨by omega, fun j hj => by
          rcases Nat.lt_succ_iff_lt_or_eq.1 hj with h | h
          · exact hall j h
          · subst h; exact hc⟩
    · obtain rfl : i = z.length := by omega
      have hcut := cutAt_never (c := 32) hall
      have hF : fstE z = ([], 0, false) := by unfold fstE; rw [hcut]
      rw [hF]
      repeat' (first | refine go ?_ | (refine br (fun hc => ?_) (fun hc => ?_) <;> try (exfalso; omega)) | fail)
      all_goals exact .junkd ⟨rfl, rfl⟩
  · have hz : fstS x = none := by unfold fstS; rw [if_neg hf]
    have hE : firstE x = ([], 0, false) := by unfold firstE; rw [hz]
    rw [hE]
    by_cases h6 : 6 ≤ x.length
    · by_cases h5 : x.take 5 = fromB
      · have h10 : ¬ (x.getD (x.length - 1) 0).toNat = 10 := fun h => hf ⟨h6, h5, h⟩
        have h5' : x.take 5 = [70, 114, 111, 109, 32] := h5
        have hh := And.intro h5' h10
        refine enter (md := fun _ => 0) Tryd.func67 (fun hfit hgl => ?_)
        repeat' (first | refine go ?_ | (refine br (fun hc => ?_) (fun hc => ?_) <;> try (exfalso; omega)) | fail)
        all_goals exact .junkd ⟨rfl, rfl⟩
      · have h5' : ¬ x.take 5 = [70, 114, 111, 109, 32] := h5
        have hh := h5'
        refine enter (md := fun _ => 0) Tryd.func67 (fun hfit hgl => ?_)
        repeat' (first | refine go ?_ | (refine br (fun hc => ?_) (fun hc => ?_) <;> try (exfalso; omega)) | fail)
        all_goals exact .junkd ⟨rfl, rfl⟩
    · refine enter (md := fun _ => 0) Tryd.func67 (fun hfit hgl => ?_)
      repeat' (first | refine go ?_ | (refine br (fun hc => ?_) (fun hc => ?_) <;> try (exfalso; omega)) | fail)
      all_goals exact .junkd ⟨rfl, rfl⟩

end Go.Ab.Tryd
