/- Walks: a message as bytes, whole. -/
import Derived.Test.YtpdjgbpmlckepaaDoorLEnc2
import Derived.Test.YtpdjgbpmlckepaaDoorLRefCheck
set_option linter.unusedSimpArgs false
set_option linter.unusedVariables false
set_option maxHeartbeats 4000000
set_option maxRecDepth 4000
namespace Go.Ab.Tryd
open Go Go.Ab Go.Proofs
attribute [local irreducible] W Wl Wop TrA WSeq WLoopS FPost DPost RPost WRound DK onEnd
variable {n0 : Nat} {w0 : World} {gl : Nat → List AV} {H : List AO}
attribute [local simp] belowL_bytesAV belowL_strs

theorem encode_ok [ht : Tab10 n0 w0] (m : Msg) (hm : m.Small) (hE : m.EncOk) : AEnter (env n0 w0 gl) 40 [.agg m.av] H (fun y H' => y = .ret (.tup [.sl m.enc.length (bytesAV m.enc) .ro, .int .i64 0]) ∧ H' = H) := by
  have h1 := encode1_e (n0 := n0) (w0 := w0) (gl := gl) (H := H) m hm
  generalize hen : m.enc = en at *
  obtain ⟨id, cls, fro, to, at_, body⟩ := m
  simp only [Msg.av] at h1 ⊢
  refine enter (md := fun _ => 0) Tryd.func40 (fun hfit hgl => ?_)
  repeat' (first | refine go ?_ | (refine br (fun hc => ?_) (fun hc => ?_) <;> try (exfalso; omega)) | fail)
  ((with_reducible apply wop_call); (· rfl); (· rfl); (· (simp only [AAct.ev, List.getD_cons_zero, List.getD_cons_succ, constAV, env_gl]; try exact rfl)); (· (simp only [evCallArgs, List.map_cons, List.map_nil, List.nil_append, List.append_nil, List.cons_append, Array.toList, List.toList_toArray, AAct.ev, List.getD_cons_zero, List.getD_cons_succ, constAV, env_gl]; try exact rfl)))
  refine ((caught_t (R := fun x H' => x = .ret (.int .i64 0) ∧ H' = H ++ [.cells [.int .i64 id, .str cls, .str fro, .sl to.length (to.map .str) .ro, .int .i64 at_, .sl body.length (bytesAV body) .ro], .cells [.sl en.length (bytesAV en) .ro]]) _ [] _ ?_).call).mono ?_
  · intro hf2
    rw [List.append_assoc]
    refine h1.call.mono ?_
    have hfit2 : Fit (H.length + 2) H := fun o ho => by have := hf2 o (List.mem_append_left _ ho); simpa using this
    have hgl2 : ∀ i, belowL (H.length + 2) ((env n0 w0 gl).gl i) = true := fun i => belowL_mono (by omega) _ (hgl i)
    rintro x H' (⟨_, rfl, rfl⟩ | ⟨h, _⟩)
    · refine ⟨by simp, .inl ⟨rfl, ?_⟩⟩
      rw [show ∀ a b c : AO, H ++ [a, b, c] = (H ++ [a, b]) ++ [c] from fun _ _ _ => by simp]
      exact .junkd ⟨rfl, rfl⟩
    · exact absurd hE h
  · rintro x H' ⟨rfl, rfl⟩
    repeat' (first | refine go ?_ | (refine br (fun hc => ?_) (fun hc => ?_) <;> try (exfalso; omega)) | fail)
    exact .junkd ⟨rfl, rfl⟩

theorem encode_bad [ht : Tab10 n0 w0] (m : Msg) (hm : m.Small) (hE : ¬ m.EncOk) : AEnter (env n0 w0 gl) 40 [.agg m.av] H (fun y H' => y = .ret (.tup [.sl 0 [] .full, .int .i64 150]) ∧ H' = H) := by
  have h1 := encode1_e (n0 := n0) (w0 := w0) (gl := gl) (H := H) m hm
  generalize hen : m.enc = en at *
  obtain ⟨id, cls, fro, to, at_, body⟩ := m
  simp only [Msg.av] at h1 ⊢
  refine enter (md := fun _ => 0) Tryd.func40 (fun hfit hgl => ?_)
  repeat' (first | refine go ?_ | (refine br (fun hc => ?_) (fun hc => ?_) <;> try (exfalso; omega)) | fail)
  ((with_reducible apply wop_call); (· rfl); (· rfl); (· (simp only [AAct.ev, List.getD_cons_zero, List.getD_cons_succ, constAV, env_gl]; try exact rfl)); (· (simp only [evCallArgs, List.map_cons, List.map_nil, List.nil_append, List.append_nil, List.cons_append, Array.toList, List.toList_toArray, AAct.ev, List.getD_cons_zero, List.getD_cons_succ, constAV, env_gl]; try exact rfl)))
  refine ((caught_t (R := fun x H' => x = .ret (.int .i64 150) ∧ H' = H ++ [.cells [.int .i64 id, .str cls, .str fro, .sl to.length (to.map .str) .ro, .int .i64 at_, .sl body.length (bytesAV body) .ro], .cells [.sl 0 [] .full]]) _ [] _ ?_).call).mono ?_
  · intro hf2
    rw [List.append_assoc]
    refine h1.call.mono ?_
    have hfit2 : Fit (H.length + 2) H := fun o ho => by have := hf2 o (List.mem_append_left _ ho); simpa using this
    have hgl2 : ∀ i, belowL (H.length + 2) ((env n0 w0 gl).gl i) = true := fun i => belowL_mono (by omega) _ (hgl i)
    rintro x H' (⟨h, _⟩ | ⟨_, rfl, rfl⟩)
    · exact absurd h hE
    · refine ⟨by simp, .inr ⟨rfl, ?_⟩⟩
      rw [show ∀ a b c : AO, H ++ [a, b, c] = (H ++ [a, b]) ++ [c] from fun _ _ _ => by simp, setE0]
      exact .junkd ⟨rfl, rfl⟩
  · rintro x H' ⟨rfl, rfl⟩
    repeat' (first | refine go ?_ | (refine br (fun hc => ?_) (fun hc => ?_) <;> try (exfalso; omega)) | fail)
    exact .junkd ⟨rfl, rfl⟩

theorem ref_encode_ok [ht : Tab10 n0 w0] (m : Msg) (hm : m.Small) (hE : m.EncOk) : AEnter (env n0 w0 gl) 44 [.agg m.av] H (fun y H' => y = .ret (.tup [.sl m.enc.length (bytesAV m.enc) .ro, .int .i64 0]) ∧ H' = H) := by
  obtain ⟨id, cls, fro, to, at_, body⟩ := m
  obtain ⟨hat9, hfro, hto, htl, hcl⟩ := hm
  obtain ⟨hC, hI⟩ := hE
  simp only at hat9 hfro hto htl hcl hC hI
  simp only [Msg.av]
  have hc : ∀ H, Ctr (env n0 w0 gl) 92 [.agg [.str fro, .sl to.length (to.map .str) .ro, .int .i64 at_], .sl body.length (bytesAV body) .ro] H True (.int .i64 0) H := fun H => ⟨fun _ => by
    have := (ref_check_t (n0 := n0) (w0 := w0) (gl := gl) (H := H) fro to at_ (bytesAV body) body.length .ro .ro).call ⟨hfro, hto, htl⟩
    rwa [tf_true hC] at this⟩
  have hL : ∀ H, Ctr (env n0 w0 gl) 93 [.str cls, .int .i64 20] H True (.bool true) H := fun H => ⟨fun _ => by
    have := (small13_t (n0 := n0) (w0 := w0) (gl := gl) (H := H) cls).call hcl
    rwa [tf_true hI.2.2] at this⟩
  have hat0 : 0 ≤ at_ := hC.2.2.2.1
  obtain ⟨idn, rfl⟩ : ∃ k : Nat, id = (k : Int) := ⟨id.toNat, by omega⟩
  obtain ⟨atn, rfl⟩ : ∃ k : Nat, at_ = (k : Int) := ⟨at_.toNat, by omega⟩
  have hat1 : atn < 9223372036854775808 := by omega
  refine enter (md := fun _ => 0) Tryd.func44 (fun hfit hgl => ?_)
  repeat' (first | refine go ?_ | (refine br (fun hc => ?_) (fun hc => ?_) <;> try (exfalso; omega)) | fail)
  refine loop (fun i : Nat => (.top :: .ref H.length 0 :: .top :: .top :: .sl (5 + i) (headL idn cls fro atn to.length ++ toP (to.take i)) (.at (H.length + 1) (5 + i)) :: .top :: .top :: .top :: .top :: .top :: .top :: .top :: .top :: .top :: .top :: .top :: .top :: .top :: .top :: .top :: .top :: .top :: .top :: .top :: .top :: .top :: .top :: .top :: .top :: .top :: .top :: .top :: .top :: .top :: .top :: .top :: .top :: .top :: .top :: .top :: .top :: .top :: .top :: .top :: .top :: .top :: .top :: .top :: .top :: .top :: .top :: .sl to.length (to.map .str) .ro :: .int .i64 to.length :: .int .i64 (i : Int) :: .top :: .top :: .top :: .top :: .top :: .top :: .top :: .top :: .top :: .top :: .top :: .top :: .top :: .top :: .top :: []))
    (fun i => H ++ [.cells [.int .i64 idn, .str cls, .str fro, .sl to.length (to.map .str) .ro, .int .i64 atn, .sl body.length (bytesAV body) .ro], .tail 1 (5 + i)]) (fun i => i ≤ to.length) (fun i => to.length - i) 0 (Nat.zero_le _) ?_ ((Shift.tail 1 4 5 rfl).trans ?_)
  · intro i hi
    by_cases hlt : i < to.length
    · have hs := toP_succ hlt
      have hl5 : (toP (to.take i)).length = i := by rw [toP_len, List.length_take]; omega
      have ht100 : to.length ≤ 100 := hC.2.2.1
      have hlen : (headL idn cls fro atn to.length ++ toP (to.take i)).length = 5 + i := by rw [List.length_append, headL_len, hl5]
      have hh := hlen
      repeat' (first | refine go ?_ | (refine br (fun hc => ?_) (fun hc => ?_) <;> try (exfalso; omega)) | fail)
      rw [← hs]
      exact again (i + 1) (by omega)
    · obtain rfl : i = to.length := by omega
      rw [List.take_length]
      have ht100 : to.length ≤ 100 := hC.2.2.1
      have hlen : (headL idn cls fro atn to.length ++ toP to).length = 5 + to.length := by rw [List.length_append, headL_len, toP_len]
      have hput : ∀ H tok, Ctr (env n0 w0 gl) 95 [.sl (5 + (to.length + 1)) (headL idn cls fro atn to.length ++ (toP to ++ [.sl body.length (bytesAV body) .ro])) tok] H True (.sl (Msg.mk idn cls fro to atn body).enc.length (bytesAV (Msg.mk idn cls fro to atn body).enc) .ro) H := fun H tok => ⟨fun _ => by
        have := (ref_put_t (n0 := n0) (w0 := w0) (gl := gl) (H := H) (Msg.mk idn cls fro to atn body).parts tok).call ⟨by rw [parts_len]; omega, enc_bound hC hI.2.2 (show (idn : Int) < 9223372036854775808 by omega) (show (atn : Int) < 9223372036854775808 by omega)⟩
        rw [parts_len, parts_av] at this
        exact this⟩
      have hh := hlen
      repeat' (first | refine go ?_ | (refine br (fun hc => ?_) (fun hc => ?_) <;> try (exfalso; omega)) | fail)
      exact .junkd ⟨rfl, rfl⟩
  · simp only [List.set_cons_succ, List.set_cons_zero, List.append_assoc, List.cons_append, List.nil_append, List.length_append, List.length_cons, List.length_nil, Nat.zero_add, Nat.reduceAdd]
    exact Shift.auto

theorem ref_encode_bad [ht : Tab10 n0 w0] (m : Msg) (hm : m.Small) (hE : ¬ m.EncOk) : AEnter (env n0 w0 gl) 44 [.agg m.av] H (fun y H' => y = .ret (.tup [.sl 0 [] .full, .int .i64 150]) ∧ H' = H) := by
  obtain ⟨id, cls, fro, to, at_, body⟩ := m
  obtain ⟨hat9, hfro, hto, htl, hcl⟩ := hm
  simp only at hat9 hfro hto htl hcl
  simp only [Msg.av]
  by_cases hC : CheckOk fro to at_ body.length
  · have hI : ¬ (1 ≤ id ∧ id ≤ 1099511627776 ∧ LettersOk cls) := fun h => hE ⟨hC, h⟩
    have hc : ∀ H, Ctr (env n0 w0 gl) 92 [.agg [.str fro, .sl to.length (to.map .str) .ro, .int .i64 at_], .sl body.length (bytesAV body) .ro] H True (.int .i64 0) H := fun H => ⟨fun _ => by
      have := (ref_check_t (n0 := n0) (w0 := w0) (gl := gl) (H := H) fro to at_ (bytesAV body) body.length .ro .ro).call ⟨hfro, hto, htl⟩
      rwa [tf_true hC] at this⟩
    have hL : ∀ H, Ctr (env n0 w0 gl) 93 [.str cls, .int .i64 20] H True (.bool (tf (LettersOk cls))) H := fun H => ⟨fun _ => (small13_t (n0 := n0) (w0 := w0) (gl := gl) (H := H) cls).call hcl⟩
    by_cases hLt : LettersOk cls
    · rw [tf_true hLt] at hL
      by_cases h1 : 1 ≤ id
      · have h2 : ¬ id ≤ 1099511627776 := fun h2 => hI ⟨h1, h2, hLt⟩
        refine enter (md := fun _ => 0) Tryd.func44 (fun hfit hgl => ?_)
        repeat' (first | refine go ?_ | (refine br (fun hc => ?_) (fun hc => ?_) <;> try (exfalso; omega)) | fail)
        exact .junkd ⟨rfl, rfl⟩
      · refine enter (md := fun _ => 0) Tryd.func44 (fun hfit hgl => ?_)
        repeat' (first | refine go ?_ | (refine br (fun hc => ?_) (fun hc => ?_) <;> try (exfalso; omega)) | fail)
        exact .junkd ⟨rfl, rfl⟩
    · rw [tf_false hLt] at hL
      refine enter (md := fun _ => 0) Tryd.func44 (fun hfit hgl => ?_)
      repeat' (first | refine go ?_ | (refine br (fun hc => ?_) (fun hc => ?_) <;> try (exfalso; omega)) | fail)
      all_goals exact .junkd ⟨rfl, rfl⟩
  · have hc : ∀ H, Ctr (env n0 w0 gl) 92 [.agg [.str fro, .sl to.length (to.map .str) .ro, .int .i64 at_], .sl body.length (bytesAV body) .ro] H True (.int .i64 150) H := fun H => ⟨fun _ => by
      have := (ref_check_t (n0 := n0) (w0 := w0) (gl := gl) (H := H) fro to at_ (bytesAV body) body.length .ro .ro).call ⟨hfro, hto, htl⟩
      rwa [tf_false hC] at this⟩
    refine enter (md := fun _ => 0) Tryd.func44 (fun hfit hgl => ?_)
    repeat' (first | refine go ?_ | (refine br (fun hc => ?_) (fun hc => ?_) <;> try (exfalso; omega)) | fail)
    exact .junkd ⟨rfl, rfl⟩

end Go.Ab.Tryd
