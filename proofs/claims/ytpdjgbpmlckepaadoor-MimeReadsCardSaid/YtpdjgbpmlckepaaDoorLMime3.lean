/- Walks: reports; the laws on boundaries and on reports. -/
import Derived.Test.YtpdjgbpmlckepaaDoorLMime2
import Derived.Test.YtpdjgbpmlckepaaDoorLRound
import Derived.Test.YtpdjgbpmlckepaaDoorAb32
set_option linter.unusedSimpArgs false
set_option linter.unusedVariables false
set_option maxHeartbeats 4000000
set_option maxRecDepth 4000
namespace Go.Ab.Tryd
open Go Go.Ab Go.Proofs
attribute [local irreducible] W Wl Wop TrA WSeq WLoopS FPost DPost RPost WRound DK onEnd
variable {n0 : Nat} {w0 : World} {gl : Nat → List AV} {H : List AO}
attribute [local simp] belowL_bytesAV belowL_strsM

/-- A report. -/
noncomputable def repS (fro : List UInt8) (to : List (List UInt8)) (a : Int) (b : List UInt8) : List UInt8 := aheadS fro to a (bdS b) ++ (b ++ ([13, 10, 45, 45] ++ (bdS b ++ [45, 45, 13, 10])))
theorem bdS_len {b : List UInt8} (hb : b.length ≤ 1000000) : (bdS b).length ≤ 100 := by
  have h1 := bdN_le b
  have h2 : (b.length + 1) * (b.length + 1) ≤ 1000001 * 1000001 := Nat.mul_le_mul (by omega) (by omega)
  have h3 : Lib.itoa ((bdN b : Nat) : Int) = Lib.decDigits (bdN b) := Lib.itoa_nonneg _
  have h4 : (Lib.decDigits (bdN b)).length ≤ 21 := by rw [← h3]; exact Lib.itoa_length_le _ (by omega) (by omega)
  simp only [bdS, journalB, List.length_append, List.length_cons, List.length_nil]; omega
theorem mailbox_len2 {s : List UInt8} (h : MailboxOk s) : s.length ≤ 100000 := by
  obtain ⟨k, _, _, h3, ⟨_, h4⟩, _⟩ := h
  rw [List.length_drop] at h4; omega
theorem envSmall_of {fro : List UInt8} {to : List (List UInt8)} {a : Int} (h : EnvOk fro to a) (hl : to.length ≤ 100000) (ha : a ≤ 9223372036854775807) : EnvSmall fro to a := by
  obtain ⟨h1, h2, h3, h4⟩ := h
  refine ⟨?_, hl, fun x hx => ?_, by omega, ha⟩
  · rcases h1 with h | h
    · omega
    · exact mailbox_len2 h
  · obtain ⟨i, hi, rfl⟩ := List.getElem_of_mem hx
    have := h4 i hi
    rw [List.getD_eq_getElem?_getD, List.getElem?_eq_getElem hi] at this
    exact mailbox_len2 this

theorem report1_e [ht : Tab10 n0 w0] [hml : GLInt gl 0] (fro : List UInt8) (to : List (List UInt8)) (a : Int) (b : List UInt8) (h1 : fro.length ≤ 9223372036854775807) (h2 : to.length ≤ 9223372036854775807) (h3 : ∀ i, i < to.length → (to.getD i []).length ≤ 9223372036854775807) (hb : b.length ≤ 9223372036854775807) (ha : a ≤ 9223372036854775807) :
    AEnter (env n0 w0 gl) 59 [.ref H.length 0, .ref (H.length + 1) 0, .ref (H.length + 2) 0] (H ++ [.cells [.str fro, .sl to.length (to.map .str) .ro, .int .i64 a], .cells [.sl b.length (bytesAV b) .ro], .cells [.sl 0 [] .full], .cells [.int .i64 0]])
      (fun y H' => (chkE fro to a b.length = 0 ∧ y = .ret (.tup []) ∧ ∃ tok z, H' = H ++ ([.cells [.str fro, .sl to.length (to.map .str) .ro, .int .i64 a], .cells [.sl b.length (bytesAV b) .ro], .cells [.sl (repS fro to a b).length (bytesAV (repS fro to a b)) tok], .cells [.int .i64 0]] ++ z)) ∨
        (chkE fro to a b.length ≠ 0 ∧ y = .panic (thrown11 (chkE fro to a b.length)) ∧ H' = H ++ [.cells [.str fro, .sl to.length (to.map .str) .ro, .int .i64 a], .cells [.sl b.length (bytesAV b) .ro], .cells [.sl 0 [] .full], .cells [.int .i64 0]])) := by
  have hck := fun H => check11_e (n0 := n0) (w0 := w0) (gl := gl) (H := H) fro to a (bytesAV b) b.length .ro .ro h1 h2 h3 hb
  by_cases h0 : chkE fro to a b.length = 0
  · have hc : ∀ H, Ctr (env n0 w0 gl) 60 [.agg [.str fro, .sl to.length (to.map .str) .ro, .int .i64 a], .sl b.length (bytesAV b) .ro] H True (.tup []) H := fun H => .of fun _ => (hck H).mono fun y H' h => by
      rcases h with ⟨h4, ⟨_, h5⟩ | ⟨h5, _⟩⟩
      · exact ⟨h5, h4⟩
      · exact absurd h0 h5
    have hE : EnvOk fro to a ∧ to.length ≤ 100 ∧ b.length ≤ 1000000 := by
      unfold chkE at h0
      by_cases he : EnvOk fro to a
      · rw [tf_true he] at h0
        by_cases hl : to.length ≤ 100 ∧ b.length ≤ 1000000
        · exact ⟨he, hl⟩
        · simp [hl] at h0
      · rw [tf_false he] at h0; simp at h0
    obtain ⟨hE1, hE2, hE3⟩ := hE
    have hS := envSmall_of hE1 (by omega) ha
    have hbl := bdS_len hE3
    have hal := aheadS_len hS (n := bdS b) (by omega)
    have hah : ∀ H, Ctr (env n0 w0 gl) 53 [.agg [.str fro, .sl to.length (to.map .str) .ro, .int .i64 a], .str (bdS b)] H True (.str (aheadS fro to a (bdS b))) H := fun H => .of fun _ => ahead_e fro to a (bdS b) .ro hS (by omega) (.inl rfl)
    have hln : ∀ H tok, Ctr (env n0 w0 gl) 54 [.sl 2 [.str [], .str (45 :: 45 :: (bdS b ++ [45, 45]))] tok] H True (.str (13 :: 10 :: 45 :: 45 :: (bdS b ++ [45, 45, 13, 10]))) H := fun H tok => ⟨fun _ => by
      have := (lines11_t (n0 := n0) (w0 := w0) (gl := gl) (H := H) [[], 45 :: 45 :: (bdS b ++ [45, 45])] 2 tok).call ⟨rfl, by omega, by omega, by simp [linesB]; omega⟩
      rw [show linesB [[], 45 :: 45 :: (bdS b ++ [45, 45])] = 13 :: 10 :: 45 :: 45 :: (bdS b ++ [45, 45, 13, 10]) by simp [linesB]] at this
      exact this⟩
    refine enter (md := fun t => if t = 12 then 3 else 0) Tryd.func59 (fun hfit hgl => ?_)
    refine gos ?_
    refine wseq_normal ?_
    refine gos ?_
    refine wseq_normal ?_
    refine w_seq ?_
    refine w_drawnP (fun X => X[H.length + 1]? = some (.cells [.sl b.length (bytesAV b) .ro])) (by intro _ h; cases h) (by simp only [List.length_cons, List.length_nil, Nat.reduceAdd]; exact rfl) ?_
    refine goP ?_
    repeat' (first | refine go ?_ | (refine br (fun hc => ?_) (fun hc => ?_) <;> try (exfalso; omega)) | fail)
    have e1 : (aheadS fro to a (bdS b)).length + (b.length + ((bdS b).length + 8)) = (repS fro to a b).length := by simp [repS]
    have e2 : bytesAV (aheadS fro to a (bdS b)) ++ (bytesAV b ++ bytesAV (13 :: 10 :: 45 :: 45 :: (bdS b ++ [45, 45, 13, 10]))) = bytesAV (repS fro to a b) := by simp [repS, bytesAV]
    rw [e1, e2]
    exact .now (.inl ⟨h0, rfl, _, [.tail 1 (repS fro to a b).length], rfl⟩)
  · have hc : ∀ H, CtrP (env n0 w0 gl) 60 [.agg [.str fro, .sl to.length (to.map .str) .ro, .int .i64 a], .sl b.length (bytesAV b) .ro] H True (thrown11 (chkE fro to a b.length)) H := fun H => .of fun _ => (hck H).mono fun y H' h => by
      rcases h with ⟨h4, ⟨h5, _⟩ | ⟨_, h5⟩⟩
      · exact absurd h5 h0
      · exact ⟨h5, h4⟩
    refine enter (md := fun _ => 0) Tryd.func59 (fun hfit hgl => ?_)
    repeat' (first | refine go ?_ | (refine br (fun hc => ?_) (fun hc => ?_) <;> try (exfalso; omega)) | fail)
    exact .now (.inr ⟨h0, rfl, rfl⟩)

/-- A report, or an error's number. -/
noncomputable def repV (fro : List UInt8) (to : List (List UInt8)) (a : Int) (b : List UInt8) : AV := if chkE fro to a b.length = 0 then .tup [.sl (repS fro to a b).length (bytesAV (repS fro to a b)) .ro, .int .i64 0] else .tup [.sl 0 [] .full, .int .i64 (chkE fro to a b.length)]

theorem report_e [ht : Tab10 n0 w0] [hml : GLInt gl 0] (fro : List UInt8) (to : List (List UInt8)) (a : Int) (b : List UInt8) (h1 : fro.length ≤ 9223372036854775807) (h2 : to.length ≤ 9223372036854775807) (h3 : ∀ i, i < to.length → (to.getD i []).length ≤ 9223372036854775807) (hb : b.length ≤ 9223372036854775807) (ha : a ≤ 9223372036854775807) :
    AEnter (env n0 w0 gl) 18 [.agg [.str fro, .sl to.length (to.map .str) .ro, .int .i64 a], .sl b.length (bytesAV b) .ro] H (fun y H' => y = .ret (repV fro to a b) ∧ H' = H) := by
  have hp := report1_e (n0 := n0) (w0 := w0) (gl := gl) (H := H) fro to a b h1 h2 h3 hb ha
  unfold repV
  refine enter (md := fun _ => 0) Tryd.func18 (fun hfit hgl => ?_)
  repeat' (first | refine go ?_ | (refine br (fun hc => ?_) (fun hc => ?_) <;> try (exfalso; omega)) | fail)
  ((with_reducible apply wop_call); (· rfl); (· rfl); (· (simp only [AAct.ev, List.getD_cons_zero, List.getD_cons_succ, constAV, env_gl]; try exact rfl)); (· (simp only [evCallArgs, List.map_cons, List.map_nil, List.nil_append, List.append_nil, List.cons_append, Array.toList, List.toList_toArray, AAct.ev, List.getD_cons_zero, List.getD_cons_succ, constAV, env_gl]; try exact rfl)))
  by_cases h0 : chkE fro to a b.length = 0
  · rw [if_pos h0]
    refine (mime_caught_t (R := fun x H' => x = .ret (.int .i64 0) ∧ ∃ tok z, H' = H ++ ([.cells [.str fro, .sl to.length (to.map .str) .ro, .int .i64 a], .cells [.sl b.length (bytesAV b) .ro], .cells [.sl (repS fro to a b).length (bytesAV (repS fro to a b)) tok], .cells [.int .i64 0]] ++ z)) _ [] _ fun hf2 => ?_).call.mono ?_
    · simp only [List.append_assoc, List.cons_append, List.nil_append]
      refine hp.call.mono ?_
      rintro x H' (⟨_, rfl, tok, z, rfl⟩ | ⟨h, _⟩)
      · exact ⟨by simp, .inl ⟨rfl, .now ⟨rfl, tok, z, by simp⟩⟩⟩
      · exact absurd h0 h
    · rintro x H' ⟨rfl, tok, z, rfl⟩
      repeat' (first | refine go ?_ | (refine br (fun hc => ?_) (fun hc => ?_) <;> try (exfalso; omega)) | fail)
      refine Out.weak (b := .tup [.sl (repS fro to a b).length (bytesAV (repS fro to a b)) .ro, .int .i64 0]) (fun g c r => tupW (by rfl) (fun i c r => ?_) r) (.junkd ⟨rfl, rfl⟩)
      match i with
      | 0 => exact sl_ro g _ r
      | 1 => exact r
      | i + 2 => exact .top _
  · rw [if_neg h0]
    refine (mime_caught_t (R := fun x H' => x = .ret (.int .i64 (chkE fro to a b.length)) ∧ H' = H ++ [.cells [.str fro, .sl to.length (to.map .str) .ro, .int .i64 a], .cells [.sl b.length (bytesAV b) .ro], .cells [.sl 0 [] .full], .cells [.int .i64 (chkE fro to a b.length)]]) _ [] _ fun hf2 => ?_).call.mono ?_
    · simp only [List.append_assoc, List.cons_append, List.nil_append]
      refine hp.call.mono ?_
      rintro x H' (⟨h, _⟩ | ⟨_, rfl, rfl⟩)
      · exact absurd h h0
      · exact ⟨by simp, .inr ⟨_, rfl, .now ⟨rfl, by simp⟩⟩⟩
    · rintro x H' ⟨rfl, rfl⟩
      repeat' (first | refine go ?_ | (refine br (fun hc => ?_) (fun hc => ?_) <;> try (exfalso; omega)) | fail)
      exact .junkd ⟨rfl, rfl⟩

theorem report11_e [ht : Tab10 n0 w0] (fro : List UInt8) (to : List (List UInt8)) (a : Int) (b : List UInt8) (h1 : fro.length ≤ 9223372036854775807) (h2 : to.length ≤ 9223372036854775807) (h3 : ∀ i, i < to.length → (to.getD i []).length ≤ 9223372036854775807) (hb : b.length ≤ 9223372036854775807) (ha : a ≤ 9223372036854775807) :
    AEnter (env n0 w0 gl) 58 [.agg [.str fro, .sl to.length (to.map .str) .ro, .int .i64 a], .sl b.length (bytesAV b) .ro] H (fun y H' => y = .ret (repV fro to a b) ∧ H' = H) := by
  unfold repV
  by_cases hE : EnvOk fro to a
  · have he : ∀ H, Ctr (env n0 w0 gl) 104 [.agg [.str fro, .sl to.length (to.map .str) .ro, .int .i64 a]] H True (.bool true) H := fun H => ⟨fun _ => by
      have := (envelope_t (n0 := n0) (w0 := w0) (gl := gl) (H := H) fro to a .ro).call ⟨h1, h3, h2⟩
      rwa [tf_true hE] at this⟩
    by_cases hl : to.length ≤ 100 ∧ b.length ≤ 1000000
    · have h0 : chkE fro to a b.length = 0 := by unfold chkE; rw [tf_true hE, if_pos rfl, if_pos hl]
      rw [if_pos h0]
      obtain ⟨hl1, hl2⟩ := hl
      have hS := envSmall_of hE (by omega) ha
      have hbl := bdS_len hl2
      have hal := aheadS_len hS (n := bdS b) (by omega)
      have hah : ∀ H, Ctr (env n0 w0 gl) 57 [.agg [.str fro, .sl to.length (to.map .str) .ro, .int .i64 a], .str (bdS b)] H True (.str (aheadS fro to a (bdS b))) H := fun H => .of fun _ => head11_e fro to a (bdS b) .ro hS (by omega) (.inl rfl)
      refine enter (md := fun _ => 0) Tryd.func58 (fun hfit hgl => ?_)
      repeat' (first | refine go ?_ | (refine br (fun hc => ?_) (fun hc => ?_) <;> try (exfalso; omega)) | fail)
      have e1 : (aheadS fro to a (bdS b)).length + (b.length + ((bdS b).length + 8)) = (repS fro to a b).length := by simp [repS]
      have e2 : aheadS fro to a (bdS b) ++ (b ++ 13 :: 10 :: 45 :: 45 :: (bdS b ++ [45, 45, 13, 10])) = repS fro to a b := by simp [repS]
      rw [e1, e2]
      exact .junkd ⟨rfl, rfl⟩
    · have h0 : chkE fro to a b.length = 2 := by unfold chkE; rw [tf_true hE, if_pos rfl, if_neg hl]
      rw [h0, if_neg (by decide)]
      refine enter (md := fun _ => 0) Tryd.func58 (fun hfit hgl => ?_)
      repeat' (first | refine go ?_ | (refine br (fun hc => ?_) (fun hc => ?_) <;> try (exfalso; omega)) | fail)
      all_goals exact .junkd ⟨rfl, rfl⟩
  · have he : ∀ H, Ctr (env n0 w0 gl) 104 [.agg [.str fro, .sl to.length (to.map .str) .ro, .int .i64 a]] H True (.bool false) H := fun H => ⟨fun _ => by
      have := (envelope_t (n0 := n0) (w0 := w0) (gl := gl) (H := H) fro to a .ro).call ⟨h1, h3, h2⟩
      rwa [tf_false hE] at this⟩
    have h0 : chkE fro to a b.length = 110 := by unfold chkE; rw [tf_false hE]; rfl
    rw [h0, if_neg (by decide)]
    refine enter (md := fun _ => 0) Tryd.func58 (fun hfit hgl => ?_)
    repeat' (first | refine go ?_ | (refine br (fun hc => ?_) (fun hc => ?_) <;> try (exfalso; omega)) | fail)
    exact .junkd ⟨rfl, rfl⟩

end Go.Ab.Tryd
