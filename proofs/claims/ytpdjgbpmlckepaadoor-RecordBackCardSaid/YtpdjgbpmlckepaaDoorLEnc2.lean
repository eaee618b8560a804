/- Walks: a message as bytes. -/
import Derived.Test.YtpdjgbpmlckepaaDoorLEnc1
import Derived.Test.YtpdjgbpmlckepaaDoorLPut
import Derived.Test.YtpdjgbpmlckepaaDoorLEntry
set_option linter.unusedSimpArgs false
set_option linter.unusedVariables false
set_option maxHeartbeats 4000000
set_option maxRecDepth 4000
namespace Go.Ab.Tryd
open Go Go.Ab Go.Proofs
attribute [local irreducible] W Wl Wop TrA WSeq WLoopS FPost DPost RPost WRound DK onEnd
variable {n0 : Nat} {w0 : World} {gl : Nat → List AV} {H : List AO}
attribute [local simp] belowL_bytesAV belowL_strs

/-- A message, as far as its bytes go. -/
structure Msg where
  id : Int
  cls : List UInt8
  fro : List UInt8
  to : List (List UInt8)
  at_ : Int
  body : List UInt8
def Msg.av (m : Msg) : List AV := [.int .i64 m.id, .str m.cls, .str m.fro, .sl m.to.length (m.to.map .str) .ro, .int .i64 m.at_, .sl m.body.length (bytesAV m.body) .ro]
def Msg.EncOk (m : Msg) : Prop := CheckOk m.fro m.to m.at_ m.body.length ∧ 1 ≤ m.id ∧ m.id ≤ 1099511627776 ∧ LettersOk m.cls
def Msg.headP (m : Msg) : Parts := [(Lib.decDigits m.id.toNat, .ro), (m.cls, .ro), (m.fro, .ro), (Lib.decDigits m.at_.toNat, .ro), (Lib.decDigits m.to.length, .ro)]
def roP (l : List (List UInt8)) : Parts := l.map fun s => (s, .ro)
def Msg.parts (m : Msg) : Parts := m.headP ++ roP m.to ++ [(m.body, .ro)]
def Msg.enc (m : Msg) : List UInt8 := putL (m.parts.map (·.1))
def Msg.Small (m : Msg) : Prop := m.at_ ≤ 9223372036854775807 ∧ m.fro.length ≤ 9223372036854775807 ∧ (∀ i, i < m.to.length → (m.to.getD i []).length ≤ 9223372036854775807) ∧ m.to.length ≤ 9223372036854775807 ∧ m.cls.length ≤ 9223372036854775807

theorem mailbox_len {s : List UInt8} (h : MailboxOk s) : s.length ≤ 320 := by
  obtain ⟨k, _, _, h3, ⟨_, h4⟩, _⟩ := h
  rw [List.length_drop] at h4; omega
theorem putL_bound {B : Nat} (hB : B ≤ 1000000) : ∀ (l : List (List UInt8)), (∀ s ∈ l, s.length ≤ B) → (putL l).length ≤ l.length * (B + 22)
  | [], _ => by simp [putL]
  | s :: l, h => by
    have h1 := putL_bound hB l (fun x hx => h x (List.mem_cons_of_mem _ hx))
    have h2 := h s (List.mem_cons_self ..)
    have h3 := nDigits_le (u := s.length) (k := 20) (by omega) (by omega)
    have h4 := putF_len s
    simp only [putL, List.flatMap_cons, List.length_append, List.length_cons] at h1 ⊢
    rw [Nat.succ_mul]; omega
/-- One receiver, as a part. -/
def toP (to : List (List UInt8)) : List AV := to.map fun s => .sl s.length (bytesAV s) .ro
def headL (idn : Nat) (cls fro : List UInt8) (atn n : Nat) : List AV := [.sl (Lib.nDigits idn) (bytesAV (Lib.decDigits idn)) .ro, .sl cls.length (bytesAV cls) .ro, .sl fro.length (bytesAV fro) .ro, .sl (Lib.nDigits atn) (bytesAV (Lib.decDigits atn)) .ro, .sl (Lib.nDigits n) (bytesAV (Lib.decDigits n)) .ro]
theorem headL_len (idn : Nat) (cls fro : List UInt8) (atn n : Nat) : (headL idn cls fro atn n).length = 5 := rfl
theorem toP_succ {to : List (List UInt8)} {i : Nat} (h : i < to.length) : toP (to.take (i + 1)) = toP (to.take i) ++ [.sl (to.getD i []).length (bytesAV (to.getD i [])) .ro] := by
  rw [List.take_add_one, List.getElem?_eq_getElem h]
  simp only [toP, Option.toList_some, List.map_append, List.map_cons, List.map_nil, List.getD_eq_getElem?_getD, List.getElem?_eq_getElem h, Option.getD_some]
theorem toP_len (to : List (List UInt8)) : (toP to).length = to.length := by simp [toP]

theorem parts_len (idn atn : Nat) (cls fro body : List UInt8) (to : List (List UInt8)) : List.length (Msg.mk idn cls fro to atn body).parts = 5 + (to.length + 1) := by
  simp [Msg.parts, Msg.headP, roP]; omega
theorem parts_av (idn atn : Nat) (cls fro body : List UInt8) (to : List (List UInt8)) : partsAV (Msg.mk idn cls fro to atn body).parts = headL idn cls fro atn to.length ++ (toP to ++ [.sl body.length (bytesAV body) .ro]) := by
  simp [partsAV, Msg.parts, Msg.headP, roP, toP, headL, Lib.decDigits_length]
theorem enc_bound {m : Msg} (hC : CheckOk m.fro m.to m.at_ m.body.length) (hL : LettersOk m.cls) (hi : m.id < 9223372036854775808 := by omega) (ha : m.at_ < 9223372036854775808 := by omega) : (putL (m.parts.map (·.1))).length ≤ 140737488350000 := by
  obtain ⟨id, cls, fro, to, at_, body⟩ := m
  simp only at hC hL hi ha
  obtain ⟨h1, h2, h3, h4, h5, h6⟩ := hC
  have hl : List.length ((Msg.mk id cls fro to at_ body).parts.map (·.1)) ≤ 106 := by simp [Msg.parts, Msg.headP, roP]; omega
  have := putL_bound (B := 500000) (by decide) ((Msg.mk id cls fro to at_ body).parts.map (·.1)) (fun s hs => by
    simp only [Msg.parts, Msg.headP, roP, List.map_append, List.map_cons, List.map_nil, List.map_map, List.mem_append, List.mem_cons, List.not_mem_nil, or_false, List.mem_map, Function.comp] at hs
    rcases hs with ((rfl | rfl | rfl | rfl | rfl) | ⟨s', hs', rfl⟩) | rfl
    · rw [Lib.decDigits_length]; have := nDigits_le (u := id.toNat) (k := 20) (by omega) (by omega); omega
    · have := hL.2.2; omega
    · rcases h1 with h | h
      · omega
      · have := mailbox_len h; omega
    · rw [Lib.decDigits_length]; have := nDigits_le (u := at_.toNat) (k := 20) (by omega) (by omega); omega
    · rw [Lib.decDigits_length]; have := nDigits_le (u := to.length) (k := 20) (by omega) (by omega); omega
    · obtain ⟨i, hi, rfl⟩ := List.getElem_of_mem hs'
      have := h6 i hi
      rw [List.getD_eq_getElem?_getD, List.getElem?_eq_getElem hi] at this
      have := mailbox_len this; simp only [Option.getD_some] at this; omega
    · omega)
  have h7 : List.length ((Msg.mk id cls fro to at_ body).parts.map (·.1)) * (500000 + 22) ≤ 106 * (500000 + 22) := Nat.mul_le_mul_right _ hl
  omega

theorem encode1_e [ht : Tab10 n0 w0] (m : Msg) (hm : m.Small) : AEnter (env n0 w0 gl) 89 [.ref H.length 0, .ref (H.length + 1) 0] (H ++ [.cells m.av, .cells [.sl 0 [] .full], .cells [.int .i64 0]])
    (fun y H' => (m.EncOk ∧ y = .ret (.tup []) ∧ H' = H ++ [.cells m.av, .cells [.sl m.enc.length (bytesAV m.enc) .ro], .cells [.int .i64 0]]) ∨ (¬ m.EncOk ∧ y = .panic thrown ∧ H' = H ++ [.cells m.av, .cells [.sl 0 [] .full], .cells [.int .i64 0]])) := by
  obtain ⟨id, cls, fro, to, at_, body⟩ := m
  obtain ⟨hat9, hfro, hto, htl, hcl⟩ := hm
  simp only at hat9 hfro hto htl hcl
  simp only [Msg.av]
  by_cases hC : CheckOk fro to at_ body.length
  · have hc : ∀ H, Ctr (env n0 w0 gl) 32 [.agg [.str fro, .sl to.length (to.map .str) .ro, .int .i64 at_], .sl body.length (bytesAV body) .ro] H True (.int .i64 0) H := fun H => ⟨fun _ => by
      have := (check_t (n0 := n0) (w0 := w0) (gl := gl) (H := H) fro to at_ (bytesAV body) body.length .ro .ro).call ⟨hfro, hto, htl⟩
      rwa [tf_true hC] at this⟩
    by_cases hI : 1 ≤ id ∧ id ≤ 1099511627776 ∧ LettersOk cls
    · have hL : ∀ H, Ctr (env n0 w0 gl) 90 [.str cls] H True (.bool true) H := fun H => ⟨fun _ => by
        have := (letters_t (n0 := n0) (w0 := w0) (gl := gl) (H := H) cls).call hcl
        rwa [tf_true hI.2.2] at this⟩
      have hat0 : 0 ≤ at_ := hC.2.2.2.1
      obtain ⟨idn, rfl⟩ : ∃ k : Nat, id = (k : Int) := ⟨id.toNat, by omega⟩
      obtain ⟨atn, rfl⟩ : ∃ k : Nat, at_ = (k : Int) := ⟨at_.toNat, by omega⟩
      have hat1 : atn < 9223372036854775808 := by omega
      refine enter (md := fun _ => 0) Tryd.func89 (fun hfit hgl => ?_)
      repeat' (first | refine go ?_ | (refine br (fun hc => ?_) (fun hc => ?_) <;> try (exfalso; omega)) | fail)
      refine loop (fun i : Nat => (.ref H.length 0 :: .ref (H.length + 1) 0 :: .top :: .sl (5 + i) (headL idn cls fro atn to.length ++ toP (to.take i)) (.at (H.length + 3) (5 + i)) :: .top :: .top :: .top :: .top :: .top :: .top :: .top :: .top :: .top :: .top :: .top :: .top :: .top :: .top :: .top :: .top :: .top :: .top :: .top :: .top :: .top :: .top :: .top :: .top :: .top :: .top :: .top :: .top :: .top :: .top :: .top :: .top :: .top :: .top :: .top :: .top :: .top :: .top :: .top :: .top :: .top :: .top :: .top :: .top :: .top :: .top :: .top :: .top :: .sl to.length (to.map .str) .ro :: .int .i64 to.length :: .int .i64 (i : Int) :: .top :: .top :: .top :: .top :: .top :: .top :: .top :: .top :: .top :: .top :: .top :: .top :: .top :: .top :: .top :: []))
        (fun i => H ++ [.cells [.int .i64 idn, .str cls, .str fro, .sl to.length (to.map .str) .ro, .int .i64 atn, .sl body.length (bytesAV body) .ro], .cells [.sl 0 [] .full], .cells [.int .i64 0], .tail 1 (5 + i)]) (fun i => i ≤ to.length) (fun i => to.length - i) 0 (Nat.zero_le _) ?_ ((Shift.tail 1 3 5 rfl).trans ?_)
      · intro i hi
        by_cases hlt : i < to.length
        · have hs := toP_succ hlt
          have hl5 : (toP (to.take i)).length = i := by rw [toP_len, List.length_take]; omega
          have ht100 : to.length ≤ 100 := hC.2.2.1
          have hlen : (headL idn cls fro atn to.length ++ toP (to.take i)).length = 5 + i := by rw [List.length_append, headL_len, hl5]
          have hh := hlen
          repeat' (first | refine go ?_ | (refine br (fun hc => ?_) (fun hc => ?_) <;> try (exfalso; omega)) | fail)
          rw [← hs]
          exact again (i + 1) (by omega)
        · obtain rfl : i = to.length := by omega
          rw [List.take_length]
          have ht100 : to.length ≤ 100 := hC.2.2.1
          have hlen : (headL idn cls fro atn to.length ++ toP to).length = 5 + to.length := by rw [List.length_append, headL_len, toP_len]
          have hput : ∀ H tok, Ctr (env n0 w0 gl) 31 [.sl (5 + (to.length + 1)) (headL idn cls fro atn to.length ++ (toP to ++ [.sl body.length (bytesAV body) .ro])) tok] H True (.sl (Msg.mk idn cls fro to atn body).enc.length (bytesAV (Msg.mk idn cls fro to atn body).enc) .ro) H := fun H tok => ⟨fun _ => by
            have := (put_t (n0 := n0) (w0 := w0) (gl := gl) (H := H) (Msg.mk idn cls fro to atn body).parts tok).call ⟨by rw [parts_len]; omega, enc_bound hC hI.2.2 (show (idn : Int) < 9223372036854775808 by omega) (show (atn : Int) < 9223372036854775808 by omega)⟩
            rw [parts_len, parts_av] at this
            exact this⟩
          have hh := hlen
          have hgl2 : ∀ i, belowL (H.length + 3) ((env n0 w0 gl).gl i) = true := by simpa using hgl
          have hfit2 : Fit (H.length + 3) H := fun o ho => by have := hfit o (List.mem_append_left _ ho); simpa using this
          repeat' (first | refine go ?_ | (refine br (fun hc => ?_) (fun hc => ?_) <;> try (exfalso; omega)) | fail)
          rw [show ∀ a b c d : AO, H ++ [a, b, c, d] = (H ++ [a, b, c]) ++ [d] from fun _ _ _ _ => by simp]
          exact .junkd (.inl ⟨⟨hC, hI⟩, rfl, rfl⟩)
      · simp only [List.set_cons_succ, List.set_cons_zero, List.append_assoc, List.cons_append, List.nil_append, List.length_append, List.length_cons, List.length_nil, Nat.zero_add, Nat.reduceAdd]
        exact Shift.auto
    · have hno : ¬ (Msg.mk id cls fro to at_ body).EncOk := fun h => hI h.2
      have hL : ∀ H, Ctr (env n0 w0 gl) 90 [.str cls] H True (.bool (tf (LettersOk cls))) H := fun H => ⟨fun _ => (letters_t (n0 := n0) (w0 := w0) (gl := gl) (H := H) cls).call hcl⟩
      by_cases hLt : LettersOk cls
      · rw [tf_true hLt] at hL
        refine enter (md := fun _ => 0) Tryd.func89 (fun hfit hgl => ?_)
        repeat' (first | refine go ?_ | (refine br (fun hc => ?_) (fun hc => ?_) <;> try (exfalso; omega)) | fail)
        all_goals first
          | exact .now (.inr ⟨hno, rfl, rfl⟩)
          | exact absurd ⟨by omega, by omega, hLt⟩ hI
      · rw [tf_false hLt] at hL
        refine enter (md := fun _ => 0) Tryd.func89 (fun hfit hgl => ?_)
        repeat' (first | refine go ?_ | (refine br (fun hc => ?_) (fun hc => ?_) <;> try (exfalso; omega)) | fail)
        all_goals exact .now (.inr ⟨hno, rfl, rfl⟩)
  · have hc : ∀ H, Ctr (env n0 w0 gl) 32 [.agg [.str fro, .sl to.length (to.map .str) .ro, .int .i64 at_], .sl body.length (bytesAV body) .ro] H True (.int .i64 150) H := fun H => ⟨fun _ => by
      have := (check_t (n0 := n0) (w0 := w0) (gl := gl) (H := H) fro to at_ (bytesAV body) body.length .ro .ro).call ⟨hfro, hto, htl⟩
      rwa [tf_false hC] at this⟩
    have hno : ¬ (Msg.mk id cls fro to at_ body).EncOk := fun h => hC h.1
    refine enter (md := fun _ => 0) Tryd.func89 (fun hfit hgl => ?_)
    repeat' (first | refine go ?_ | (refine br (fun hc => ?_) (fun hc => ?_) <;> try (exfalso; omega)) | fail)
    exact .now (.inr ⟨hno, rfl, rfl⟩)

end Go.Ab.Tryd
