/- Walks: letters; whole numbers as bytes. -/
import Derived.Test.YtpdjgbpmlckepaaGreatDoorLConvA
import Derived.Test.YtpdjgbpmlckepaaGreatDoorFrE
import Derived.Laws.RangeAny
import Derived.Test.YtpdjgbpmlckepaaGreatDoorLPut
import Derived.Test.YtpdjgbpmlckepaaGreatDoorLEntry
import Derived.Test.YtpdjgbpmlckepaaGreatDoorLRefCheck
section
set_option linter.unusedSimpArgs false
set_option linter.unusedVariables false
set_option maxHeartbeats 4000000
set_option maxRecDepth 4000
namespace Go.Ab.Tryz
open Go Go.Ab Go.Proofs
attribute [local irreducible] W Wl Wop TrA WSeq WLoopS FPost DPost RPost WRound DK onEnd
variable {n0 : Nat} {w0 : World} {gl : Nat → List AV} {H : List AO}
attribute [local simp] belowL_bytesAV

/-- Small letters alone, and not too many. -/
def LettersOk (s : List UInt8) : Prop := (∀ i, i < s.length → 97 ≤ (s.getD i 0).toNat ∧ (s.getD i 0).toNat ≤ 122) ∧ 1 ≤ s.length ∧ s.length ≤ 20

theorem small13_e (s : List UInt8) (hs : s.length ≤ 9223372036854775807) : AEnter (env n0 w0 gl) 74 [.str s, .int .i64 20] H (fun y H' => y = .ret (.bool (tf (LettersOk s))) ∧ H' = H) := by
  refine enter (md := fun _ => 0) Tryz.func74 (fun hfit hgl => ?_)
  repeat' (first | refine go ?_ | (refine br (fun hc => ?_) (fun hc => ?_) <;> try (exfalso; omega)) | fail)
  refine loop0 (fun i : Nat => (.str s :: .int .i64 20 :: .top :: .top :: .bool false :: .int .i64 (i : Int) :: .top :: .top :: .top :: .top :: .top :: .top :: .top :: .top :: .top :: .top :: .top :: .top :: .top :: .top :: .top :: .top :: .top :: .top :: .top :: .top :: .top :: .top :: .top :: .top :: .top :: [])) (fun i => i ≤ s.length ∧ ∀ k, k < i → 97 ≤ (s.getD k 0).toNat ∧ (s.getD k 0).toNat ≤ 122) (fun i => s.length - i) 0 ⟨Nat.zero_le _, fun k h => absurd h (Nat.not_lt_zero _)⟩ ?_
  rintro i ⟨hi, hall⟩
  by_cases hlt : i < s.length
  · repeat' (first | refine go ?_ | (refine br (fun hc => ?_) (fun hc => ?_) <;> try (exfalso; omega)) | fail)
    · rw [tf_false (p := LettersOk s) (fun h => by have := h.1 i hlt; omega)]; exact .now ⟨rfl, rfl⟩
    · rw [tf_false (p := LettersOk s) (fun h => by have := h.1 i hlt; omega)]; exact .now ⟨rfl, rfl⟩
    · refine again (i + 1) ⟨by omega, fun k hk => ?_⟩ (by omega)
      rcases Nat.lt_succ_iff_lt_or_eq.1 hk with h | h
      · exact hall k h
      · subst h; omega
  · obtain rfl : i = s.length := by omega
    repeat' (first | refine go ?_ | (refine br (fun hc => ?_) (fun hc => ?_) <;> try (exfalso; omega)) | fail)
    · rw [show tf (LettersOk s) = decide ((s.length : Int) ≤ 20) from by
        by_cases h : s.length ≤ 20
        · rw [tf_true (p := LettersOk s) ⟨hall, by omega, h⟩, decide_eq_true (by omega)]
        · rw [tf_false (p := LettersOk s) (fun h2 => h h2.2.2), decide_eq_false (by omega)]]
      exact .now ⟨rfl, rfl⟩
    · rw [tf_false (p := LettersOk s) (fun h => by have := h.2.1; omega)]; exact .now ⟨rfl, rfl⟩

theorem letters_e (s : List UInt8) (hs : s.length ≤ 9223372036854775807) : AEnter (env n0 w0 gl) 119 [.str s] H (fun y H' => y = .ret (.bool (tf (LettersOk s))) ∧ H' = H) := by
  refine enter (md := fun _ => 0) Tryz.func119 (fun hfit hgl => ?_)
  repeat' (first | refine go ?_ | (refine br (fun hc => ?_) (fun hc => ?_) <;> try (exfalso; omega)) | fail)
  refine loop (fun i : Nat => (.str s :: .top :: .bool false :: .top :: .top :: .top :: .ref H.length 0 :: .top :: .top :: .top :: .top :: .top :: .top :: .top :: .top :: .top :: .top :: .top :: .top :: .top :: .top :: .top :: .top :: [])) (fun i => H ++ [.iter s i]) (fun i => i ≤ s.length ∧ ∀ k, k < i → 97 ≤ (s.getD k 0).toNat ∧ (s.getD k 0).toNat ≤ 122) (fun i => s.length - i) 0 ⟨Nat.zero_le _, fun k h => absurd h (Nat.not_lt_zero _)⟩ ?_
  rintro i ⟨hi, hall⟩
  by_cases hlt : i < s.length
  · have hrow : (⟨s.toArray⟩ : ByteArray).size = s.length := by simp [ByteArray.size]
    have hge : (⟨s.toArray⟩ : ByteArray)[i]'(by rw [hrow]; exact hlt) = s.getD i 0 := by
      show s.toArray[i]'_ = _
      simp [List.getD_eq_getElem?_getD, hlt]
    by_cases ha : (s.getD i 0).toNat < 128
    · have hd := decode_ascii ⟨s.toArray⟩ i (by rw [hrow]; exact hlt) (by rw [hge]; exact ha)
      rw [hge] at hd
      have hh := And.intro hlt hd
      repeat' (first | refine go ?_ | (refine br (fun hc => ?_) (fun hc => ?_) <;> try (exfalso; omega)) | fail)
      · rw [tf_false (p := LettersOk s) (fun h => by have := h.1 i hlt; omega)]; exact .junkd ⟨rfl, rfl⟩
      · rw [tf_false (p := LettersOk s) (fun h => by have := h.1 i hlt; omega)]; exact .junkd ⟨rfl, rfl⟩
      · refine again (i + 1) ⟨by omega, fun k hk => ?_⟩ (by omega)
        rcases Nat.lt_succ_iff_lt_or_eq.1 hk with h | h
        · exact hall k h
        · subst h; omega
    · have hd := decode_high ⟨s.toArray⟩ i (by rw [hrow]; exact hlt) (by rw [hge]; omega)
      have hl2 := decode_le ⟨s.toArray⟩ i
      generalize hdd : Utf8.decode ⟨s.toArray⟩ i = dd at *
      have hh := And.intro hlt hdd
      repeat' (first | refine go ?_ | (refine br (fun hc => ?_) (fun hc => ?_) <;> try (exfalso; omega)) | fail)
      all_goals (rw [tf_false (p := LettersOk s) (fun h => by have := h.1 i hlt; omega)]; exact .junkd ⟨rfl, rfl⟩)
  · obtain rfl : i = s.length := by omega
    repeat' (first | refine go ?_ | (refine br (fun hc => ?_) (fun hc => ?_) <;> try (exfalso; omega)) | fail)
    · rw [show tf (LettersOk s) = decide ((s.length : Int) ≤ 20) from by
        by_cases h : s.length ≤ 20
        · rw [tf_true (p := LettersOk s) ⟨hall, by omega, h⟩, decide_eq_true (by omega)]
        · rw [tf_false (p := LettersOk s) (fun h2 => h h2.2.2), decide_eq_false (by omega)]]
      exact .junkd ⟨rfl, rfl⟩
    · rw [tf_false (p := LettersOk s) (fun h => by have := h.2.1; omega)]; exact .junkd ⟨rfl, rfl⟩

instance small13_t (s : List UInt8) : Ctr (env n0 w0 gl) 74 [.str s, .int .i64 20] H (s.length ≤ 9223372036854775807) (.bool (tf (LettersOk s))) H := .of fun hs => small13_e s hs
instance letters_t (s : List UInt8) : Ctr (env n0 w0 gl) 119 [.str s] H (s.length ≤ 9223372036854775807) (.bool (tf (LettersOk s))) H := .of fun hs => letters_e s hs

theorem slRo {g : Ghost} {n : Nat} {xs : List AV} {tok : Tok} {c : Value} (r : VRel g (.sl n xs tok) c) : VRel g (.sl n xs .ro) c := by
  cases r with
  | nsl t h => exact .nsl _ trivial
  | sl n xs tok b o cap vs hn hk hx ht => exact .sl n xs _ b o cap vs hn hk hx trivial

/-- A number's digits alone. -/
theorem appendUint0_e [ht : Tab10 n0 w0] (k : Nat) (hk : k < 9223372036854775808) :
    AEnter (env n0 w0 gl) 197 [.sl 0 [] .full, .int .u64 k, .int .i64 10] H (fun y H' => y = .ret (.sl (Lib.nDigits k) (bytesAV (Lib.decDigits k)) .ro) ∧ H' = H) := by
  have hd : Lib.nDigits k ≤ 20 := nDigits_le (by omega) (by omega)
  have hd1 := nDigits_pos k
  have hdl := Lib.decDigits_length k
  have hfb : Ctr (env n0 w0 gl) 195 [.msl H.length 0 (Lib.nDigits k), .int .u64 k] (H ++ [.cells (bytesAV zeros24)]) True (.tup []) (H ++ [.cells (bytesAV (Lib.decDigits k ++ zeros24.drop (Lib.nDigits k)))]) := by
    have := formatBase10_t (n0 := n0) (w0 := w0) (gl := gl) (H := H ++ [.cells (bytesAV zeros24)]) k zeros24 H.length (by simp) (by show _ ≤ 24; omega) (by decide) hd1 (lt_pow_nDigits k) (by omega)
    simpa using this
  have hz : bytesAV zeros24 = List.replicate 24 (.int .u8 0) := rfl
  rw [hz] at hfb
  simp only [List.replicate] at hfb
  have hh := And.intro (Nat.sub_zero (Lib.nDigits k)) <| And.intro (show Lib.nDigits k ≤ 24 by omega) (And.intro hdl (And.intro (take_digits k (zeros24.drop (Lib.nDigits k))) (show (Lib.decDigits k ++ zeros24.drop (Lib.nDigits k)).length = 24 by rw [List.length_append, hdl, List.length_drop]; show _ + (24 - _) = 24; omega)))
  refine enter (md := fun _ => 0) Tryz.func197 (fun hfit hgl => ?_)
  repeat' (first | refine go ?_ | (refine br (fun hc => ?_) (fun hc => ?_) <;> try (exfalso; omega)) | fail)
  all_goals exact Out.weak (fun g c r => slRo r) (.junkd ⟨rfl, rfl⟩)
instance appendInt0_t [ht : Tab10 n0 w0] (k : Nat) : Ctr (env n0 w0 gl) 121 [.sl 0 [] .full, .int .i64 k, .int .i64 10] H (k < 9223372036854775808) (.sl (Lib.nDigits k) (bytesAV (Lib.decDigits k)) .ro) H := .of fun hk => by
  have h1 : Ctr (env n0 w0 gl) 197 [.sl 0 [] .full, .int .u64 k, .int .i64 10] H True (.sl (Lib.nDigits k) (bytesAV (Lib.decDigits k)) .ro) H := .of fun _ => appendUint0_e k hk
  have h2 : Ctr (env n0 w0 gl) 165 [.sl 0 [] .full, .int .i64 k, .int .i64 10] H True (.sl (Lib.nDigits k) (bytesAV (Lib.decDigits k)) .ro) H := .of fun _ => by
    refine enter (md := fun _ => 0) Tryz.func165 (fun hfit hgl => ?_)
    repeat' (first | refine go ?_ | (refine br (fun hc => ?_) (fun hc => ?_) <;> try (exfalso; omega)) | fail)
    exact .now ⟨rfl, rfl⟩
  refine enter (md := fun _ => 0) Tryz.func121 (fun hfit hgl => ?_)
  repeat' (first | refine go ?_ | (refine br (fun hc => ?_) (fun hc => ?_) <;> try (exfalso; omega)) | fail)
  exact .now ⟨rfl, rfl⟩
instance number15_t [ht : Tab10 n0 w0] (k : Nat) : Ctr (env n0 w0 gl) 120 [.int .i64 k] H (k < 9223372036854775808) (.sl (Lib.nDigits k) (bytesAV (Lib.decDigits k)) .ro) H := .of fun hk => by
  refine enter (md := fun _ => 0) Tryz.func120 (fun hfit hgl => ?_)
  repeat' (first | refine go ?_ | (refine br (fun hc => ?_) (fun hc => ?_) <;> try (exfalso; omega)) | fail)
  exact .now ⟨rfl, rfl⟩
instance digits15_t [ht : Tab10 n0 w0] (k : Nat) : Ctr (env n0 w0 gl) 75 [.int .i64 k] H (k < 9223372036854775808) (.sl (Lib.nDigits k) (bytesAV (Lib.decDigits k)) .ro) H := .of fun hk => by
  have hf : ∀ H, Ctr (env n0 w0 gl) 125 [.int .i64 k, .int .i64 10] H True (.str (Lib.decDigits k)) H := fun H => ⟨fun _ => by
    have := (formatInt_t (n0 := n0) (w0 := w0) (gl := gl) (H := H) (k : Int)).call ⟨by omega, by omega⟩
    rwa [Lib.itoa_nonneg] at this⟩
  have hh := Lib.decDigits_length k
  refine enter (md := fun _ => 0) Tryz.func75 (fun hfit hgl => ?_)
  repeat' (first | refine go ?_ | (refine br (fun hc => ?_) (fun hc => ?_) <;> try (exfalso; omega)) | fail)
  exact .now ⟨rfl, rfl⟩

end Go.Ab.Tryz

end

section
set_option linter.unusedSimpArgs false
set_option linter.unusedVariables false
set_option maxHeartbeats 4000000
set_option maxRecDepth 4000
namespace Go.Ab.Tryz
open Go Go.Ab Go.Proofs
attribute [local irreducible] W Wl Wop TrA WSeq WLoopS FPost DPost RPost WRound DK onEnd
variable {n0 : Nat} {w0 : World} {gl : Nat → List AV} {H : List AO}
attribute [local simp] belowL_bytesAV belowL_strs

/-- A message, as far as its bytes go. -/
structure Msg where
  id : Int
  cls : List UInt8
  fro : List UInt8
  to : List (List UInt8)
  at_ : Int
  body : List UInt8
def Msg.av (m : Msg) : List AV := [.int .i64 m.id, .str m.cls, .str m.fro, .sl m.to.length (m.to.map .str) .ro, .int .i64 m.at_, .sl m.body.length (bytesAV m.body) .ro]
def Msg.EncOk (m : Msg) : Prop := CheckOk m.fro m.to m.at_ m.body.length ∧ 1 ≤ m.id ∧ m.id ≤ 1099511627776 ∧ LettersOk m.cls
def Msg.headP (m : Msg) : Parts := [(Lib.decDigits m.id.toNat, .ro), (m.cls, .ro), (m.fro, .ro), (Lib.decDigits m.at_.toNat, .ro), (Lib.decDigits m.to.length, .ro)]
def roP (l : List (List UInt8)) : Parts := l.map fun s => (s, .ro)
def Msg.parts (m : Msg) : Parts := m.headP ++ roP m.to ++ [(m.body, .ro)]
def Msg.enc (m : Msg) : List UInt8 := putL (m.parts.map (·.1))
def Msg.Small (m : Msg) : Prop := m.at_ ≤ 9223372036854775807 ∧ m.fro.length ≤ 9223372036854775807 ∧ (∀ i, i < m.to.length → (m.to.getD i []).length ≤ 9223372036854775807) ∧ m.to.length ≤ 9223372036854775807 ∧ m.cls.length ≤ 9223372036854775807

theorem mailbox_len {s : List UInt8} (h : MailboxOk s) : s.length ≤ 320 := by
  obtain ⟨k, _, _, h3, ⟨_, h4⟩, _⟩ := h
  rw [List.length_drop] at h4; omega
theorem putL_bound {B : Nat} (hB : B ≤ 1000000) : ∀ (l : List (List UInt8)), (∀ s ∈ l, s.length ≤ B) → (putL l).length ≤ l.length * (B + 22)
  | [], _ => by simp [putL]
  | s :: l, h => by
    have h1 := putL_bound hB l (fun x hx => h x (List.mem_cons_of_mem _ hx))
    have h2 := h s (List.mem_cons_self ..)
    have h3 := nDigits_le (u := s.length) (k := 20) (by omega) (by omega)
    have h4 := putF_len s
    simp only [putL, List.flatMap_cons, List.length_append, List.length_cons] at h1 ⊢
    rw [Nat.succ_mul]; omega
/-- One receiver, as a part. -/
def toP (to : List (List UInt8)) : List AV := to.map fun s => .sl s.length (bytesAV s) .ro
def headL (idn : Nat) (cls fro : List UInt8) (atn n : Nat) : List AV := [.sl (Lib.nDigits idn) (bytesAV (Lib.decDigits idn)) .ro, .sl cls.length (bytesAV cls) .ro, .sl fro.length (bytesAV fro) .ro, .sl (Lib.nDigits atn) (bytesAV (Lib.decDigits atn)) .ro, .sl (Lib.nDigits n) (bytesAV (Lib.decDigits n)) .ro]
theorem headL_len (idn : Nat) (cls fro : List UInt8) (atn n : Nat) : (headL idn cls fro atn n).length = 5 := rfl
theorem toP_succ {to : List (List UInt8)} {i : Nat} (h : i < to.length) : toP (to.take (i + 1)) = toP (to.take i) ++ [.sl (to.getD i []).length (bytesAV (to.getD i [])) .ro] := by
  rw [List.take_add_one, List.getElem?_eq_getElem h]
  simp only [toP, Option.toList_some, List.map_append, List.map_cons, List.map_nil, List.getD_eq_getElem?_getD, List.getElem?_eq_getElem h, Option.getD_some]
theorem toP_len (to : List (List UInt8)) : (toP to).length = to.length := by simp [toP]

theorem parts_len (idn atn : Nat) (cls fro body : List UInt8) (to : List (List UInt8)) : List.length (Msg.mk idn cls fro to atn body).parts = 5 + (to.length + 1) := by
  simp [Msg.parts, Msg.headP, roP]; omega
theorem parts_av (idn atn : Nat) (cls fro body : List UInt8) (to : List (List UInt8)) : partsAV (Msg.mk idn cls fro to atn body).parts = headL idn cls fro atn to.length ++ (toP to ++ [.sl body.length (bytesAV body) .ro]) := by
  simp [partsAV, Msg.parts, Msg.headP, roP, toP, headL, Lib.decDigits_length]
theorem enc_bound {m : Msg} (hC : CheckOk m.fro m.to m.at_ m.body.length) (hL : LettersOk m.cls) (hi : m.id < 9223372036854775808 := by omega) (ha : m.at_ < 9223372036854775808 := by omega) : (putL (m.parts.map (·.1))).length ≤ 140737488350000 := by
  obtain ⟨id, cls, fro, to, at_, body⟩ := m
  simp only at hC hL hi ha
  obtain ⟨h1, h2, h3, h4, h5, h6⟩ := hC
  have hl : List.length ((Msg.mk id cls fro to at_ body).parts.map (·.1)) ≤ 106 := by simp [Msg.parts, Msg.headP, roP]; omega
  have := putL_bound (B := 500000) (by decide) ((Msg.mk id cls fro to at_ body).parts.map (·.1)) (fun s hs => by
    simp only [Msg.parts, Msg.headP, roP, List.map_append, List.map_cons, List.map_nil, List.map_map, List.mem_append, List.mem_cons, List.not_mem_nil, or_false, List.mem_map, Function.comp] at hs
    rcases hs with ((rfl | rfl | rfl | rfl | rfl) | ⟨s', hs', rfl⟩) | rfl
    · rw [Lib.decDigits_length]; have := nDigits_le (u := id.toNat) (k := 20) (by omega) (by omega); omega
    · have := hL.2.2; omega
    · rcases h1 with h | h
      · omega
      · have := mailbox_len h; omega
    · rw [Lib.decDigits_length]; have := nDigits_le (u := at_.toNat) (k := 20) (by omega) (by omega); omega
    · rw [Lib.decDigits_length]; have := nDigits_le (u := to.length) (k := 20) (by omega) (by omega); omega
    · obtain ⟨i, hi, rfl⟩ := List.getElem_of_mem hs'
      have := h6 i hi
      rw [List.getD_eq_getElem?_getD, List.getElem?_eq_getElem hi] at this
      have := mailbox_len this; simp only [Option.getD_some] at this; omega
    · omega)
  have h7 : List.length ((Msg.mk id cls fro to at_ body).parts.map (·.1)) * (500000 + 22) ≤ 106 * (500000 + 22) := Nat.mul_le_mul_right _ hl
  omega

theorem encode1_e [ht : Tab10 n0 w0] (m : Msg) (hm : m.Small) : AEnter (env n0 w0 gl) 116 [.ref H.length 0, .ref (H.length + 1) 0] (H ++ [.cells m.av, .cells [.sl 0 [] .full], .cells [.int .i64 0]])
    (fun y H' => (m.EncOk ∧ y = .ret (.tup []) ∧ H' = H ++ [.cells m.av, .cells [.sl m.enc.length (bytesAV m.enc) .ro], .cells [.int .i64 0]]) ∨ (¬ m.EncOk ∧ y = .panic thrown ∧ H' = H ++ [.cells m.av, .cells [.sl 0 [] .full], .cells [.int .i64 0]])) := by
  obtain ⟨id, cls, fro, to, at_, body⟩ := m
  obtain ⟨hat9, hfro, hto, htl, hcl⟩ := hm
  simp only at hat9 hfro hto htl hcl
  simp only [Msg.av]
  by_cases hC : CheckOk fro to at_ body.length
  · have hc : ∀ H, Ctr (env n0 w0 gl) 118 [.agg [.str fro, .sl to.length (to.map .str) .ro, .int .i64 at_], .sl body.length (bytesAV body) .ro] H True (.int .i64 0) H := fun H => ⟨fun _ => by
      have := (check_t (n0 := n0) (w0 := w0) (gl := gl) (H := H) fro to at_ (bytesAV body) body.length .ro .ro).call ⟨hfro, hto, htl⟩
      rwa [tf_true hC] at this⟩
    by_cases hI : 1 ≤ id ∧ id ≤ 1099511627776 ∧ LettersOk cls
    · have hL : ∀ H, Ctr (env n0 w0 gl) 119 [.str cls] H True (.bool true) H := fun H => ⟨fun _ => by
        have := (letters_t (n0 := n0) (w0 := w0) (gl := gl) (H := H) cls).call hcl
        rwa [tf_true hI.2.2] at this⟩
      have hat0 : 0 ≤ at_ := hC.2.2.2.1
      obtain ⟨idn, rfl⟩ : ∃ k : Nat, id = (k : Int) := ⟨id.toNat, by omega⟩
      obtain ⟨atn, rfl⟩ : ∃ k : Nat, at_ = (k : Int) := ⟨at_.toNat, by omega⟩
      have hat1 : atn < 9223372036854775808 := by omega
      refine enter (md := fun _ => 0) Tryz.func116 (fun hfit hgl => ?_)
      repeat' (first | refine go ?_ | (refine br (fun hc => ?_) (fun hc => ?_) <;> try (exfalso; omega)) | fail)
      refine loop (fun i : Nat => (.ref H.length 0 :: .ref (H.length + 1) 0 :: .top :: .sl (5 + i) (headL idn cls fro atn to.length ++ toP (to.take i)) (.at (H.length + 3) (5 + i)) :: .top :: .top :: .top :: .top :: .top :: .top :: .top :: .top :: .top :: .top :: .top :: .top :: .top :: .top :: .top :: .top :: .top :: .top :: .top :: .top :: .top :: .top :: .top :: .top :: .top :: .top :: .top :: .top :: .top :: .top :: .top :: .top :: .top :: .top :: .top :: .top :: .top :: .top :: .top :: .top :: .top :: .top :: .top :: .top :: .top :: .top :: .top :: .top :: .sl to.length (to.map .str) .ro :: .int .i64 to.length :: .int .i64 (i : Int) :: .top :: .top :: .top :: .top :: .top :: .top :: .top :: .top :: .top :: .top :: .top :: .top :: .top :: .top :: .top :: []))
        (fun i => H ++ [.cells [.int .i64 idn, .str cls, .str fro, .sl to.length (to.map .str) .ro, .int .i64 atn, .sl body.length (bytesAV body) .ro], .cells [.sl 0 [] .full], .cells [.int .i64 0], .tail 1 (5 + i)]) (fun i => i ≤ to.length) (fun i => to.length - i) 0 (Nat.zero_le _) ?_ ((Shift.tail 1 3 5 rfl).trans ?_)
      · intro i hi
        by_cases hlt : i < to.length
        · have hs := toP_succ hlt
          have hl5 : (toP (to.take i)).length = i := by rw [toP_len, List.length_take]; omega
          have ht100 : to.length ≤ 100 := hC.2.2.1
          have hlen : (headL idn cls fro atn to.length ++ toP (to.take i)).length = 5 + i := by rw [List.length_append, headL_len, hl5]
          have hh := hlen
          repeat' (first | refine go ?_ | (refine br (fun hc => ?_) (fun hc => ?_) <;> try (exfalso; omega)) | fail)
          rw [← hs]
          exact again (i + 1) (by omega)
        · obtain rfl : i = to.length := by omega
          rw [List.take_length]
          have ht100 : to.length ≤ 100 := hC.2.2.1
          have hlen : (headL idn cls fro atn to.length ++ toP to).length = 5 + to.length := by rw [List.length_append, headL_len, toP_len]
          have hput : ∀ H tok, Ctr (env n0 w0 gl) 72 [.sl (5 + (to.length + 1)) (headL idn cls fro atn to.length ++ (toP to ++ [.sl body.length (bytesAV body) .ro])) tok] H True (.sl (Msg.mk idn cls fro to atn body).enc.length (bytesAV (Msg.mk idn cls fro to atn body).enc) .ro) H := fun H tok => ⟨fun _ => by
            have := (put_t (n0 := n0) (w0 := w0) (gl := gl) (H := H) (Msg.mk idn cls fro to atn body).parts tok).call ⟨by rw [parts_len]; omega, enc_bound hC hI.2.2 (show (idn : Int) < 9223372036854775808 by omega) (show (atn : Int) < 9223372036854775808 by omega)⟩
            rw [parts_len, parts_av] at this
            exact this⟩
          have hh := hlen
          have hgl2 : ∀ i, belowL (H.length + 3) ((env n0 w0 gl).gl i) = true := by simpa using hgl
          have hfit2 : Fit (H.length + 3) H := fun o ho => by have := hfit o (List.mem_append_left _ ho); simpa using this
          repeat' (first | refine go ?_ | (refine br (fun hc => ?_) (fun hc => ?_) <;> try (exfalso; omega)) | fail)
          rw [show ∀ a b c d : AO, H ++ [a, b, c, d] = (H ++ [a, b, c]) ++ [d] from fun _ _ _ _ => by simp]
          exact .junkd (.inl ⟨⟨hC, hI⟩, rfl, rfl⟩)
      · simp only [List.set_cons_succ, List.set_cons_zero, List.append_assoc, List.cons_append, List.nil_append, List.length_append, List.length_cons, List.length_nil, Nat.zero_add, Nat.reduceAdd]
        exact Shift.auto
    · have hno : ¬ (Msg.mk id cls fro to at_ body).EncOk := fun h => hI h.2
      have hL : ∀ H, Ctr (env n0 w0 gl) 119 [.str cls] H True (.bool (tf (LettersOk cls))) H := fun H => ⟨fun _ => (letters_t (n0 := n0) (w0 := w0) (gl := gl) (H := H) cls).call hcl⟩
      by_cases hLt : LettersOk cls
      · rw [tf_true hLt] at hL
        refine enter (md := fun _ => 0) Tryz.func116 (fun hfit hgl => ?_)
        repeat' (first | refine go ?_ | (refine br (fun hc => ?_) (fun hc => ?_) <;> try (exfalso; omega)) | fail)
        all_goals first
          | exact .now (.inr ⟨hno, rfl, rfl⟩)
          | exact absurd ⟨by omega, by omega, hLt⟩ hI
      · rw [tf_false hLt] at hL
        refine enter (md := fun _ => 0) Tryz.func116 (fun hfit hgl => ?_)
        repeat' (first | refine go ?_ | (refine br (fun hc => ?_) (fun hc => ?_) <;> try (exfalso; omega)) | fail)
        all_goals exact .now (.inr ⟨hno, rfl, rfl⟩)
  · have hc : ∀ H, Ctr (env n0 w0 gl) 118 [.agg [.str fro, .sl to.length (to.map .str) .ro, .int .i64 at_], .sl body.length (bytesAV body) .ro] H True (.int .i64 150) H := fun H => ⟨fun _ => by
      have := (check_t (n0 := n0) (w0 := w0) (gl := gl) (H := H) fro to at_ (bytesAV body) body.length .ro .ro).call ⟨hfro, hto, htl⟩
      rwa [tf_false hC] at this⟩
    have hno : ¬ (Msg.mk id cls fro to at_ body).EncOk := fun h => hC h.1
    refine enter (md := fun _ => 0) Tryz.func116 (fun hfit hgl => ?_)
    repeat' (first | refine go ?_ | (refine br (fun hc => ?_) (fun hc => ?_) <;> try (exfalso; omega)) | fail)
    exact .now (.inr ⟨hno, rfl, rfl⟩)

end Go.Ab.Tryz

end

section
set_option linter.unusedSimpArgs false
set_option linter.unusedVariables false
set_option maxHeartbeats 4000000
set_option maxRecDepth 4000
namespace Go.Ab.Tryz
open Go Go.Ab Go.Proofs
attribute [local irreducible] W Wl Wop TrA WSeq WLoopS FPost DPost RPost WRound DK onEnd
variable {n0 : Nat} {w0 : World} {gl : Nat → List AV} {H : List AO}
attribute [local simp] belowL_bytesAV belowL_strs

theorem encode_ok [ht : Tab10 n0 w0] (m : Msg) (hm : m.Small) (hE : m.EncOk) : AEnter (env n0 w0 gl) 66 [.agg m.av] H (fun y H' => y = .ret (.tup [.sl m.enc.length (bytesAV m.enc) .ro, .int .i64 0]) ∧ H' = H) := by
  have h1 := encode1_e (n0 := n0) (w0 := w0) (gl := gl) (H := H) m hm
  generalize hen : m.enc = en at *
  obtain ⟨id, cls, fro, to, at_, body⟩ := m
  simp only [Msg.av] at h1 ⊢
  refine enter (md := fun _ => 0) Tryz.func66 (fun hfit hgl => ?_)
  repeat' (first | refine go ?_ | (refine br (fun hc => ?_) (fun hc => ?_) <;> try (exfalso; omega)) | fail)
  ((with_reducible apply wop_call); (· rfl); (· rfl); (· (simp only [AAct.ev, List.getD_cons_zero, List.getD_cons_succ, constAV, env_gl]; try exact rfl)); (· (simp only [evCallArgs, List.map_cons, List.map_nil, List.nil_append, List.append_nil, List.cons_append, Array.toList, List.toList_toArray, AAct.ev, List.getD_cons_zero, List.getD_cons_succ, constAV, env_gl]; try exact rfl)))
  refine ((caught_t (R := fun x H' => x = .ret (.int .i64 0) ∧ H' = H ++ [.cells [.int .i64 id, .str cls, .str fro, .sl to.length (to.map .str) .ro, .int .i64 at_, .sl body.length (bytesAV body) .ro], .cells [.sl en.length (bytesAV en) .ro]]) _ [] _ ?_).call).mono ?_
  · intro hf2
    rw [List.append_assoc]
    refine h1.call.mono ?_
    have hfit2 : Fit (H.length + 2) H := fun o ho => by have := hf2 o (List.mem_append_left _ ho); simpa using this
    have hgl2 : ∀ i, belowL (H.length + 2) ((env n0 w0 gl).gl i) = true := fun i => belowL_mono (by omega) _ (hgl i)
    rintro x H' (⟨_, rfl, rfl⟩ | ⟨h, _⟩)
    · refine ⟨by simp, .inl ⟨rfl, ?_⟩⟩
      rw [show ∀ a b c : AO, H ++ [a, b, c] = (H ++ [a, b]) ++ [c] from fun _ _ _ => by simp]
      exact .junkd ⟨rfl, rfl⟩
    · exact absurd hE h
  · rintro x H' ⟨rfl, rfl⟩
    repeat' (first | refine go ?_ | (refine br (fun hc => ?_) (fun hc => ?_) <;> try (exfalso; omega)) | fail)
    exact .junkd ⟨rfl, rfl⟩

theorem encode_bad [ht : Tab10 n0 w0] (m : Msg) (hm : m.Small) (hE : ¬ m.EncOk) : AEnter (env n0 w0 gl) 66 [.agg m.av] H (fun y H' => y = .ret (.tup [.sl 0 [] .full, .int .i64 150]) ∧ H' = H) := by
  have h1 := encode1_e (n0 := n0) (w0 := w0) (gl := gl) (H := H) m hm
  generalize hen : m.enc = en at *
  obtain ⟨id, cls, fro, to, at_, body⟩ := m
  simp only [Msg.av] at h1 ⊢
  refine enter (md := fun _ => 0) Tryz.func66 (fun hfit hgl => ?_)
  repeat' (first | refine go ?_ | (refine br (fun hc => ?_) (fun hc => ?_) <;> try (exfalso; omega)) | fail)
  ((with_reducible apply wop_call); (· rfl); (· rfl); (· (simp only [AAct.ev, List.getD_cons_zero, List.getD_cons_succ, constAV, env_gl]; try exact rfl)); (· (simp only [evCallArgs, List.map_cons, List.map_nil, List.nil_append, List.append_nil, List.cons_append, Array.toList, List.toList_toArray, AAct.ev, List.getD_cons_zero, List.getD_cons_succ, constAV, env_gl]; try exact rfl)))
  refine ((caught_t (R := fun x H' => x = .ret (.int .i64 150) ∧ H' = H ++ [.cells [.int .i64 id, .str cls, .str fro, .sl to.length (to.map .str) .ro, .int .i64 at_, .sl body.length (bytesAV body) .ro], .cells [.sl 0 [] .full]]) _ [] _ ?_).call).mono ?_
  · intro hf2
    rw [List.append_assoc]
    refine h1.call.mono ?_
    have hfit2 : Fit (H.length + 2) H := fun o ho => by have := hf2 o (List.mem_append_left _ ho); simpa using this
    have hgl2 : ∀ i, belowL (H.length + 2) ((env n0 w0 gl).gl i) = true := fun i => belowL_mono (by omega) _ (hgl i)
    rintro x H' (⟨h, _⟩ | ⟨_, rfl, rfl⟩)
    · exact absurd h hE
    · refine ⟨by simp, .inr ⟨rfl, ?_⟩⟩
      rw [show ∀ a b c : AO, H ++ [a, b, c] = (H ++ [a, b]) ++ [c] from fun _ _ _ => by simp, setE0]
      exact .junkd ⟨rfl, rfl⟩
  · rintro x H' ⟨rfl, rfl⟩
    repeat' (first | refine go ?_ | (refine br (fun hc => ?_) (fun hc => ?_) <;> try (exfalso; omega)) | fail)
    exact .junkd ⟨rfl, rfl⟩

theorem ref_encode_ok [ht : Tab10 n0 w0] (m : Msg) (hm : m.Small) (hE : m.EncOk) : AEnter (env n0 w0 gl) 34 [.agg m.av] H (fun y H' => y = .ret (.tup [.sl m.enc.length (bytesAV m.enc) .ro, .int .i64 0]) ∧ H' = H) := by
  obtain ⟨id, cls, fro, to, at_, body⟩ := m
  obtain ⟨hat9, hfro, hto, htl, hcl⟩ := hm
  obtain ⟨hC, hI⟩ := hE
  simp only at hat9 hfro hto htl hcl hC hI
  simp only [Msg.av]
  have hc : ∀ H, Ctr (env n0 w0 gl) 73 [.agg [.str fro, .sl to.length (to.map .str) .ro, .int .i64 at_], .sl body.length (bytesAV body) .ro] H True (.int .i64 0) H := fun H => ⟨fun _ => by
    have := (ref_check_t (n0 := n0) (w0 := w0) (gl := gl) (H := H) fro to at_ (bytesAV body) body.length .ro .ro).call ⟨hfro, hto, htl⟩
    rwa [tf_true hC] at this⟩
  have hL : ∀ H, Ctr (env n0 w0 gl) 74 [.str cls, .int .i64 20] H True (.bool true) H := fun H => ⟨fun _ => by
    have := (small13_t (n0 := n0) (w0 := w0) (gl := gl) (H := H) cls).call hcl
    rwa [tf_true hI.2.2] at this⟩
  have hat0 : 0 ≤ at_ := hC.2.2.2.1
  obtain ⟨idn, rfl⟩ : ∃ k : Nat, id = (k : Int) := ⟨id.toNat, by omega⟩
  obtain ⟨atn, rfl⟩ : ∃ k : Nat, at_ = (k : Int) := ⟨at_.toNat, by omega⟩
  have hat1 : atn < 9223372036854775808 := by omega
  refine enter (md := fun _ => 0) Tryz.func34 (fun hfit hgl => ?_)
  repeat' (first | refine go ?_ | (refine br (fun hc => ?_) (fun hc => ?_) <;> try (exfalso; omega)) | fail)
  refine loop (fun i : Nat => (.top :: .ref H.length 0 :: .top :: .top :: .sl (5 + i) (headL idn cls fro atn to.length ++ toP (to.take i)) (.at (H.length + 1) (5 + i)) :: .top :: .top :: .top :: .top :: .top :: .top :: .top :: .top :: .top :: .top :: .top :: .top :: .top :: .top :: .top :: .top :: .top :: .top :: .top :: .top :: .top :: .top :: .top :: .top :: .top :: .top :: .top :: .top :: .top :: .top :: .top :: .top :: .top :: .top :: .top :: .top :: .top :: .top :: .top :: .top :: .top :: .top :: .top :: .top :: .top :: .top :: .sl to.length (to.map .str) .ro :: .int .i64 to.length :: .int .i64 (i : Int) :: .top :: .top :: .top :: .top :: .top :: .top :: .top :: .top :: .top :: .top :: .top :: .top :: .top :: .top :: .top :: []))
    (fun i => H ++ [.cells [.int .i64 idn, .str cls, .str fro, .sl to.length (to.map .str) .ro, .int .i64 atn, .sl body.length (bytesAV body) .ro], .tail 1 (5 + i)]) (fun i => i ≤ to.length) (fun i => to.length - i) 0 (Nat.zero_le _) ?_ ((Shift.tail 1 4 5 rfl).trans ?_)
  · intro i hi
    by_cases hlt : i < to.length
    · have hs := toP_succ hlt
      have hl5 : (toP (to.take i)).length = i := by rw [toP_len, List.length_take]; omega
      have ht100 : to.length ≤ 100 := hC.2.2.1
      have hlen : (headL idn cls fro atn to.length ++ toP (to.take i)).length = 5 + i := by rw [List.length_append, headL_len, hl5]
      have hh := hlen
      repeat' (first | refine go ?_ | (refine br (fun hc => ?_) (fun hc => ?_) <;> try (exfalso; omega)) | fail)
      rw [← hs]
      exact again (i + 1) (by omega)
    · obtain rfl : i = to.length := by omega
      rw [List.take_length]
      have ht100 : to.length ≤ 100 := hC.2.2.1
      have hlen : (headL idn cls fro atn to.length ++ toP to).length = 5 + to.length := by rw [List.length_append, headL_len, toP_len]
      have hput : ∀ H tok, Ctr (env n0 w0 gl) 39 [.sl (5 + (to.length + 1)) (headL idn cls fro atn to.length ++ (toP to ++ [.sl body.length (bytesAV body) .ro])) tok] H True (.sl (Msg.mk idn cls fro to atn body).enc.length (bytesAV (Msg.mk idn cls fro to atn body).enc) .ro) H := fun H tok => ⟨fun _ => by
        have := (ref_put_t (n0 := n0) (w0 := w0) (gl := gl) (H := H) (Msg.mk idn cls fro to atn body).parts tok).call ⟨by rw [parts_len]; omega, enc_bound hC hI.2.2 (show (idn : Int) < 9223372036854775808 by omega) (show (atn : Int) < 9223372036854775808 by omega)⟩
        rw [parts_len, parts_av] at this
        exact this⟩
      have hh := hlen
      repeat' (first | refine go ?_ | (refine br (fun hc => ?_) (fun hc => ?_) <;> try (exfalso; omega)) | fail)
      exact .junkd ⟨rfl, rfl⟩
  · simp only [List.set_cons_succ, List.set_cons_zero, List.append_assoc, List.cons_append, List.nil_append, List.length_append, List.length_cons, List.length_nil, Nat.zero_add, Nat.reduceAdd]
    exact Shift.auto

theorem ref_encode_bad [ht : Tab10 n0 w0] (m : Msg) (hm : m.Small) (hE : ¬ m.EncOk) : AEnter (env n0 w0 gl) 34 [.agg m.av] H (fun y H' => y = .ret (.tup [.sl 0 [] .full, .int .i64 150]) ∧ H' = H) := by
  obtain ⟨id, cls, fro, to, at_, body⟩ := m
  obtain ⟨hat9, hfro, hto, htl, hcl⟩ := hm
  simp only at hat9 hfro hto htl hcl
  simp only [Msg.av]
  by_cases hC : CheckOk fro to at_ body.length
  · have hI : ¬ (1 ≤ id ∧ id ≤ 1099511627776 ∧ LettersOk cls) := fun h => hE ⟨hC, h⟩
    have hc : ∀ H, Ctr (env n0 w0 gl) 73 [.agg [.str fro, .sl to.length (to.map .str) .ro, .int .i64 at_], .sl body.length (bytesAV body) .ro] H True (.int .i64 0) H := fun H => ⟨fun _ => by
      have := (ref_check_t (n0 := n0) (w0 := w0) (gl := gl) (H := H) fro to at_ (bytesAV body) body.length .ro .ro).call ⟨hfro, hto, htl⟩
      rwa [tf_true hC] at this⟩
    have hL : ∀ H, Ctr (env n0 w0 gl) 74 [.str cls, .int .i64 20] H True (.bool (tf (LettersOk cls))) H := fun H => ⟨fun _ => (small13_t (n0 := n0) (w0 := w0) (gl := gl) (H := H) cls).call hcl⟩
    by_cases hLt : LettersOk cls
    · rw [tf_true hLt] at hL
      by_cases h1 : 1 ≤ id
      · have h2 : ¬ id ≤ 1099511627776 := fun h2 => hI ⟨h1, h2, hLt⟩
        refine enter (md := fun _ => 0) Tryz.func34 (fun hfit hgl => ?_)
        repeat' (first | refine go ?_ | (refine br (fun hc => ?_) (fun hc => ?_) <;> try (exfalso; omega)) | fail)
        exact .junkd ⟨rfl, rfl⟩
      · refine enter (md := fun _ => 0) Tryz.func34 (fun hfit hgl => ?_)
        repeat' (first | refine go ?_ | (refine br (fun hc => ?_) (fun hc => ?_) <;> try (exfalso; omega)) | fail)
        exact .junkd ⟨rfl, rfl⟩
    · rw [tf_false hLt] at hL
      refine enter (md := fun _ => 0) Tryz.func34 (fun hfit hgl => ?_)
      repeat' (first | refine go ?_ | (refine br (fun hc => ?_) (fun hc => ?_) <;> try (exfalso; omega)) | fail)
      all_goals exact .junkd ⟨rfl, rfl⟩
  · have hc : ∀ H, Ctr (env n0 w0 gl) 73 [.agg [.str fro, .sl to.length (to.map .str) .ro, .int .i64 at_], .sl body.length (bytesAV body) .ro] H True (.int .i64 150) H := fun H => ⟨fun _ => by
      have := (ref_check_t (n0 := n0) (w0 := w0) (gl := gl) (H := H) fro to at_ (bytesAV body) body.length .ro .ro).call ⟨hfro, hto, htl⟩
      rwa [tf_false hC] at this⟩
    refine enter (md := fun _ => 0) Tryz.func34 (fun hfit hgl => ?_)
    repeat' (first | refine go ?_ | (refine br (fun hc => ?_) (fun hc => ?_) <;> try (exfalso; omega)) | fail)
    exact .junkd ⟨rfl, rfl⟩

end Go.Ab.Tryz

end
