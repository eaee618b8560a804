/- Walks: a message read again: a text, a number. -/
import Derived.Test.YtpdjgbpmlckepaaDoorLBack1
import Derived.Test.YtpdjgbpmlckepaaDoorLEnc3
import Derived.Lib.AtoiErrMem
import Derived.Lib.ParseIntB
import Derived.Test.YtpdjgbpmlckepaaDoorShParse
set_option linter.unusedSimpArgs false
set_option linter.unusedVariables false
set_option maxHeartbeats 4000000
set_option maxRecDepth 4000
namespace Go.Ab.Tryd
open Go Go.Ab Go.Proofs
attribute [local irreducible] W Wl Wop TrA WSeq WLoopS FPost DPost RPost WRound DK onEnd
variable {n0 : Nat} {w0 : World} {gl : Nat → List AV} {H : List AO}
attribute [local simp] belowL_bytesAV belowL_strs

theorem text_e (c : Nat) (s rest : List UInt8) (hs : s.length ≤ 1000000) (hr : rest.length ≤ 100000000) (hH : H[c]? = some (.cells [.sl (putF s ++ rest).length (bytesAV (putF s ++ rest)) .ro])) :
    AEnter (env n0 w0 gl) 35 [.ref c 0] H (fun y H' => y = .ret (.str s) ∧ H' = H.set c (.cells [.sl rest.length (bytesAV rest) .ro])) := by
  have hd7 : Lib.nDigits s.length ≤ 7 := nDigits_le (by omega) (by omega)
  have hpl := putF_len s
  have hcut := cut15R_put s rest hs
  have hdrop : (putF s ++ rest).drop (putF s).length = rest := List.drop_left
  have hll : (putF s ++ rest).length = (putF s).length + rest.length := List.length_append
  generalize putF s ++ rest = r at *
  generalize (putF s).length = n at *
  have h1 : ∀ H, Ctr (env n0 w0 gl) 36 [.sl r.length (bytesAV r) .ro] H True (.tup [.sl s.length (bytesAV s) .ro, .int .i64 n]) H := fun H => .of fun _ => by
    have := cut_e (n0 := n0) (w0 := w0) (gl := gl) (H := H) r (by omega)
    rw [hcut] at this; exact this
  have hite : ∀ (p : Prop) [Decidable p] (a : Tok), (if p then a else a) = a := fun p _ a => ite_self a
  have hh := And.intro hH (And.intro (take_all r) hite)
  refine enter (md := fun _ => 0) Tryd.func35 (fun hfit hgl => ?_)
  repeat' (first | refine go ?_ | (refine br (fun hc => ?_) (fun hc => ?_) <;> try (exfalso; omega)) | fail)
  refine .now ⟨rfl, ?_⟩
  rw [show List.drop n (bytesAV r) = bytesAV rest by rw [← hdrop]; simp [bytesAV], show r.length - n = rest.length by omega]

theorem parseUintM_fold : ∀ (l : List UInt8) (acc : Nat), (∀ c ∈ l, 48 ≤ c.toNat ∧ c.toNat ≤ 57) → l.foldl (fun n c => 10 * n + (c.toNat - 48)) acc ≤ 9223372036854775807 → Lib.parseUintM (2 ^ 64 - 1) acc l = .ok (l.foldl (fun n c => 10 * n + (c.toNat - 48)) acc)
  | [], acc, _, _ => rfl
  | c :: l, acc, hd, hv => by
    have h1 := hd c (List.mem_cons_self ..)
    have key : ∀ (l : List UInt8) (n : Nat), n ≤ l.foldl (fun n c => 10 * n + (c.toNat - 48)) n := by
      intro l
      induction l with
      | nil => intro n; exact Nat.le_refl _
      | cons c l ih => intro n; exact Nat.le_trans (show n ≤ 10 * n + (c.toNat - 48) by omega) (ih _)
    have h2 := key l (10 * acc + (c.toNat - 48))
    simp only [List.foldl_cons] at hv ⊢
    have h3 : (2 : Nat) ^ 64 - 1 = 18446744073709551615 := by decide
    rw [Lib.parseUintM, if_pos h1, if_neg (by omega), if_neg (by rw [h3]; omega), Nat.mul_comm acc 10]
    exact parseUintM_fold l _ (fun x hx => hd x (List.mem_cons_of_mem _ hx)) hv
theorem parse_dec (k : Nat) (hk : k ≤ 9223372036854775807) : Lib.parseIntB 64 (Lib.decDigits k) = .ok (k : Int) := by
  have hd := digits_dec k
  have hv := decVal_dec k
  have hl := Lib.decDigits_length k
  have hp := nDigits_pos k
  have hf := parseUintM_fold (Lib.decDigits k) 0 hd (by show decVal _ ≤ _; rw [hv]; exact hk)
  have hf2 : Lib.parseUintM (2 ^ 64 - 1) 0 (Lib.decDigits k) = .ok k := by rw [hf]; exact congrArg _ hv
  cases hs : Lib.decDigits k with
  | nil => rw [hs] at hl; simp at hl; omega
  | cons c r =>
    have h1 := hd c (by rw [hs]; exact List.mem_cons_self ..)
    rw [hs] at hf2
    unfold Lib.parseIntB
    simp only
    rw [if_neg (by omega)]
    unfold Lib.parseUintB
    rw [if_neg (by simp), hf2]
    simp only
    have h3 : (2 : Nat) ^ (64 - 1) = 9223372036854775808 := by decide
    rw [if_neg (by rw [h3]; omega), if_neg (by omega), if_neg (by omega)]

theorem parseInt_ok (k : Nat) (hk : k ≤ 9223372036854775807) : Ctr (env n0 w0 gl) 39 [.str (Lib.decDigits k), .int .i64 10, .int .i64 64] H True (.tup [.int .i64 k, .nili]) H := .of fun _ =>
  AEnter.of_calls (fn := Tryd.f39) Tryd.func39 rfl rfl fun g w cs hr hv => by
    obtain ⟨c, ds, rfl, h1, h2⟩ := rels_cons hv
    obtain ⟨d, e, rfl, h3, h4⟩ := rels2 h2
    have := h3.int_inv; subst this
    have := h4.int_inv; subst this
    have := h1.str_inv; subst this
    have hsz : (⟨(Lib.decDigits k).toArray⟩ : ByteArray).size ≤ 9223372036854775806 := by
      show (Lib.decDigits k).toArray.size ≤ _
      rw [List.size_toArray, Lib.decDigits_length]; have := nDigits_le (u := k) (k := 20) (by omega) (by omega); omega
    have hrel : VRel g (.tup [.int .i64 k, .nili]) (.tuple #[.int .i64 k, .nilIface]) := .tup _ _ rfl (fun i => match i with | 0 => .int _ _ | 1 => .nili | _ + 2 => .top _)
    refine (Tryd.strconv_ParseInt_10_at64_ok ⟨(Lib.decDigits k).toArray⟩ hsz (k : Int) (by simpa using parse_dec k hk) w).mono ?_
    rintro e w' ⟨rfl, rfl | ⟨t, rfl⟩⟩
    · exact econc_same hr hrel
    · exact econc_ret hr (Lib.bytesWorld_below w _ t) hrel

theorem number_back (c d k : Nat) (rest : List UInt8) (hk : k ≤ 9223372036854775807) (hr : rest.length ≤ 100000000) (hcd : c ≠ d) (hH : H[c]? = some (.cells [.sl (putF (Lib.decDigits k) ++ rest).length (bytesAV (putF (Lib.decDigits k) ++ rest)) .ro])) (hD : H[d]? = some (.cells [.fn 35 [] [.ref c 0]])) :
    AEnter (env n0 w0 gl) 38 [.ref d 0] H (fun y H' => y = .ret (.int .i64 k) ∧ H' = H.set c (.cells [.sl rest.length (bytesAV rest) .ro])) := by
  have hdl : (Lib.decDigits k).length ≤ 1000000 := by rw [Lib.decDigits_length]; have := nDigits_le (u := k) (k := 20) (by omega) (by omega); omega
  have h1 : Ctr (env n0 w0 gl) 35 [.ref c 0] H True (.str (Lib.decDigits k)) (H.set c (.cells [.sl rest.length (bytesAV rest) .ro])) := .of fun _ => text_e c (Lib.decDigits k) rest hdl hr hH
  have h2 : ∀ H, Ctr (env n0 w0 gl) 39 [.str (Lib.decDigits k), .int .i64 10, .int .i64 64] H True (.tup [.int .i64 k, .nili]) H := fun H => parseInt_ok k hk
  have hh := hD
  refine enter (md := fun _ => 0) Tryd.func38 (fun hfit hgl => ?_)
  repeat' (first | refine go ?_ | (refine br (fun hc => ?_) (fun hc => ?_) <;> try (exfalso; omega)) | fail)
  exact .now ⟨rfl, rfl⟩

theorem text_r (c : Nat) (s rest r : List UInt8) (h0 : putF s ++ rest = r) (hs : s.length ≤ 1000000) (hr : rest.length ≤ 100000000) (hH : H[c]? = some (.cells [.sl r.length (bytesAV r) .ro])) :
    AEnter (env n0 w0 gl) 35 [.ref c 0] H (fun y H' => y = .ret (.str s) ∧ H' = H.set c (.cells [.sl rest.length (bytesAV rest) .ro])) := by
  subst h0; exact text_e c s rest hs hr hH
theorem number_r (c d k : Nat) (rest r : List UInt8) (h0 : putF (Lib.decDigits k) ++ rest = r) (hk : k ≤ 9223372036854775807) (hr : rest.length ≤ 100000000) (hcd : c ≠ d) (hH : H[c]? = some (.cells [.sl r.length (bytesAV r) .ro])) (hD : H[d]? = some (.cells [.fn 35 [] [.ref c 0]])) :
    AEnter (env n0 w0 gl) 38 [.ref d 0] H (fun y H' => y = .ret (.int .i64 k) ∧ H' = H.set c (.cells [.sl rest.length (bytesAV rest) .ro])) := by
  subst h0; exact number_back c d k rest hk hr hcd hH hD

end Go.Ab.Tryd
