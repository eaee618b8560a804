/- Walks: the laws on entries. -/
import Derived.Test.YtlcbdgklbjocnaaDoorLTake2
import Derived.Test.YtlcbdgklbjocnaaDoorLPut
import Derived.Test.YtlcbdgklbjocnaaDoorLEntry
set_option linter.unusedSimpArgs false
set_option linter.unusedVariables false
set_option maxHeartbeats 4000000
set_option maxRecDepth 4000
namespace Go.Ab.Tryd
open Go Go.Ab Go.Proofs
attribute [local irreducible] W Wl Wop TrA WSeq WLoopS FPost DPost RPost WRound DK onEnd
variable {n0 : Nat} {w0 : World} {gl : Nat → List AV} {H : List AO}
attribute [local simp] belowL_bytesAV

theorem mail_ab : MailboxOk [97, 64, 98] := by
  refine ⟨1, rfl, by omega, by omega, ⟨?_, by simp⟩, ?_⟩
  · intro p hp
    simp [parts] at hp
    subst hp
    refine ⟨by simp, by simp, by simp, by simp, fun i hi => ?_⟩
    obtain rfl : i = 0 := by simp at hi; omega
    left; decide
  · intro p hp
    simp [parts] at hp
    subst hp
    refine ⟨fun i hi => ?_, by simp⟩
    obtain rfl : i = 0 := by simp at hi; omega
    decide

theorem awake15_e [ht : Tab10 n0 w0] : AEnter (env n0 w0 gl) 13 [] H (fun y H' => y = .ret (.bool true) ∧ H' = H) := by
  have hpl : putL [[97, 98], []] = [50, 58, 97, 98, 44, 48, 58, 44] := by decide +kernel
  have hput : ∀ H tok, Ctr (env n0 w0 gl) 19 [.sl 2 [.sl 2 [.int .u8 97, .int .u8 98] .ro, .sl 0 [] .full] tok] H True (.sl 8 (bytesAV [50, 58, 97, 98, 44, 48, 58, 44]) .ro) H := fun H tok => ⟨fun _ => by
    have h0 : (putL (([([97, 98], .ro), ([], .full)] : Parts).map (·.1))) = [50, 58, 97, 98, 44, 48, 58, 44] := hpl
    have := (put_t (n0 := n0) (w0 := w0) (gl := gl) (H := H) [([97, 98], .ro), ([], .full)] tok).call ⟨by decide, by rw [h0]; decide⟩
    rw [h0] at this
    exact this⟩
  have hchk : tf (CheckOk [] [[97, 64, 98]] 0 0) = true := tf_true ⟨.inl rfl, by simp, by simp, by omega, by omega, fun i hi => by
    obtain rfl : i = 0 := by simp at hi; omega
    exact mail_ab⟩
  have hc : ∀ H, Ctr (env n0 w0 gl) 15 [.agg [.str [], .sl 1 [.str [97, 64, 98]] .full, .int .i64 0], .sl 0 [] .full] H True (.int .i64 0) H := fun H => ⟨fun _ => by
    have := (check_t (n0 := n0) (w0 := w0) (gl := gl) (H := H) [] [[97, 64, 98]] 0 [] 0 .full .full).call ⟨by decide, fun i hi => by
      obtain rfl : i = 0 := by simp only [List.length_cons, List.length_nil] at hi; omega
      decide, by decide⟩
    rw [hchk] at this
    exact this⟩
  refine enter (md := fun t => if t = 1 then 2 else 0) Tryd.func13 (fun hfit hgl => ?_)
  repeat' (first | refine go ?_ | (refine br (fun hc => ?_) (fun hc => ?_) <;> try (exfalso; omega)) | fail)
  exact .junkd ⟨rfl, rfl⟩
instance awake15_t [ht : Tab10 n0 w0] : Ctr (env n0 w0 gl) 13 [] H True (.bool true) H := .of fun _ => awake15_e

theorem entryPuts_t [ht : Tab10 n0 w0] (a b : List UInt8) (ha : a.length ≤ 9223372036854775807) (hb : b.length ≤ 9223372036854775807) : AEnter (env n0 w0 gl) 5 [.sl a.length (bytesAV a) .ro, .sl b.length (bytesAV b) .ro] H (fun y H' => y = .ret (.bool true) ∧ H' = H) := by
  by_cases hab : a.length ≤ 2000 ∧ b.length ≤ 2000
  · have hpm : ([(a, .ro), (b, .ro)] : Parts).map (·.1) = [a, b] := rfl
    have hlen : (putL [a, b]).length ≤ 5000 := by
      have h1 := nDigits_le (u := a.length) (k := 4) (by omega) (by omega)
      have h2 := nDigits_le (u := b.length) (k := 4) (by omega) (by omega)
      simp only [putL, List.flatMap_cons, List.flatMap_nil, List.length_append, putF_len, List.length_nil]; omega
    have h1 : ∀ H tok, Ctr (env n0 w0 gl) 19 [.sl 2 [.sl a.length (bytesAV a) .ro, .sl b.length (bytesAV b) .ro] tok] H True (.sl (putL [a, b]).length (bytesAV (putL [a, b])) .ro) H := fun H tok => ⟨fun _ => by
      have := (put_t (n0 := n0) (w0 := w0) (gl := gl) (H := H) [(a, .ro), (b, .ro)] tok).call ⟨by show 2 ≤ 9223372036854775807; decide, by rw [hpm]; omega⟩
      rw [hpm] at this
      exact this⟩
    have h2 : ∀ H tok, Ctr (env n0 w0 gl) 20 [.sl 2 [.sl a.length (bytesAV a) .ro, .sl b.length (bytesAV b) .ro] tok] H True (.sl (putL [a, b]).length (bytesAV (putL [a, b])) .ro) H := fun H tok => ⟨fun _ => by
      have := (ref_put_t (n0 := n0) (w0 := w0) (gl := gl) (H := H) [(a, .ro), (b, .ro)] tok).call ⟨by show 2 ≤ 9223372036854775807; decide, by rw [hpm]; omega⟩
      rw [hpm] at this
      exact this⟩
    have hT : ∃ x y is t1, takeV b = .tup [.sl (List.length x) (bytesAV x) t1, .sl (List.length y) (bytesAV y) .ro, .bool is] := by
      unfold takeV
      cases cut15R b with
      | none => exact ⟨[], b, false, .full, rfl⟩
      | some xn => obtain ⟨x, n⟩ := xn; exact ⟨x, b.drop n, true, .ro, rfl⟩
    obtain ⟨x, y, is, t1, hT⟩ := hT
    have h3 : ∀ H, Ctr (env n0 w0 gl) 21 [.sl b.length (bytesAV b) .ro] H True (.tup [.sl x.length (bytesAV x) t1, .sl y.length (bytesAV y) .ro, .bool is]) H := fun H => ⟨fun _ => by
      have := (take_t (n0 := n0) (w0 := w0) (gl := gl) (H := H) b).call (by omega)
      rwa [hT] at this⟩
    have h4 : ∀ H, Ctr (env n0 w0 gl) 22 [.sl b.length (bytesAV b) .ro] H True (.tup [.sl x.length (bytesAV x) t1, .sl y.length (bytesAV y) .ro, .bool is]) H := fun H => ⟨fun _ => by
      have := (ref_take_t (n0 := n0) (w0 := w0) (gl := gl) (H := H) b).call (by omega)
      rwa [hT] at this⟩
    refine enter (md := fun _ => 0) Tryd.func5 (fun hfit hgl => ?_)
    generalize putL [a, b] = pab at *
    repeat' (first | refine go ?_ | (refine br (fun hc => ?_) (fun hc => ?_) <;> try (exfalso; omega)) | fail)
    exact .now ⟨rfl, rfl⟩
  · refine enter (md := fun _ => 0) Tryd.func5 (fun hfit hgl => ?_)
    repeat' (first | refine go ?_ | (refine br (fun hc => ?_) (fun hc => ?_) <;> try (exfalso; omega)) | fail)
    · exact .now ⟨rfl, rfl⟩
    · rw [decide_eq_true (p := 2000 < (b.length : Int)) (by omega)]
      exact .now ⟨rfl, rfl⟩

end Go.Ab.Tryd
