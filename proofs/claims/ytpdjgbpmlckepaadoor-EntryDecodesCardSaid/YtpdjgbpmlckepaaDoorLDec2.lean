/- Walks: a text, a number, read of any bytes. -/
import Derived.Test.YtpdjgbpmlckepaaDoorSDec
import Derived.Test.YtpdjgbpmlckepaaDoorLErr
import Derived.Test.YtpdjgbpmlckepaaDoorLRound
import Derived.Test.YtpdjgbpmlckepaaDoorLEq
import Derived.Test.YtpdjgbpmlckepaaDoorAb34
set_option linter.unusedSimpArgs false
set_option linter.unusedVariables false
set_option maxHeartbeats 4000000
set_option maxRecDepth 4000
namespace Go.Ab.Tryd
open Go Go.Ab Go.Proofs
attribute [local irreducible] W Wl Wop TrA WSeq WLoopS FPost DPost RPost WRound DK onEnd
attribute [local simp] belowL_bytesAV belowL_strs
variable {n0 : Nat} {w0 : World} {gl : Nat → List AV} {H : List AO}

theorem dtext_ok {c : Nat} {s : List UInt8} (hs : s.length ≤ 1000000000) (hH : H[c]? = some (.cells [.sl s.length (bytesAV s) .ro])) (hc : CutOk s) :
    AEnter (env n0 w0 gl) 35 [.ref c 0] H (fun y H' => y = .ret (.str (cutA s)) ∧ H' = H.set c (.cells [.sl (cutB s).length (bytesAV (cutB s)) .ro])) := by
  obtain ⟨n, h1, h2⟩ := cut_some hc
  obtain ⟨p1, p2, p3⟩ := cut15R_pos h1
  rw [h2]
  generalize cutA s = x at *
  have hcut : ∀ H, Ctr (env n0 w0 gl) 36 [.sl s.length (bytesAV s) .ro] H True (.tup [.sl x.length (bytesAV x) .ro, .int .i64 n]) H := fun H => .of fun _ => by
    have := cut_e (n0 := n0) (w0 := w0) (gl := gl) (H := H) s (by omega)
    rw [h1] at this; exact this
  have hite : ∀ (p : Prop) [Decidable p] (a : Tok), (if p then a else a) = a := fun p _ a => ite_self a
  have hh := And.intro hH (And.intro (take_all s) hite)
  refine enter (md := fun _ => 0) Tryd.func35 (fun hfit hgl => ?_)
  repeat' (first | refine go ?_ | (refine br (fun hc => ?_) (fun hc => ?_) <;> try (exfalso; omega)) | fail)
  refine .now ⟨rfl, ?_⟩
  rw [show List.drop n (bytesAV s) = bytesAV (s.drop n) by simp [bytesAV], List.length_drop]
theorem dtext_bad {c : Nat} {s : List UInt8} (hs : s.length ≤ 1000000000) (hH : H[c]? = some (.cells [.sl s.length (bytesAV s) .ro])) (hc : ¬ CutOk s) :
    AEnter (env n0 w0 gl) 35 [.ref c 0] H (fun y H' => y = .panic thrown ∧ H' = H) := by
  have h1 : cut15R s = none := by
    unfold CutOk at hc
    cases h : cut15R s with
    | none => rfl
    | some p => exact absurd (by rw [h]; simp) hc
  have hcut : ∀ H, Ctr (env n0 w0 gl) 36 [.sl s.length (bytesAV s) .ro] H True (.tup [.sl 0 [] .full, .int .i64 0]) H := fun H => .of fun _ => by
    have := cut_e (n0 := n0) (w0 := w0) (gl := gl) (H := H) s (by omega)
    rw [h1] at this; exact this
  have hh := hH
  refine enter (md := fun _ => 0) Tryd.func35 (fun hfit hgl => ?_)
  repeat' (first | refine go ?_ | (refine br (fun hc => ?_) (fun hc => ?_) <;> try (exfalso; omega)) | fail)
  exact .now ⟨rfl, rfl⟩
theorem pIntV_bad2 {s : List UInt8} (h : ¬ ∃ a, Lib.parseIntB 64 s = .ok a) : ∃ n, pIntV s = .tup [.int .i64 n, .iface 163 .top] := by
  unfold pIntV
  rcases hq : Lib.parseIntB 64 s with a | _ | _
  · exact absurd ⟨a, hq⟩ h
  · exact ⟨_, rfl⟩
  · exact ⟨_, rfl⟩
theorem dnum_ok [he : Errs n0 w0] {c d : Nat} {s : List UInt8} {a : Int} (hs : s.length ≤ 1000000) (hH : H[c]? = some (.cells [.sl s.length (bytesAV s) .ro])) (hd : H[d]? = some (.cells [.fn 35 [] [.ref c 0]])) (hc : CutOk s) (hp : Lib.parseIntB 64 (cutA s) = .ok a) :
    AEnter (env n0 w0 gl) 38 [.ref d 0] H (fun y H' => y = .ret (.int .i64 a) ∧ H' = H.set c (.cells [.sl (cutB s).length (bytesAV (cutB s)) .ro])) := by
  have ht : Ctr (env n0 w0 gl) 35 [.ref c 0] H True (.str (cutA s)) (H.set c (.cells [.sl (cutB s).length (bytesAV (cutB s)) .ro])) := .of fun _ => dtext_ok (by omega) hH hc
  have hal := cutA_len s
  have hpn : ∀ H, Ctr (env n0 w0 gl) 39 [.str (cutA s), .int .i64 10, .int .i64 64] H True (.tup [.int .i64 a, .nili]) H := fun H => ⟨fun _ => by
    have := (parseInt_any (n0 := n0) (w0 := w0) (gl := gl) (H := H) (cutA s)).call (by omega)
    unfold pIntV at this
    rwa [hp] at this⟩
  have hh := hd
  refine enter (md := fun _ => 0) Tryd.func38 (fun hfit hgl => ?_)
  repeat' (first | refine go ?_ | (refine br (fun hc => ?_) (fun hc => ?_) <;> try (exfalso; omega)) | fail)
  exact .now ⟨rfl, rfl⟩
theorem dnum_cut {c d : Nat} {s : List UInt8} (hs : s.length ≤ 1000000) (hH : H[c]? = some (.cells [.sl s.length (bytesAV s) .ro])) (hd : H[d]? = some (.cells [.fn 35 [] [.ref c 0]])) (hc : ¬ CutOk s) :
    AEnter (env n0 w0 gl) 38 [.ref d 0] H (fun y H' => y = .panic thrown ∧ H' = H) := by
  have ht : CtrP (env n0 w0 gl) 35 [.ref c 0] H True thrown H := .of fun _ => dtext_bad (by omega) hH hc
  have hh := hd
  refine enter (md := fun _ => 0) Tryd.func38 (fun hfit hgl => ?_)
  repeat' (first | refine go ?_ | (refine br (fun hc => ?_) (fun hc => ?_) <;> try (exfalso; omega)) | fail)
  exact .now ⟨rfl, rfl⟩
theorem dnum_bad [he : Errs n0 w0] {c d : Nat} {s : List UInt8} (hs : s.length ≤ 1000000) (hH : H[c]? = some (.cells [.sl s.length (bytesAV s) .ro])) (hd : H[d]? = some (.cells [.fn 35 [] [.ref c 0]])) (hc : CutOk s) (hp : ¬ ∃ a, Lib.parseIntB 64 (cutA s) = .ok a) :
    AEnter (env n0 w0 gl) 38 [.ref d 0] H (fun y H' => y = .panic thrown ∧ H' = H.set c (.cells [.sl (cutB s).length (bytesAV (cutB s)) .ro])) := by
  have ht : Ctr (env n0 w0 gl) 35 [.ref c 0] H True (.str (cutA s)) (H.set c (.cells [.sl (cutB s).length (bytesAV (cutB s)) .ro])) := .of fun _ => dtext_ok (by omega) hH hc
  have hal := cutA_len s
  obtain ⟨n, hn⟩ := pIntV_bad2 hp
  have hpn : ∀ H, Ctr (env n0 w0 gl) 39 [.str (cutA s), .int .i64 10, .int .i64 64] H True (.tup [.int .i64 n, .iface 163 .top]) H := fun H => ⟨fun _ => by
    have := (parseInt_any (n0 := n0) (w0 := w0) (gl := gl) (H := H) (cutA s)).call (by omega)
    rwa [hn] at this⟩
  have hh := hd
  refine enter (md := fun _ => 0) Tryd.func38 (fun hfit hgl => ?_)
  repeat' (first | refine go ?_ | (refine br (fun hc => ?_) (fun hc => ?_) <;> try (exfalso; omega)) | fail)
  exact .now ⟨rfl, rfl⟩

end Go.Ab.Tryd
