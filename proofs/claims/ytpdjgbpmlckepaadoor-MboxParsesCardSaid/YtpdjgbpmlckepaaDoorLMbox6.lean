/- Walks: a mailbox file's reader: a line. -/
import Derived.Test.YtpdjgbpmlckepaaDoorLMbox5
import Derived.Test.YtpdjgbpmlckepaaDoorLPref
set_option linter.unusedSimpArgs false
set_option linter.unusedVariables false
set_option maxHeartbeats 4000000
set_option maxRecDepth 4000
namespace Go.Ab.Tryd
open Go Go.Ab Go.Proofs
attribute [local irreducible] W Wl Wop TrA WSeq WLoopS FPost DPost RPost WRound DK onEnd
attribute [local simp] belowL_bytesAV
variable {n0 : Nat} {w0 : World} {gl : Nat → List AV} {H : List AO}

theorem mline_some {a : Nat} {s x y : List UInt8} (hs : s.length ≤ 1000000000) (hA : H[a]? = some (.cells [.sl s.length (bytesAV s) .ro])) (hc : cutAt 10 s = some (x, y)) :
    AEnter (env n0 w0 gl) 107 [.ref a 0] H (fun r H' => r = .ret (.str x) ∧ H' = H.set a (.cells [.sl y.length (bytesAV y) .ro])) := by
  rcases cutAt_idx 10 s with ⟨h1, h2⟩ | ⟨k, hk, h1, h2⟩
  · rw [h2] at hc; cases hc
  · rw [h2] at hc
    injection hc with hc
    injection hc with e1 e2
    subst e1; subst e2
    have hi : ∀ H, Ctr (env n0 w0 gl) 86 [.sl s.length (bytesAV s) .ro, .int .u8 10] H True (.int .i64 (k : Int)) H := fun H => ⟨fun _ => by
      have := (bIndexByte10_t (n0 := n0) (w0 := w0) (gl := gl) (H := H) s .ro).call trivial
      rw [h1] at this; exact this⟩
    have hb1 : List.take k (bytesAV s) = bytesAV (s.take k) := by simp [bytesAV]
    have hb2 : List.drop (k + 1) (bytesAV s) = bytesAV (s.drop (k + 1)) := by simp [bytesAV]
    have hl1 : (s.drop (k + 1)).length = s.length - (k + 1) := List.length_drop
    have hta : List.take s.length (bytesAV s) = bytesAV s := List.take_of_length_le (by rw [bytesAV_len]; exact Nat.le_refl _)
    have hl2 : (s.take k).length = k := by rw [List.length_take]; omega
    have htk : List.take k (bytesAV (s.take k)) = bytesAV (s.take k) := List.take_of_length_le (by rw [bytesAV_len]; omega)
    have hh := And.intro hA (And.intro hb1 (And.intro hb2 (And.intro hta (And.intro htk (And.intro hl2 (Nat.sub_zero k))))))
    refine enter (md := fun _ => 0) Tryd.func107 (fun hfit hgl => ?_)
    repeat' (first | refine go ?_ | (refine br (fun hc => ?_) (fun hc => ?_) <;> try (exfalso; omega)) | fail)
    rw [hl1]
    exact .now ⟨rfl, rfl⟩
theorem mline_none {a : Nat} {s : List UInt8} (hs : s.length ≤ 1000000000) (hA : H[a]? = some (.cells [.sl s.length (bytesAV s) .ro])) (hc : cutAt 10 s = none) :
    AEnter (env n0 w0 gl) 107 [.ref a 0] H (fun r H' => r = .panic thrownM ∧ H' = H) := by
  rcases cutAt_idx 10 s with ⟨h1, h2⟩ | ⟨k, hk, h1, h2⟩
  · have hi : ∀ H, Ctr (env n0 w0 gl) 86 [.sl s.length (bytesAV s) .ro, .int .u8 10] H True (.int .i64 (-1)) H := fun H => ⟨fun _ => by
      have := (bIndexByte10_t (n0 := n0) (w0 := w0) (gl := gl) (H := H) s .ro).call trivial
      rw [h1] at this; exact this⟩
    have hh := hA
    refine enter (md := fun _ => 0) Tryd.func107 (fun hfit hgl => ?_)
    repeat' (first | refine go ?_ | (refine br (fun hc => ?_) (fun hc => ?_) <;> try (exfalso; omega)) | fail)
    exact .now ⟨rfl, rfl⟩
  · rw [h2] at hc; cases hc

end Go.Ab.Tryd
