/- Walks: the laws on reports that are read. -/
import Derived.Test.YtpdjgbpmlckepaaDoorLLaw11
import Derived.Test.YtpdjgbpmlckepaaDoorLMime6
import Derived.Test.YtpdjgbpmlckepaaDoorLMime7
set_option linter.unusedSimpArgs false
set_option linter.unusedVariables false
set_option maxHeartbeats 4000000
set_option maxRecDepth 4000
namespace Go.Ab.Tryd
open Go Go.Ab Go.Proofs
attribute [local irreducible] W Wl Wop TrA WSeq WLoopS FPost DPost RPost WRound DK onEnd
attribute [local irreducible] rdTo rdBody rdFro rdN tkM restN RdHead repS chkE aheadS
attribute [local simp] belowL_bytesAV belowL_strsM belowL_appM
variable {n0 : Nat} {w0 : World} {gl : Nat → List AV} {H : List AO}

theorem sameEnv_e (fro : List UInt8) (to : List (List UInt8)) (at_ : Int) (htl : to.length ≤ 9223372036854775807) : AEnter (env n0 w0 gl) 16 [.agg [.str fro, .sl to.length (to.map .str) .ro, .int .i64 at_], .agg [.str fro, .sl to.length (to.map .str) .ro, .int .i64 at_]] H (fun y H' => y = .ret (.bool true) ∧ H' = H) := by
  refine enter (md := fun _ => 0) Tryd.func16 (fun hfit hgl => ?_)
  repeat' (first | refine go ?_ | (refine br (fun hc => ?_) (fun hc => ?_) <;> try (exfalso; omega)) | fail)
  refine loop0 (fun i : Nat => (.top :: .top :: .ref H.length 0 :: .ref (H.length + 1) 0 :: .bool false :: .top :: .top :: .top :: .top :: .top :: .top :: .top :: .top :: .top :: .top :: .top :: .top :: .top :: .top :: .top :: .top :: .top :: .top :: .top :: .top :: .top :: .top :: .top :: .top :: .int .i64 to.length :: .int .i64 (i : Int) :: .top :: .top :: .top :: .top :: .top :: .top :: .top :: .top :: .top :: .top :: .top :: .top :: .top :: .top :: [])) (fun i => i ≤ to.length) (fun i => to.length - i) 0 (Nat.zero_le _) ?_
  intro i hi
  by_cases hlt : i < to.length
  · repeat' (first | refine go ?_ | (refine br (fun hc => ?_) (fun hc => ?_) <;> try (exfalso; omega)) | fail)
    exact again (i + 1) (by omega)
  · repeat' (first | refine go ?_ | (refine br (fun hc => ?_) (fun hc => ?_) <;> try (exfalso; omega)) | fail)
    exact .junkd ⟨rfl, rfl⟩
theorem sameEnv_nil : AEnter (env n0 w0 gl) 16 [.agg [.str [], .sl 0 [] .full, .int .i64 0], .agg [.str [], .sl 0 [] .full, .int .i64 0]] H (fun y H' => y = .ret (.bool true) ∧ H' = H) := by
  refine enter (md := fun _ => 0) Tryd.func16 (fun hfit hgl => ?_)
  repeat' (first | refine go ?_ | (refine br (fun hc => ?_) (fun hc => ?_) <;> try (exfalso; omega)) | fail)
  refine loop0 (fun i : Nat => (.top :: .top :: .ref H.length 0 :: .ref (H.length + 1) 0 :: .bool false :: .top :: .top :: .top :: .top :: .top :: .top :: .top :: .top :: .top :: .top :: .top :: .top :: .top :: .top :: .top :: .top :: .top :: .top :: .top :: .top :: .top :: .top :: .top :: .top :: .int .i64 0 :: .int .i64 (i : Int) :: .top :: .top :: .top :: .top :: .top :: .top :: .top :: .top :: .top :: .top :: .top :: .top :: .top :: .top :: [])) (fun i => i = 0) (fun i => 0) 0 rfl ?_
  intro i hi
  subst hi
  repeat' (first | refine go ?_ | (refine br (fun hc => ?_) (fun hc => ?_) <;> try (exfalso; omega)) | fail)
  exact .junkd ⟨rfl, rfl⟩
theorem mailbox_320 {s : List UInt8} (h : MailboxOk s) : s.length ≤ 320 := by
  obtain ⟨k, _, _, h3, ⟨_, h4⟩, _⟩ := h
  rw [List.length_drop] at h4; omega
unseal repS aheadS in
theorem repS_len {fro : List UInt8} {to : List (List UInt8)} {a : Int} {b : List UInt8} (hf : fro.length ≤ 300) (hl : to.length ≤ 10) (ht : ∀ x ∈ to, x.length ≤ 320) (ha : -9223372036854775808 ≤ a ∧ a ≤ 9223372036854775807) (hb : b.length ≤ 1000) : (repS fro to a b).length ≤ 10000 := by
  have hit : (Lib.itoa a).length ≤ 21 := Lib.itoa_length_le _ ha.1 ha.2
  have hbl := bdS_len (b := b) (by omega)
  have := linesB_sum (B := 340) (aheadL fro to a (bdS b)) (fun x hx => by
    simp only [aheadL, aheadA, aheadB, List.mem_append, List.mem_cons, List.not_mem_nil, or_false, List.mem_map] at hx
    rcases hx with (rfl | rfl | rfl | rfl | rfl | rfl | rfl | rfl) | ⟨y, hy, rfl⟩ | (rfl | rfl | rfl)
    all_goals first
      | (simp only [List.length_cons, List.length_nil]; omega)
      | (have := ht y hy; simp only [rcptL, List.length_cons]; omega))
  have hl2 : (aheadL fro to a (bdS b)).length = 8 + (to.length + 3) := by simp [aheadL, aheadA, aheadB]; omega
  rw [hl2] at this
  unfold repS aheadS
  simp only [List.length_append, List.length_cons, List.length_nil]
  have h3 : (8 + (to.length + 3)) * (340 + 2) ≤ 21 * 342 := Nat.mul_le_mul (by omega) (by omega)
  omega

theorem mimeBack_t [ht : Tab10 n0 w0] [hml : GLInt gl 0] [he : Errs n0 w0] (fro : List UInt8) (to : List (List UInt8)) (a : Int) (b : List UInt8) (h : EnvBig fro to a) (hb : b.length ≤ 9223372036854775807) : AEnter (env n0 w0 gl) 5 [.agg [.str fro, .sl to.length (to.map .str) .ro, .int .i64 a], .sl b.length (bytesAV b) .ro] H (fun y H' => y = .ret (.bool true) ∧ H' = H) := by
  have hf : ∀ H, Ctr (env n0 w0 gl) 17 [.agg [.str fro, .sl to.length (to.map .str) .ro, .int .i64 a], .sl b.length (bytesAV b) .ro] H True (.bool (tf (EnvFew fro to b.length))) H := fun H => .of fun _ => few11_e fro to a (bytesAV b) b.length h hb
  by_cases hF : EnvFew fro to b.length
  · rw [tf_true hF] at hf
    have hR : ∀ H, Ctr (env n0 w0 gl) 18 [.agg [.str fro, .sl to.length (to.map .str) .ro, .int .i64 a], .sl b.length (bytesAV b) .ro] H True (repV fro to a b) H := fun H => .of fun _ => report_e fro to a b h.1 h.2.1 h.2.2.1 hb h.2.2.2
    unfold repV at hR
    by_cases hc : chkE fro to a b.length = 0
    · rw [if_pos hc] at hR
      obtain ⟨hE, hE2, hE3⟩ := chkE_zero hc
      have hlen := repS_len (fro := fro) (to := to) (a := a) (b := b) hF.1 (by have := hF.2.1; omega) (fun x hx => by
        obtain ⟨i, hi, rfl⟩ := List.getElem_of_mem hx
        have := hE.2.2.2 i hi
        rw [List.getD_eq_getElem?_getD, List.getElem?_eq_getElem hi] at this
        exact mailbox_320 this) ⟨by have := hE.2.2.1; omega, h.2.2.2⟩ hF.2.2
      have hrd : ∀ H, Ctr (env n0 w0 gl) 14 [.sl (repS fro to a b).length (bytesAV (repS fro to a b)) .ro] H True (.tup [.agg [.str fro, .sl to.length (to.map .str) .ro, .int .i64 a], .sl b.length (bytesAV b) .ro, .int .i64 0]) H := fun H => .of fun _ => by
        have := mread_t (n0 := n0) (w0 := w0) (gl := gl) (H := H) (repS fro to a b) hlen
        unfold mmV at this
        rw [mmM_some (m := ⟨fro, to, a, b⟩) ⟨h.2.2.2, hc, rfl⟩] at this
        exact this
      have hsm : ∀ H, Ctr (env n0 w0 gl) 16 [.agg [.str fro, .sl to.length (to.map .str) .ro, .int .i64 a], .agg [.str fro, .sl to.length (to.map .str) .ro, .int .i64 a]] H True (.bool true) H := fun H => .of fun _ => sameEnv_e fro to a h.2.1
      generalize repS fro to a b = x at *
      refine enter (md := fun _ => 0) Tryd.func5 (fun hfit hgl => ?_)
      repeat' (first | refine go ?_ | (refine br (fun hc => ?_) (fun hc => ?_) <;> try (exfalso; omega)) | fail)
      all_goals exact .junkd ⟨rfl, rfl⟩
    · rw [if_neg hc] at hR
      generalize chkE fro to a b.length = ck at *
      have hh := hc
      refine enter (md := fun _ => 0) Tryd.func5 (fun hfit hgl => ?_)
      repeat' (first | refine go ?_ | (refine br (fun hc => ?_) (fun hc => ?_) <;> try (exfalso; omega)) | fail)
      all_goals exact .junkd ⟨rfl, rfl⟩
  · rw [tf_false hF] at hf
    refine enter (md := fun _ => 0) Tryd.func5 (fun hfit hgl => ?_)
    repeat' (first | refine go ?_ | (refine br (fun hc => ?_) (fun hc => ?_) <;> try (exfalso; omega)) | fail)
    all_goals exact .junkd ⟨rfl, rfl⟩

end Go.Ab.Tryd
namespace Go.Ab.Tryd
open Go Go.Ab Go.Proofs
attribute [local irreducible] W Wl Wop TrA WSeq WLoopS FPost DPost RPost WRound DK onEnd
attribute [local irreducible] repS chkE aheadS
attribute [local simp] belowL_bytesAV belowL_strsM belowL_appM
variable {n0 : Nat} {w0 : World} {gl : Nat → List AV} {H : List AO}

theorem mimeReads_t [ht : Tab10 n0 w0] [hml : GLInt gl 0] [he : Errs n0 w0] (r : List UInt8) (hb : r.length ≤ 9223372036854775807) : AEnter (env n0 w0 gl) 4 [.sl r.length (bytesAV r) .ro] H (fun y H' => y = .ret (.bool true) ∧ H' = H) := by
  by_cases h3 : r.length ≤ 3000
  · have h1 : ∀ H, Ctr (env n0 w0 gl) 14 [.sl r.length (bytesAV r) .ro] H True (mmV r) H := fun H => .of fun _ => mread_t r (by omega)
    have h2 : ∀ H, Ctr (env n0 w0 gl) 15 [.sl r.length (bytesAV r) .ro] H True (mmV r) H := fun H => .of fun _ => rread_t r (by omega)
    unfold mmV at h1 h2
    rcases hm : mmM r with _ | ⟨fro, to, a, b⟩
    · rw [hm] at h1 h2
      simp only at h1 h2
      have hS : ∀ H, Ctr (env n0 w0 gl) 16 [.agg [.str [], .sl 0 [] .full, .int .i64 0], .agg [.str [], .sl 0 [] .full, .int .i64 0]] H True (.bool true) H := fun H => .of fun _ => sameEnv_nil
      refine enter (md := fun _ => 0) Tryd.func4 (fun hfit hgl => ?_)
      repeat' (first | refine go ?_ | (refine br (fun hc => ?_) (fun hc => ?_) <;> try (exfalso; omega)) | fail)
      all_goals exact .junkd ⟨rfl, rfl⟩
    · rw [hm] at h1 h2
      simp only at h1 h2
      obtain ⟨k1, k2, _⟩ := mmM_of hm
      simp only at k1 k2
      obtain ⟨_, k3, k4⟩ := chkE_zero k2
      have hS : ∀ H, Ctr (env n0 w0 gl) 16 [.agg [.str fro, .sl to.length (to.map .str) .ro, .int .i64 a], .agg [.str fro, .sl to.length (to.map .str) .ro, .int .i64 a]] H True (.bool true) H := fun H => .of fun _ => sameEnv_e fro to a (by omega)
      refine enter (md := fun _ => 0) Tryd.func4 (fun hfit hgl => ?_)
      repeat' (first | refine go ?_ | (refine br (fun hc => ?_) (fun hc => ?_) <;> try (exfalso; omega)) | fail)
      all_goals exact .junkd ⟨rfl, rfl⟩
  · refine enter (md := fun _ => 0) Tryd.func4 (fun hfit hgl => ?_)
    repeat' (first | refine go ?_ | (refine br (fun hc => ?_) (fun hc => ?_) <;> try (exfalso; omega)) | fail)
    all_goals exact .now ⟨rfl, rfl⟩

end Go.Ab.Tryd
