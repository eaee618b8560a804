/- Walks: domains and mailboxes. -/
import Derived.Test.YtocoejhiphcehaaGreatDoorLPath
set_option linter.unusedSimpArgs false
set_option linter.unusedVariables false
set_option maxHeartbeats 2000000
set_option maxRecDepth 4000
namespace Go.Ab.Tryz
open Go Go.Ab Go.Proofs
attribute [local irreducible] W Wl Wop TrA WSeq WLoopS FPost DPost RPost WRound DK onEnd
variable {n0 : Nat} {w0 : World} {gl : Nat → List AV} {H : List AO}

instance domain_t (s : List UInt8) : Ctr (env n0 w0 gl) 22 [.str s] H (s.length ≤ 9223372036854775807) (.bool (tf (DomainOk s))) H := .of fun hs => by
  refine enter (md := fun _ => 0) Tryz.func22 (fun hfit hgl => ?_)
  repeat' (first | refine go ?_ | (refine br (fun hc => ?_) (fun hc => ?_) <;> try (exfalso; omega)) | fail)
  refine over (fun p => [.str p]) (fun (_ : Unit) r => H ++ [.cells [.bool false], .cells [.str r]]) (fun (_ : Unit) r => H ++ [.cells [.bool false], .cells [.str r]]) (fun e _ => nomatch e) (fun e => nomatch e) (fun _ => .ret) (stepAll LabelOk) () s (parts 46 s) ?_ ?_ ?_ ?_ ?_
  · intro fn G S T hG hS h
    exact between1_t s hs (fun j r => by simp [G]) (fun j r r' => by simp [G]) h
  · intro fn pre x post j r l hx hj hft
    have hp : x.length ≤ 9223372036854775807 := Nat.le_trans (parts_len (c := 46) (s := s) (by rw [hx]; simp)) hs
    repeat' (first | refine go ?_ | (refine br (fun hc => ?_) (fun hc => ?_) <;> try (exfalso; omega)) | fail)
    · rw [stepAll_f (tf_not_iff.1 hc)]
      exact .now ⟨rfl, by simp⟩
    · rw [stepAll_t (tf_iff.1 hc)]
      exact .now ⟨rfl, by simp⟩
  · intro j r hr
    have hall := (foldR_all LabelOk (parts 46 s) ()).resolve_right (by rw [hr]; simp)
    repeat' (first | refine go ?_ | (refine br (fun hc => ?_) (fun hc => ?_) <;> try (exfalso; omega)) | fail)
    refine .junkd ⟨?_, rfl⟩
    congr 2
    rw [tf_decide]
    exact tf_congr ⟨fun h => ⟨hall.1, by omega⟩, fun h => by have := h.2; omega⟩
  · intro o r hr
    have hall := (foldR_all LabelOk (parts 46 s) ()).resolve_left (by rw [hr]; simp)
    repeat' (first | refine go ?_ | (refine br (fun hc => ?_) (fun hc => ?_) <;> try (exfalso; omega)) | fail)
    refine .junkd ⟨?_, rfl⟩
    rw [tf_false (fun h => hall.1 h.1)]
  · intro fn e; nomatch e

instance last64_t (s : List UInt8) : Ctr (env n0 w0 gl) 87 [.str s, .int .u8 64] H (s.length ≤ 9223372036854775807) (.int .i64 (lastAt 64 s s.length)) H := last_t s 64

instance mailbox_t (s : List UInt8) : Ctr (env n0 w0 gl) 108 [.str s] H (s.length ≤ 9223372036854775807) (.bool (tf (MailboxOk s))) H := .of fun hs => by
  rcases lastAt_cases 64 s s.length with h | ⟨k, hk, h⟩
  · have hh := h
    refine enter (md := fun _ => 0) Tryz.func108 (fun hfit hgl => ?_)
    repeat' (first | refine go ?_ | (refine br (fun hc => ?_) (fun hc => ?_) <;> try (exfalso; omega)) | fail)
    refine .junkd ⟨?_, rfl⟩
    rw [tf_false]
    rintro ⟨k, h1, _⟩
    omega
  · have hh := h
    have hno : ¬ (1 ≤ k ∧ k ≤ 64 ∧ DomainOk (s.drop (k + 1)) ∧ ∀ p ∈ parts 46 (s.take k), AtomOk p) → ¬ MailboxOk s := by
      rintro h1 ⟨k', h2, h3⟩
      obtain rfl : k = k' := by omega
      exact h1 h3
    refine enter (md := fun _ => 0) Tryz.func108 (fun hfit hgl => ?_)
    repeat' (first | refine go ?_ | (refine br (fun hc => ?_) (fun hc => ?_) <;> try (exfalso; omega)) | fail)
    all_goals try (refine .junkd ⟨?_, rfl⟩; rw [tf_false (hno (fun h => by first | omega | exact tf_not_iff.1 (by assumption) h.2.2.1))]; done)
    have hdom := tf_iff.1 (by assumption)
    refine over (fun p => [.str p]) (fun (_ : Unit) r => H ++ [.cells [.bool false], .cells [.str r]]) (fun (_ : Unit) r => H ++ [.cells [.bool false], .cells [.str r]]) (fun e _ => nomatch e) (fun e => nomatch e) (fun _ => .ret) (stepAll AtomOk) () (s.take k) (parts 46 (s.take k)) ?_ ?_ ?_ ?_ ?_
    · intro fn G S T hG hS h
      exact between1_t (s.take k) (by simp; omega) (fun j r => by simp [G]) (fun j r r' => by simp [G]) h
    · intro fn pre x post j r l hx hj hft
      have hp : x.length ≤ s.length := Nat.le_trans (parts_len (c := 46) (s := s.take k) (by rw [hx]; simp)) (by simp; omega)
      repeat' (first | refine go ?_ | (refine br (fun hc => ?_) (fun hc => ?_) <;> try (exfalso; omega)) | fail)
      refine loop0 (fun i : Nat => (.top :: .top :: .ref H.length 0 :: .top :: .str x :: .top :: .top :: .top :: .top :: .top :: .top :: .top :: .top :: .top :: .top :: .top :: .top :: .top :: .top :: .top :: .top :: .top :: .top :: .top :: .top :: .top :: .top :: .top :: .int .i64 x.length :: .int .i64 (i : Int) :: .top :: .top :: .top :: .top :: .top :: .top :: .top :: .top :: .top :: .top :: [])) (fun i => i ≤ x.length ∧ ∀ k, k < i → kindN (x.getD k 0) ≠ 0) (fun i => x.length - i) 0 ⟨Nat.zero_le _, fun k h => absurd h (Nat.not_lt_zero _)⟩ ?_
      rintro i ⟨hi, hall⟩
      repeat' (first | refine go ?_ | (refine br (fun hc => ?_) (fun hc => ?_) <;> try (exfalso; omega)) | fail)
      all_goals first
        | (refine again (i + 1) ⟨by omega, fun k hk => ?_⟩
           rcases Nat.lt_succ_iff_lt_or_eq.1 hk with h | h
           · exact hall k h
           · subst h; assumption)
        | (rw [stepAll_f (fun hA => by first | exact hA.1 i (by omega) (by assumption) | exact hA.2 (by assumption))]
           exact .now ⟨rfl, by simp⟩)
        | (rw [stepAll_t ⟨fun k hk => hall k (by omega), by assumption⟩]
           exact .now ⟨rfl, by simp⟩)
    · intro j r hr
      have hall := (foldR_all AtomOk (parts 46 (s.take k)) ()).resolve_right (by rw [hr]; simp)
      repeat' (first | refine go ?_ | (refine br (fun hc => ?_) (fun hc => ?_) <;> try (exfalso; omega)) | fail)
      refine .junkd ⟨?_, rfl⟩
      rw [tf_true]
      exact ⟨k, h, by omega, by omega, hdom, hall.1⟩
    · intro o r hr
      have hall := (foldR_all AtomOk (parts 46 (s.take k)) ()).resolve_left (by rw [hr]; simp)
      repeat' (first | refine go ?_ | (refine br (fun hc => ?_) (fun hc => ?_) <;> try (exfalso; omega)) | fail)
      refine .junkd ⟨?_, rfl⟩
      rw [tf_false (hno fun h => hall.1 h.2.2.2)]
    · intro fn e; nomatch e

theorem mail_ab : MailboxOk [97, 64, 98] := by
  refine ⟨1, rfl, by omega, by omega, ⟨?_, by simp⟩, ?_⟩
  · intro p hp
    simp [parts] at hp
    subst hp
    refine ⟨by simp, by simp, by simp, by simp, fun i hi => ?_⟩
    obtain rfl : i = 0 := by simp at hi; omega
    left; decide
  · intro p hp
    simp [parts] at hp
    subst hp
    refine ⟨fun i hi => ?_, by simp⟩
    obtain rfl : i = 0 := by simp at hi; omega
    decide

end Go.Ab.Tryz
