/- Walks: path. -/
import Derived.Test.YtocoejhiphcehaaGreatDoorLHeadA
set_option linter.unusedSimpArgs false
set_option linter.unusedVariables false
set_option maxHeartbeats 2000000
set_option maxRecDepth 4000
namespace Go.Ab.Tryz
open Go Go.Ab Go.Proofs
attribute [local irreducible] W Wl Wop TrA WSeq WLoopS FPost DPost RPost WRound DK onEnd
variable {n0 : Nat} {w0 : World} {gl : Nat → List AV} {H : List AO}

instance kind_t (c : UInt8) : Ctr (env n0 w0 gl) 46 [.int .u8 c.toNat] H True (.int .i64 (kindN c)) H := .of fun _ => by
  refine enter (md := fun _ => 0) Tryz.func46 (fun hfit hgl => ?_)
  repeat' (first | refine go ?_ | (refine br (fun hc => ?_) (fun hc => ?_) <;> try (exfalso; omega)) | fail)
  all_goals exact .now ⟨by congr 2; unfold kindN; first | (rw [if_pos (by omega)]; done) | (rw [if_neg (by omega), if_pos (by unfold marks; assumption)]; done) | (rw [if_neg (by omega), if_neg (by unfold marks; omega)]), rfl⟩

instance label_t (s : List UInt8) : Ctr (env n0 w0 gl) 33 [.str s] H (s.length ≤ 9223372036854775807) (.bool (tf (LabelOk s))) H := .of fun hs => by
  refine enter (md := fun _ => 0) Tryz.func33 (fun hfit hgl => ?_)
  repeat' (first | refine go ?_ | (refine br (fun hc => ?_) (fun hc => ?_) <;> try (exfalso; omega)) | fail)
  all_goals try (exact .now ⟨by rw [tf_false]; rintro ⟨h1, h2, h3, h4, _⟩; omega, rfl⟩)
  refine loop (fun i : Nat => (.str s :: .top :: .bool false :: .top :: .top :: .top :: .top :: .top :: .top :: .top :: .top :: .top :: .top :: .top :: .top :: .top :: .top :: .top :: .top :: .top :: .top :: .top :: .top :: .top :: .top :: .int .i64 s.length :: .int .i64 (i : Int) :: .top :: .top :: .top :: .top :: .top :: .top :: .top :: .top :: .top :: .top :: .top :: .top :: .top :: .top :: [])) (fun _ => H) (fun i => i ≤ s.length ∧ ∀ k, k < i → kindN (s.getD k 0) = 2 ∨ (s.getD k 0).toNat = 45) (fun i => s.length - i) 0 ⟨Nat.zero_le _, fun k h => absurd h (Nat.not_lt_zero _)⟩ ?_
  rintro i ⟨hi, hall⟩
  repeat' (first | refine go ?_ | (refine br (fun hc => ?_) (fun hc => ?_) <;> try (exfalso; omega)) | fail)
  all_goals first
    | (refine again (i + 1) ⟨by omega, fun k hk => ?_⟩
       rcases Nat.lt_succ_iff_lt_or_eq.1 hk with h | h
       · exact hall k h
       · subst h; first | exact .inl (by assumption) | exact .inr (by omega))
    | (refine .now ⟨?_, rfl⟩
       first
         | (rw [tf_true]; exact ⟨by omega, by omega, by omega, by omega, fun k hk => hall k (by omega)⟩)
         | (rw [tf_false]; rintro ⟨h1, h2, h3, h4, h5⟩; rcases h5 i (by omega) with h | h; · contradiction
            omega))

instance lite_last_t (s : List UInt8) (c : UInt8) : Ctr (env n0 w0 gl) 101 [.str s, .int .u8 c.toNat] H (s.length ≤ 9223372036854775807) (.int .i64 (lastAt c s s.length)) H := .of fun hs => by
  refine enter (md := fun _ => 0) Tryz.func101 (fun hfit hgl => ?_)
  repeat' (first | refine go ?_ | (refine br (fun hc => ?_) (fun hc => ?_) <;> try (exfalso; omega)) | fail)
  refine loop (fun n : Nat => (.str s :: .int .u8 c.toNat :: .top :: .top :: .int .i64 0 :: .int .i64 ((n : Int) - 1) :: .top :: .top :: .top :: .top :: .top :: .top :: .top :: .top :: .top :: .top :: .top :: .top :: .top :: [])) (fun _ => H) (fun n => n ≤ s.length ∧ lastAt c s s.length = lastAt c s n) (fun n => n) s.length ⟨Nat.le_refl _, rfl⟩ ?_
  rintro n ⟨hn, hl⟩
  repeat' (first | refine go ?_ | (refine br (fun hc => ?_) (fun hc => ?_) <;> try (exfalso; omega)) | fail)
  all_goals first
    | (refine again (n - 1) ⟨by omega, ?_⟩ (by omega) (.fgt (by repeat (first | exact fgt_nil | refine fgt_top ?_ | refine fgt_same rfl ?_ | refine fgt_same (by congr 1; omega) ?_)))
       rw [hl, lastAt_miss (c := c) (s := s) (n := n) (by omega) (by omega)])
    | (refine .now ⟨?_, rfl⟩
       rw [hl]
       by_cases h0 : n = 0
       · subst h0; rfl
       · first | (exfalso; omega) | rw [lastAt_hit (c := c) (s := s) (n := n) (by omega) (by omega)])

instance last_t (s : List UInt8) (c : UInt8) : Ctr (env n0 w0 gl) 87 [.str s, .int .u8 c.toNat] H (s.length ≤ 9223372036854775807) (.int .i64 (lastAt c s s.length)) H := .of fun hs => by
  refine enter (md := fun _ => 0) Tryz.func87 (fun hfit hgl => ?_)
  repeat' (first | refine go ?_ | (refine br (fun hc => ?_) (fun hc => ?_) <;> try (exfalso; omega)) | fail)
  exact .now ⟨rfl, rfl⟩

instance between_t (s : List UInt8) : Ctr (env n0 w0 gl) 32 [.str s] H True (.fn 44 [] [.ref H.length 0]) (H ++ [.cells [.str s]]) := .of fun _ => by
  refine enter (md := fun _ => 0) Tryz.func32 (fun hfit hgl => ?_)
  repeat' (first | refine go ?_ | (refine br (fun hc => ?_) (fun hc => ?_) <;> try (exfalso; omega)) | fail)
  exact .now ⟨rfl, rfl⟩

theorem between1_t {J O P : Type} {lp id : Nat} {G : J → List UInt8 → List AO} {S : O → List UInt8 → List AO} {T : P → List UInt8 → List AO} {ch : P → List APanic} {step : J → List UInt8 → Res J O P} {j0 : J} (s : List UInt8) (hs : s.length ≤ 9223372036854775807)
    (hget : ∀ j r, (G j r)[id]? = some (.cells [.str r])) (hset : ∀ j r r', (G j r).set id (.cells [.str r']) = G j r') (h : Rounds (env n0 w0 gl) lp (fun p => [.str p]) G S T ch step j0 (parts 46 s)) :
    AEnter (env n0 w0 gl) 44 [.yield lp, .ref id 0] (G j0 s) (IterEnd G S T ch (foldR step j0 (parts 46 s))) := by
  refine enter (md := fun _ => 0) Tryz.func44 (fun hfit hgl => ?_)
  repeat' (first | refine go ?_ | (refine br (fun hc => ?_) (fun hc => ?_) <;> try (exfalso; omega)) | fail)
  refine loop (fun i : J × List (List UInt8) × List UInt8 => (.yield lp :: .ref id 0 :: .top :: .top :: .top :: .top :: .top :: .top :: .top :: .top :: .top :: .top :: .top :: .top :: .top :: .top :: .top :: .top :: .top :: .top :: .top :: [])) (fun i => G i.1 i.2.2) (fun i => parts 46 s = i.2.1 ++ parts 46 i.2.2 ∧ foldR step j0 i.2.1 = .go i.1 ∧ i.2.2.length ≤ s.length) (fun i => i.2.2.length) (j0, [], s) ⟨rfl, rfl, Nat.le_refl _⟩ ?_
  rintro ⟨j, pre, r⟩ ⟨h1, h2, h3⟩
  simp only at h1 h2 h3 ⊢
  rcases hc : cutAt 46 r with _ | ⟨x, y⟩
  · have hv : cutV 46 r = .tup [.str r, .str [], .bool false] := by simp only [cutV, hc]
    have hh := And.intro hv (And.intro (hget j) (hset j))
    have hp := parts_none hc
    rw [hp] at h1
    have hf := foldR_append (step := step) pre j0 [r]
    rw [← h1, h2] at hf
    simp only [foldR] at hf
    rw [hf]
    rcases hst : step j r with j' | o | p
    · have hy := h.go0 r h1 h2 hst
      repeat' (first | refine go ?_ | (refine br (fun hc => ?_) (fun hc => ?_) <;> try (exfalso; omega)) | fail)
      exact .now ⟨r, rfl, rfl⟩
    · have hy := h.stop0 r h1 h2 hst
      repeat' (first | refine go ?_ | (refine br (fun hc => ?_) (fun hc => ?_) <;> try (exfalso; omega)) | fail)
      exact .now ⟨r, rfl, rfl⟩
    · have hy := h.die0 r h1 h2 hst
      repeat' (first | refine go ?_ | (refine br (fun hc => ?_) (fun hc => ?_) <;> try (exfalso; omega)) | fail)
      exact .now ⟨r, rfl, rfl⟩
  · have hv : cutV 46 r = .tup [.str x, .str y, .bool true] := by simp only [cutV, hc]
    have hp := parts_some hc
    have hn := cutAt_len hc
    rw [hp] at h1
    rcases hst : step j x with j' | o | p
    · have hh := And.intro hv (And.intro (hget j) (And.intro (hset j) (And.intro (hget j') (hset j'))))
      have hy := h.go0 r h1 h2 hst
      repeat' (first | refine go ?_ | (refine br (fun hc => ?_) (fun hc => ?_) <;> try (exfalso; omega)) | fail)
      exact again (j', pre ++ [x], y) ⟨by rw [h1]; simp, foldR_go h2 hst, by simp only; omega⟩ (by simp only; omega)
    · have hh := And.intro hv (And.intro (hget j) (hset j))
      have hy := h.stop0 r h1 h2 hst
      repeat' (first | refine go ?_ | (refine br (fun hc => ?_) (fun hc => ?_) <;> try (exfalso; omega)) | fail)
      refine .now ⟨r, ?_⟩
      rw [h1, foldR_stop h2 hst]
      exact ⟨rfl, rfl⟩
    · have hh := And.intro hv (And.intro (hget j) (hset j))
      have hy := h.die0 r h1 h2 hst
      repeat' (first | refine go ?_ | (refine br (fun hc => ?_) (fun hc => ?_) <;> try (exfalso; omega)) | fail)
      refine .now ⟨r, ?_⟩
      rw [h1, foldR_die h2 hst]
      exact ⟨rfl, rfl⟩

end Go.Ab.Tryz
