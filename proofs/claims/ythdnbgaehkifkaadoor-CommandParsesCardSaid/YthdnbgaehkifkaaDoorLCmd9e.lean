/- Walks: the reference's command, by verbs. (printed by mkCmd9.py) -/
import Derived.Test.YthdnbgaehkifkaaDoorLCmd9a
import Derived.Test.YthdnbgaehkifkaaDoorLCmd9b
import Derived.Test.YthdnbgaehkifkaaDoorLCmd9c
import Derived.Test.YthdnbgaehkifkaaDoorLCmd9d
set_option linter.unusedSimpArgs false
set_option linter.unusedVariables false
set_option maxHeartbeats 40000000
set_option maxRecDepth 4000
namespace Go.Ab.Tryd
open Go Go.Ab Go.Proofs
attribute [local irreducible] W Wl Wop TrA WSeq WLoopS FPost DPost RPost WRound DK onEnd
variable {n0 : Nat} {w0 : World} {gl : Nat → List AV} {H : List AO}
attribute [local simp] belowL_bytesAV

theorem cmdRef_e (b : List UInt8) (tok : Tok) (hb : b.length ≤ 9223372036854775807) : AEnter (env n0 w0 gl) 9 [.sl b.length (bytesAV b) tok] H (fun y H' => y = .ret (cmdV (cmdP b)) ∧ H' = H) := by
  by_cases hl : b.length ≤ 510
  · by_cases hcl : Clean b
    · have hr9 := verbU_range ((cutB b).1.map upB)
      have hcase : ∀ v : Int, 0 ≤ v ∧ v ≤ 9 → v = 0 ∨ v = 1 ∨ v = 2 ∨ v = 3 ∨ v = 4 ∨ v = 5 ∨ v = 6 ∨ v = 7 ∨ v = 8 ∨ v = 9 := by intro v hv; omega
      rcases hcase _ hr9 with h | h | h | h | h | h | h | h | h | h
      · exact cmdRef_v0 b tok ⟨hl, hcl⟩ h
      · exact cmdRef_v1 b tok ⟨hl, hcl⟩ h
      · exact cmdRef_v2 b tok ⟨hl, hcl⟩ h
      · exact cmdRef_v3 b tok ⟨hl, hcl⟩ h
      · exact cmdRef_v4 b tok ⟨hl, hcl⟩ h
      · exact cmdRef_v5 b tok ⟨hl, hcl⟩ h
      · exact cmdRef_v6 b tok ⟨hl, hcl⟩ h
      · exact cmdRef_v7 b tok ⟨hl, hcl⟩ h
      · exact cmdRef_v8 b tok ⟨hl, hcl⟩ h
      · exact cmdRef_v9 b tok ⟨hl, hcl⟩ h
    · rw [cmdP_dirty fun h => hcl h.2]
      refine enter (md := fun _ => 0) Tryd.func9 (fun hfit hgl => ?_)
      repeat' (first | refine go ?_ | (refine br (fun hc => ?_) (fun hc => ?_) <;> try (exfalso; omega)) | fail)
      refine loop0 (fun i : Nat => (.sl b.length (bytesAV b) tok :: .top :: .ref H.length 0 :: .top :: .top :: .top :: .top :: .top :: .top :: .top :: .top :: .top :: .top :: .top :: .top :: .top :: .top :: .top :: .top :: .top :: .top :: .top :: .top :: .top :: .top :: .top :: .top :: .top :: .top :: .sl b.length (bytesAV b) tok :: .int .i64 b.length :: .int .i64 (i : Int) :: .top :: .top :: .top :: .top :: .top :: .top :: .top :: .top :: .top :: .top :: .top :: .top :: .top :: .top :: .top :: .top :: .top :: .top :: .top :: .top :: .top :: .top :: .top :: .top :: .top :: .top :: .top :: .top :: .top :: .top :: .top :: .top :: .top :: .top :: .top :: .top :: .top :: .top :: .top :: .top :: .top :: .top :: .top :: .top :: .top :: .top :: .top :: .top :: .top :: .top :: .top :: .top :: .top :: .top :: .top :: .top :: .top :: .top :: .top :: .top :: .top :: .top :: .top :: .top :: .top :: .top :: .top :: .top :: .top :: .top :: .top :: .top :: .top :: .top :: .top :: .top :: .top :: .top :: .top :: .top :: .top :: .top :: .top :: .top :: .top :: .top :: .top :: .top :: .top :: .top :: .top :: .top :: .top :: .top :: .top :: .top :: .top :: .top :: .top :: .top :: .top :: .top :: .top :: .top :: .top :: .top :: .top :: .top :: .top :: .top :: .top :: .top :: .top :: .top :: .top :: .top :: .top :: .top :: .top :: .top :: .top :: .top :: .top :: .top :: .top :: .top :: .top :: .top :: .top :: .top :: .top :: .top :: .top :: .top :: .top :: .top :: .top :: .top :: .top :: .top :: .top :: .top :: .top :: .top :: .top :: [])) (fun i => i ≤ b.length ∧ (∀ k, k < i → 32 ≤ (b.getD k 0).toNat ∧ (b.getD k 0).toNat < 127)) (fun i => b.length - i) 0 ⟨Nat.zero_le _, fun k h => absurd h (Nat.not_lt_zero _)⟩ ?_
      rintro i ⟨hi, hall⟩
      by_cases hlt : i < b.length
      · have hc256 := (b.getD i 0).toNat_lt
        have hh := row_cmd hlt
        by_cases hcc : 32 ≤ (b.getD i 0).toNat ∧ (b.getD i 0).toNat < 127
        · repeat' (first | refine go ?_ | (refine br (fun hc => ?_) (fun hc => ?_) <;> try (exfalso; omega)) | fail)
          refine again (i + 1) ⟨by omega, fun k hk => ?_⟩ (by omega)
          rcases Nat.lt_succ_iff_lt_or_eq.1 hk with h | h
          · exact hall k h
          · subst h; exact hcc
        · repeat' (first | refine go ?_ | (refine br (fun hc => ?_) (fun hc => ?_) <;> try (exfalso; omega)) | fail)
          all_goals exact .junkd ⟨rfl, rfl⟩
      · obtain rfl : i = b.length := by omega
        exact absurd hall hcl
  · rw [cmdP_dirty fun h => hl h.1]
    refine enter (md := fun _ => 0) Tryd.func9 (fun hfit hgl => ?_)
    repeat' (first | refine go ?_ | (refine br (fun hc => ?_) (fun hc => ?_) <;> try (exfalso; omega)) | fail)
    exact .junkd ⟨rfl, rfl⟩

instance cmdRef_t (k : Nat) (b : List UInt8) (tok : Tok) : Ctr (env n0 w0 gl) 9 [.sl k (bytesAV b) tok] H (k = b.length ∧ b.length ≤ 9223372036854775807) (.tup [.agg [.int .i64 (cmdP b).1, .str (cmdP b).2.1, .int .i64 (cmdP b).2.2.1], .int .i64 (cmdP b).2.2.2]) H := .of fun ⟨h, h2⟩ => by
  subst h
  exact cmdRef_e b tok h2

end Go.Ab.Tryd
