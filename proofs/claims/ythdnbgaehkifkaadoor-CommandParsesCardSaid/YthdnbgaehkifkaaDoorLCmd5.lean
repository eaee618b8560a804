/- Walks: a command read, whole. -/
import Derived.Test.YthdnbgaehkifkaaDoorLCmd4
set_option linter.unusedSimpArgs false
set_option linter.unusedVariables false
set_option maxHeartbeats 4000000
set_option maxRecDepth 4000
namespace Go.Ab.Tryd
open Go Go.Ab Go.Proofs
attribute [local irreducible] W Wl Wop TrA WSeq WLoopS FPost DPost RPost WRound DK onEnd
variable {n0 : Nat} {w0 : World} {gl : Nat → List AV} {H : List AO}
attribute [local simp] belowL_bytesAV

/-- Bytes that a command may hold. -/
def Clean (b : List UInt8) : Prop := ∀ i, i < b.length → 32 ≤ (b.getD i 0).toNat ∧ (b.getD i 0).toNat < 127
def cutB (b : List UInt8) : List UInt8 × List UInt8 := match cutAt 32 b with
  | some q => q
  | none => (b, [])
/-- What Parse answers: verb, text, size; and the code. -/
noncomputable def cmdP (b : List UInt8) : Int × List UInt8 × Int × Int :=
  if tf (b.length ≤ 510 ∧ Clean b) then
    (if verbU ((cutB b).1.map upB) = 0 then (0, [], 0, 500)
    else if fillB (verbU ((cutB b).1.map upB)) (cutB b).2 then (verbU ((cutB b).1.map upB), fillT (verbU ((cutB b).1.map upB)) (cutB b).2, fillN (verbU ((cutB b).1.map upB)) (cutB b).2, 0)
    else (0, [], 0, 501))
  else (0, [], 0, 500)
def cmdS (q : Int × List UInt8 × Int × Int) : AV := .agg [.int .i64 q.1, .str q.2.1, .int .i64 q.2.2.1]
def cmdV (q : Int × List UInt8 × Int × Int) : AV := .tup [.agg [.int .i64 q.1, .str q.2.1, .int .i64 q.2.2.1], .int .i64 q.2.2.2]
theorem cmdP_dirty {b : List UInt8} (h : ¬ (b.length ≤ 510 ∧ Clean b)) : cmdP b = (0, [], 0, 500) := by unfold cmdP; rw [tf_false h]; rfl
theorem cutB_len (b : List UInt8) : (cutB b).1.length ≤ b.length ∧ (cutB b).2.length ≤ b.length := by
  unfold cutB
  split
  · rename_i q h
    obtain ⟨x, y⟩ := q
    have := cutAt_len h
    simp only; omega
  · simp
theorem row_cmd {s : List UInt8} {i : Nat} (h : i < s.length) : (List.take 1 (List.drop i (bytesAV s))).headD .top = .int .u8 ((s.getD i 0).toNat : Int) := by
  have := row1 (xs := bytesAV s) (i := i) (by simp [bytesAV]; omega)
  rw [this]; simp [bytesAV, byteAV, List.getD_eq_getElem?_getD, h]
theorem verbU_range (u : List UInt8) : 0 ≤ verbU u ∧ verbU u ≤ 9 := by
  unfold verbU
  repeat' split
  all_goals omega

theorem cmdParse_e (b : List UInt8) (tok : Tok) (hb : b.length ≤ 9223372036854775807) : AEnter (env n0 w0 gl) 8 [.sl b.length (bytesAV b) tok] H (fun y H' => y = .ret (cmdV (cmdP b)) ∧ H' = H) := by
  by_cases hl : b.length ≤ 510
  · refine enter (md := fun _ => 0) Tryd.func8 (fun hfit hgl => ?_)
    repeat' (first | refine go ?_ | (refine br (fun hc => ?_) (fun hc => ?_) <;> try (exfalso; omega)) | fail)
    refine loop0 (fun i : Nat => (.sl b.length (bytesAV b) tok :: .top :: .ref H.length 0 :: .int .i64 0 :: .top :: .top :: .top :: .top :: .top :: .top :: .top :: .top :: .top :: .top :: .top :: .sl b.length (bytesAV b) tok :: .int .i64 b.length :: .int .i64 (i : Int) :: .top :: .top :: .top :: .top :: .top :: .top :: .top :: .top :: .top :: .top :: .top :: .top :: .top :: .top :: .top :: .top :: .top :: .top :: .top :: .top :: .top :: .top :: .top :: .top :: .top :: .top :: .top :: .top :: .top :: .top :: .top :: .top :: .top :: [])) (fun i => i ≤ b.length ∧ (∀ k, k < i → 32 ≤ (b.getD k 0).toNat ∧ (b.getD k 0).toNat < 127)) (fun i => b.length - i) 0 ⟨Nat.zero_le _, fun k h => absurd h (Nat.not_lt_zero _)⟩ ?_
    rintro i ⟨hi, hall⟩
    by_cases hlt : i < b.length
    · have hc256 := (b.getD i 0).toNat_lt
      have hh := row_cmd hlt
      by_cases hcc : 32 ≤ (b.getD i 0).toNat ∧ (b.getD i 0).toNat < 127
      · repeat' (first | refine go ?_ | (refine br (fun hc => ?_) (fun hc => ?_) <;> try (exfalso; omega)) | fail)
        refine again (i + 1) ⟨by omega, fun k hk => ?_⟩ (by omega)
        rcases Nat.lt_succ_iff_lt_or_eq.1 hk with h | h
        · exact hall k h
        · subst h; exact hcc
      · rw [cmdP_dirty fun h => hcc (h.2 i hlt)]
        repeat' (first | refine go ?_ | (refine br (fun hc => ?_) (fun hc => ?_) <;> try (exfalso; omega)) | fail)
        all_goals exact .junkd ⟨rfl, rfl⟩
    · obtain rfl : i = b.length := by omega
      have hcl : b.length ≤ 510 ∧ Clean b := ⟨hl, hall⟩
      have hcb := cutB_len b
      have hr := verbU_range ((cutB b).1.map upB)
      have hcv : cutV 32 b = (match cutAt 32 b with
        | some q => .tup [.str (cutB b).1, .str (cutB b).2, .bool true]
        | none => .tup [.str (cutB b).1, .str (cutB b).2, .bool false]) := by
        unfold cutV cutB
        cases cutAt 32 b with
        | none => rfl
        | some q => rfl
      unfold cmdP
      rw [tf_true hcl]
      simp only [if_true]
      generalize hw : (cutB b).1 = w at *
      generalize hr2 : (cutB b).2 = r at *
      have hcv2 : ∃ o, cutV 32 b = .tup [.str w, .str r, .bool o] := by
        rw [hcv]
        cases cutAt 32 b with
        | none => exact ⟨_, rfl⟩
        | some q => exact ⟨_, rfl⟩
      obtain ⟨o, ho⟩ := hcv2
      clear hcv
      generalize hv : verbU (w.map upB) = v at *
      by_cases h0 : v = 0
      · subst h0
        have hh := And.intro ho hv
        repeat' (first | refine go ?_ | (refine br (fun hc => ?_) (fun hc => ?_) <;> try (exfalso; omega)) | fail)
        exact .junkd ⟨rfl, rfl⟩
      · rw [if_neg h0]
        have hf := fun A => fill_t (n0 := n0) (w0 := w0) (gl := gl) (H := H) A v r
        generalize hB : fillB v r = B at *
        generalize hT : fillT v r = T at *
        generalize hN : fillN v r = K at *
        generalize hL : fillL v r = L at *
        cases B with
        | false =>
          have hh := And.intro ho (And.intro hv h0)
          repeat' (first | refine go ?_ | (refine br (fun hc => ?_) (fun hc => ?_) <;> try (exfalso; omega)) | fail)
          exact .junkd ⟨rfl, rfl⟩
        | true =>
          have hh := And.intro ho (And.intro hv h0)
          repeat' (first | refine go ?_ | (refine br (fun hc => ?_) (fun hc => ?_) <;> try (exfalso; omega)) | fail)
          exact .junkd ⟨rfl, rfl⟩
  · rw [cmdP_dirty fun h => hl h.1]
    refine enter (md := fun _ => 0) Tryd.func8 (fun hfit hgl => ?_)
    repeat' (first | refine go ?_ | (refine br (fun hc => ?_) (fun hc => ?_) <;> try (exfalso; omega)) | fail)
    exact .junkd ⟨rfl, rfl⟩

instance cmdParse_t (k : Nat) (b : List UInt8) (tok : Tok) : Ctr (env n0 w0 gl) 8 [.sl k (bytesAV b) tok] H (k = b.length ∧ b.length ≤ 9223372036854775807) (.tup [.agg [.int .i64 (cmdP b).1, .str (cmdP b).2.1, .int .i64 (cmdP b).2.2.1], .int .i64 (cmdP b).2.2.2]) H := .of fun ⟨h, h2⟩ => by
  subst h
  exact cmdParse_e b tok h2

end Go.Ab.Tryd
