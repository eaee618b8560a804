/- Walks: a command read. -/
import Derived.Test.YtocoejhiphcehaaGreatDoorLCmd3
section
set_option linter.unusedSimpArgs false
set_option linter.unusedVariables false
set_option maxHeartbeats 4000000
set_option maxRecDepth 4000
namespace Go.Ab.Tryz
open Go Go.Ab Go.Proofs
attribute [local irreducible] W Wl Wop TrA WSeq WLoopS FPost DPost RPost WRound DK onEnd
variable {n0 : Nat} {w0 : World} {gl : Nat → List AV} {H : List AO}
attribute [local simp] belowL_bytesAV

/-- What stands behind a verb: is it good; its text, its size, what is left. -/
noncomputable def fillB (v : Int) (s : List UInt8) : Bool :=
  if v = 1 ∨ v = 2 then tf (DomainOk s)
  else if v = 3 then (match apR [70, 82, 79, 77, 58] s with
    | none => false
    | some (_, y) => (sizeR y).isSome)
  else if v = 4 then (match apR [84, 79, 58] s with
    | none => false
    | some (x, y) => decide (x ≠ []) && decide (y = []))
  else if v = 7 ∨ v = 9 then true
  else decide (s = [])
noncomputable def fillT (v : Int) (s : List UInt8) : List UInt8 :=
  if v = 1 ∨ v = 2 then s
  else if v = 3 then (match apR [70, 82, 79, 77, 58] s with
    | none => []
    | some (x, _) => x)
  else if v = 4 then (match apR [84, 79, 58] s with
    | none => []
    | some (x, _) => x)
  else []
noncomputable def fillN (v : Int) (s : List UInt8) : Int :=
  if v = 3 then (match apR [70, 82, 79, 77, 58] s with
    | none => 0
    | some (_, y) => (sizeR y).getD 0)
  else 0
noncomputable def fillL (v : Int) (s : List UInt8) : List UInt8 :=
  if v = 3 then (match apR [70, 82, 79, 77, 58] s with
    | none => apL [70, 82, 79, 77, 58] s
    | some (_, y) => sizeL y)
  else if v = 4 then apL [84, 79, 58] s
  else s
theorem apR_len {what s x y : List UInt8} (h : apR what s = some (x, y)) : x.length ≤ s.length ∧ y.length ≤ s.length := by
  unfold apR at h
  cases hr : skipR what s with
  | none => rw [hr] at h; cases h
  | some r =>
    have h1 := skipR_len hr
    rw [hr] at h
    simp only [Option.bind_some] at h
    unfold pathR at h
    split at h
    · cases hc : cutAt 62 (r.drop 1) with
      | none => rw [hc] at h; cases h
      | some q =>
        obtain ⟨a, b⟩ := q
        rw [hc] at h
        simp only at h
        have h2 := cutAt_len hc
        rw [List.length_drop] at h2
        split at h
        · injection h with h
          injection h with e1 e2
          subst e1; subst e2
          omega
        · cases h
    · cases h

theorem junk4 (H : List AO) (a b c d : AO) : H ++ [a, b, c, d] = (H ++ [a, b, c]) ++ [d] := by simp
theorem fit4 {A B : AO} {v n : Int} {s t l : List UInt8} (h : Fit (H ++ [A, B, .cells [.str s]]).length (H ++ [A, B, .cells [.str s]])) : Fit (H ++ [A, .cells [.int .i64 v, .str t, .int .i64 n], .cells [.str l]]).length (H ++ [A, .cells [.int .i64 v, .str t, .int .i64 n], .cells [.str l]]) := by
  intro o ho
  have hl : (H ++ [A, .cells [.int .i64 v, .str t, .int .i64 n], .cells [.str l]]).length = (H ++ [A, B, .cells [.str s]]).length := by simp
  rw [hl]
  rcases List.mem_append.1 ho with ho | ho
  · exact h o (List.mem_append_left _ ho)
  · rcases List.mem_cons.1 ho with rfl | ho
    · exact h _ (List.mem_append_right _ (List.mem_cons_self ..))
    · rcases List.mem_cons.1 ho with rfl | ho
      · rfl
      · rcases List.mem_cons.1 ho with rfl | ho
        · rfl
        · cases ho
instance fill_t (A : AO) (v : Int) (s : List UInt8) : Ctr (env n0 w0 gl) 64 [.ref (H.length + 2) 0, .ref (H.length + 1) 0] (H ++ [A, .cells [.int .i64 v, .str [], .int .i64 0], .cells [.str s]]) (s.length ≤ 1000000 ∧ 1 ≤ v ∧ v ≤ 9) (.bool (fillB v s)) (H ++ [A, .cells [.int .i64 v, .str (fillT v s), .int .i64 (fillN v s)], .cells [.str (fillL v s)]]) := .of fun ⟨hs, hv1, hv2⟩ => by
  have hcase : v = 1 ∨ v = 2 ∨ v = 3 ∨ v = 4 ∨ v = 5 ∨ v = 6 ∨ v = 7 ∨ v = 8 ∨ v = 9 := by omega
  rcases hcase with rfl | rfl | rfl | rfl | rfl | rfl | rfl | rfl | rfl
  · simp only [fillB, fillT, fillN, fillL, Int.reduceEq, reduceIte, or_true, true_or, or_false, false_or, or_self]
    clear hv1 hv2
    refine enter (md := fun _ => 0) Tryz.func64 (fun hfit hgl => ?_)
    repeat' (first | refine go ?_ | (refine br (fun hc => ?_) (fun hc => ?_) <;> try (exfalso; omega)) | fail)
    rw [junk4]; exact .junkd (hf := fit4 hfit) ⟨rfl, rfl⟩
  · simp only [fillB, fillT, fillN, fillL, Int.reduceEq, reduceIte, or_true, true_or, or_false, false_or, or_self]
    clear hv1 hv2
    refine enter (md := fun _ => 0) Tryz.func64 (fun hfit hgl => ?_)
    repeat' (first | refine go ?_ | (refine br (fun hc => ?_) (fun hc => ?_) <;> try (exfalso; omega)) | fail)
    rw [junk4]; exact .junkd (hf := fit4 hfit) ⟨rfl, rfl⟩
  · simp only [fillB, fillT, fillN, fillL, Int.reduceEq, reduceIte, or_true, true_or, or_false, false_or, or_self]
    clear hv1 hv2
    have hp := fun A B D => path4_t (n0 := n0) (w0 := w0) (gl := gl) (H := H) A B D [70, 82, 79, 77, 58] s
    unfold apV at hp
    cases hq : apR [70, 82, 79, 77, 58] s with
    | none =>
      simp only [hq] at hp ⊢
      refine enter (md := fun _ => 0) Tryz.func64 (fun hfit hgl => ?_)
      repeat' (first | refine go ?_ | (refine br (fun hc => ?_) (fun hc => ?_) <;> try (exfalso; omega)) | fail)
      rw [junk4]; exact .junkd (hf := fit4 hfit) ⟨rfl, rfl⟩
    | some q =>
      obtain ⟨x, y⟩ := q
      have hyl := apR_len hq
      have hL : apL [70, 82, 79, 77, 58] s = y := by unfold apL; rw [hq]
      rw [hL] at hp
      simp only [hq] at hp ⊢
      have hz := fun A B D => size4_t (n0 := n0) (w0 := w0) (gl := gl) (H := H) A B D y
      unfold sizeV at hz
      cases hn : sizeR y with
      | none =>
        simp only [hn] at hz
        refine enter (md := fun _ => 0) Tryz.func64 (fun hfit hgl => ?_)
        repeat' (first | refine go ?_ | (refine br (fun hc => ?_) (fun hc => ?_) <;> try (exfalso; omega)) | fail)
        rw [junk4]; exact .junkd (hf := fit4 hfit) ⟨rfl, rfl⟩
      | some n =>
        simp only [hn] at hz
        refine enter (md := fun _ => 0) Tryz.func64 (fun hfit hgl => ?_)
        repeat' (first | refine go ?_ | (refine br (fun hc => ?_) (fun hc => ?_) <;> try (exfalso; omega)) | fail)
        rw [junk4]; exact .junkd (hf := fit4 hfit) ⟨rfl, rfl⟩
  · simp only [fillB, fillT, fillN, fillL, Int.reduceEq, reduceIte, or_true, true_or, or_false, false_or, or_self]
    clear hv1 hv2
    have hp := fun A B D => path4_t (n0 := n0) (w0 := w0) (gl := gl) (H := H) A B D [84, 79, 58] s
    unfold apV at hp
    cases hq : apR [84, 79, 58] s with
    | none =>
      simp only [hq] at hp ⊢
      refine enter (md := fun _ => 0) Tryz.func64 (fun hfit hgl => ?_)
      repeat' (first | refine go ?_ | (refine br (fun hc => ?_) (fun hc => ?_) <;> try (exfalso; omega)) | fail)
      all_goals (rw [junk4]; exact .junkd (hf := fit4 hfit) ⟨rfl, rfl⟩)
    | some q =>
      obtain ⟨x, y⟩ := q
      have hyl := apR_len hq
      have hL : apL [84, 79, 58] s = y := by unfold apL; rw [hq]
      rw [hL] at hp ⊢
      simp only [hq] at hp ⊢
      by_cases hx : x = []
      · subst hx
        refine enter (md := fun _ => 0) Tryz.func64 (fun hfit hgl => ?_)
        repeat' (first | refine go ?_ | (refine br (fun hc => ?_) (fun hc => ?_) <;> try (exfalso; omega)) | fail)
        all_goals (rw [junk4]; exact .junkd (hf := fit4 hfit) ⟨rfl, rfl⟩)
      · have hxl : x.length ≠ 0 := fun h => hx (List.length_eq_zero_iff.1 h)
        have hh := And.intro hx hxl
        refine enter (md := fun _ => 0) Tryz.func64 (fun hfit hgl => ?_)
        repeat' (first | refine go ?_ | (refine br (fun hc => ?_) (fun hc => ?_) <;> try (exfalso; omega)) | fail)
        all_goals (rw [junk4]; exact .junkd (hf := fit4 hfit) ⟨by simp [hx], rfl⟩)
  all_goals
    simp only [fillB, fillT, fillN, fillL, Int.reduceEq, reduceIte, or_true, true_or, or_false, false_or, or_self]
    clear hv1 hv2
    refine enter (md := fun _ => 0) Tryz.func64 (fun hfit hgl => ?_)
    repeat' (first | refine go ?_ | (refine br (fun hc => ?_) (fun hc => ?_) <;> try (exfalso; omega)) | fail)
    rw [junk4]; exact .junkd (hf := fit4 hfit) ⟨rfl, rfl⟩

end Go.Ab.Tryz

end

section
set_option linter.unusedSimpArgs false
set_option linter.unusedVariables false
set_option maxHeartbeats 4000000
set_option maxRecDepth 4000
namespace Go.Ab.Tryz
open Go Go.Ab Go.Proofs
attribute [local irreducible] W Wl Wop TrA WSeq WLoopS FPost DPost RPost WRound DK onEnd
variable {n0 : Nat} {w0 : World} {gl : Nat → List AV} {H : List AO}
attribute [local simp] belowL_bytesAV

/-- Bytes that a command may hold. -/
def Clean (b : List UInt8) : Prop := ∀ i, i < b.length → 32 ≤ (b.getD i 0).toNat ∧ (b.getD i 0).toNat < 127
def cutB (b : List UInt8) : List UInt8 × List UInt8 := match cutAt 32 b with
  | some q => q
  | none => (b, [])
/-- What Parse answers: verb, text, size; and the code. -/
noncomputable def cmdP (b : List UInt8) : Int × List UInt8 × Int × Int :=
  if tf (b.length ≤ 510 ∧ Clean b) then
    (if verbU ((cutB b).1.map upB) = 0 then (0, [], 0, 500)
    else if fillB (verbU ((cutB b).1.map upB)) (cutB b).2 then (verbU ((cutB b).1.map upB), fillT (verbU ((cutB b).1.map upB)) (cutB b).2, fillN (verbU ((cutB b).1.map upB)) (cutB b).2, 0)
    else (0, [], 0, 501))
  else (0, [], 0, 500)
def cmdS (q : Int × List UInt8 × Int × Int) : AV := .agg [.int .i64 q.1, .str q.2.1, .int .i64 q.2.2.1]
def cmdV (q : Int × List UInt8 × Int × Int) : AV := .tup [.agg [.int .i64 q.1, .str q.2.1, .int .i64 q.2.2.1], .int .i64 q.2.2.2]
theorem cmdP_dirty {b : List UInt8} (h : ¬ (b.length ≤ 510 ∧ Clean b)) : cmdP b = (0, [], 0, 500) := by unfold cmdP; rw [tf_false h]; rfl
theorem cutB_len (b : List UInt8) : (cutB b).1.length ≤ b.length ∧ (cutB b).2.length ≤ b.length := by
  unfold cutB
  split
  · rename_i q h
    obtain ⟨x, y⟩ := q
    have := cutAt_len h
    simp only; omega
  · simp
theorem row_cmd {s : List UInt8} {i : Nat} (h : i < s.length) : (List.take 1 (List.drop i (bytesAV s))).headD .top = .int .u8 ((s.getD i 0).toNat : Int) := by
  have := row1 (xs := bytesAV s) (i := i) (by simp [bytesAV]; omega)
  rw [this]; simp [bytesAV, byteAV, List.getD_eq_getElem?_getD, h]
theorem verbU_range (u : List UInt8) : 0 ≤ verbU u ∧ verbU u ≤ 9 := by
  unfold verbU
  repeat' split
  all_goals omega

theorem cmdParse_e (b : List UInt8) (tok : Tok) (hb : b.length ≤ 9223372036854775807) : AEnter (env n0 w0 gl) 49 [.sl b.length (bytesAV b) tok] H (fun y H' => y = .ret (cmdV (cmdP b)) ∧ H' = H) := by
  by_cases hl : b.length ≤ 510
  · refine enter (md := fun _ => 0) Tryz.func49 (fun hfit hgl => ?_)
    repeat' (first | refine go ?_ | (refine br (fun hc => ?_) (fun hc => ?_) <;> try (exfalso; omega)) | fail)
    refine loop0 (fun i : Nat => (.sl b.length (bytesAV b) tok :: .top :: .ref H.length 0 :: .int .i64 0 :: .top :: .top :: .top :: .top :: .top :: .top :: .top :: .top :: .top :: .top :: .top :: .sl b.length (bytesAV b) tok :: .int .i64 b.length :: .int .i64 (i : Int) :: .top :: .top :: .top :: .top :: .top :: .top :: .top :: .top :: .top :: .top :: .top :: .top :: .top :: .top :: .top :: .top :: .top :: .top :: .top :: .top :: .top :: .top :: .top :: .top :: .top :: .top :: .top :: .top :: .top :: .top :: .top :: .top :: .top :: [])) (fun i => i ≤ b.length ∧ (∀ k, k < i → 32 ≤ (b.getD k 0).toNat ∧ (b.getD k 0).toNat < 127)) (fun i => b.length - i) 0 ⟨Nat.zero_le _, fun k h => absurd h (Nat.not_lt_zero _)⟩ ?_
    rintro i ⟨hi, hall⟩
    by_cases hlt : i < b.length
    · have hc256 := (b.getD i 0).toNat_lt
      have hh := row_cmd hlt
      by_cases hcc : 32 ≤ (b.getD i 0).toNat ∧ (b.getD i 0).toNat < 127
      · repeat' (first | refine go ?_ | (refine br (fun hc => ?_) (fun hc => ?_) <;> try (exfalso; omega)) | fail)
        refine again (i + 1) ⟨by omega, fun k hk => ?_⟩ (by omega)
        rcases Nat.lt_succ_iff_lt_or_eq.1 hk with h | h
        · exact hall k h
        · subst h; exact hcc
      · rw [cmdP_dirty fun h => hcc (h.2 i hlt)]
        repeat' (first | refine go ?_ | (refine br (fun hc => ?_) (fun hc => ?_) <;> try (exfalso; omega)) | fail)
        all_goals exact .junkd ⟨rfl, rfl⟩
    · obtain rfl : i = b.length := by omega
      have hcl : b.length ≤ 510 ∧ Clean b := ⟨hl, hall⟩
      have hcb := cutB_len b
      have hr := verbU_range ((cutB b).1.map upB)
      have hcv : cutV 32 b = (match cutAt 32 b with
        | some q => .tup [.str (cutB b).1, .str (cutB b).2, .bool true]
        | none => .tup [.str (cutB b).1, .str (cutB b).2, .bool false]) := by
        unfold cutV cutB
        cases cutAt 32 b with
        | none => rfl
        | some q => rfl
      unfold cmdP
      rw [tf_true hcl]
      simp only [if_true]
      generalize hw : (cutB b).1 = w at *
      generalize hr2 : (cutB b).2 = r at *
      have hcv2 : ∃ o, cutV 32 b = .tup [.str w, .str r, .bool o] := by
        rw [hcv]
        cases cutAt 32 b with
        | none => exact ⟨_, rfl⟩
        | some q => exact ⟨_, rfl⟩
      obtain ⟨o, ho⟩ := hcv2
      clear hcv
      generalize hv : verbU (w.map upB) = v at *
      by_cases h0 : v = 0
      · subst h0
        have hh := And.intro ho hv
        repeat' (first | refine go ?_ | (refine br (fun hc => ?_) (fun hc => ?_) <;> try (exfalso; omega)) | fail)
        exact .junkd ⟨rfl, rfl⟩
      · rw [if_neg h0]
        have hf := fun A => fill_t (n0 := n0) (w0 := w0) (gl := gl) (H := H) A v r
        generalize hB : fillB v r = B at *
        generalize hT : fillT v r = T at *
        generalize hN : fillN v r = K at *
        generalize hL : fillL v r = L at *
        cases B with
        | false =>
          have hh := And.intro ho (And.intro hv h0)
          repeat' (first | refine go ?_ | (refine br (fun hc => ?_) (fun hc => ?_) <;> try (exfalso; omega)) | fail)
          exact .junkd ⟨rfl, rfl⟩
        | true =>
          have hh := And.intro ho (And.intro hv h0)
          repeat' (first | refine go ?_ | (refine br (fun hc => ?_) (fun hc => ?_) <;> try (exfalso; omega)) | fail)
          exact .junkd ⟨rfl, rfl⟩
  · rw [cmdP_dirty fun h => hl h.1]
    refine enter (md := fun _ => 0) Tryz.func49 (fun hfit hgl => ?_)
    repeat' (first | refine go ?_ | (refine br (fun hc => ?_) (fun hc => ?_) <;> try (exfalso; omega)) | fail)
    exact .junkd ⟨rfl, rfl⟩

instance cmdParse_t (k : Nat) (b : List UInt8) (tok : Tok) : Ctr (env n0 w0 gl) 49 [.sl k (bytesAV b) tok] H (k = b.length ∧ b.length ≤ 9223372036854775807) (.tup [.agg [.int .i64 (cmdP b).1, .str (cmdP b).2.1, .int .i64 (cmdP b).2.2.1], .int .i64 (cmdP b).2.2.2]) H := .of fun ⟨h, h2⟩ => by
  subst h
  exact cmdParse_e b tok h2

end Go.Ab.Tryz

end
