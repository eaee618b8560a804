/- Walks: the reference's command: parts. -/
import Derived.Test.YthdnbgaehkifkaaDoorLCmd7
import Derived.Test.YthdnbgaehkifkaaDoorLRef07
set_option linter.unusedSimpArgs false
set_option linter.unusedVariables false
set_option maxHeartbeats 4000000
set_option maxRecDepth 4000
namespace Go.Ab.Tryd
open Go Go.Ab Go.Proofs
attribute [local irreducible] W Wl Wop TrA WSeq WLoopS FPost DPost RPost WRound DK onEnd
variable {n0 : Nat} {w0 : World} {gl : Nat → List AV} {H : List AO}
attribute [local simp] belowL_bytesAV

theorem cut_first {c : UInt8} : ∀ {s : List UInt8} {i : Nat}, i < s.length → (∀ k, k < i → s.getD k 0 ≠ c) → s.getD i 0 = c → cutAt c s = some (s.take i, s.drop (i + 1))
  | [], _, h, _, _ => absurd h (Nat.not_lt_zero _)
  | b :: l, 0, _, _, hc => by
    have hc : b = c := hc
    unfold cutAt; rw [if_pos hc]; rfl
  | b :: l, i + 1, h, hn, hc => by
    have hb : ¬ b = c := hn 0 (Nat.succ_pos _)
    have := cut_first (c := c) (s := l) (i := i) (by simpa using h) (fun k hk => hn (k + 1) (by omega)) hc
    unfold cutAt; rw [if_neg hb, this]; rfl
theorem cut_never {c : UInt8} : ∀ {s : List UInt8}, (∀ k, k < s.length → s.getD k 0 ≠ c) → cutAt c s = none
  | [], _ => rfl
  | b :: l, hn => by
    have hb : ¬ b = c := hn 0 (Nat.succ_pos _)
    have := cut_never (c := c) (s := l) (fun k hk => hn (k + 1) (by simpa using hk))
    unfold cutAt; rw [if_neg hb, this]; rfl

/-- The reference's cut. -/
def skipL (what s : List UInt8) : Option (List UInt8) := if what.length ≤ s.length ∧ (s.take what.length).map lowB = what then some (s.drop what.length) else none
theorem skip_same (what s : List UInt8) (h : ∀ b ∈ what, 97 ≤ b.toNat ∧ b.toNat ≤ 122 ∨ b.toNat < 65) : skipL what s = skipR (what.map upB) s := by
  unfold skipL skipR
  simp only [List.length_map, up_low_all what (s.take what.length) h]
def skipV (o : Option (List UInt8)) : AV := match o with
  | some r => .tup [.str r, .bool true]
  | none => .tup [.str [], .bool false]
instance cut23_t (what s : List UInt8) : Ctr (env n0 w0 gl) 17 [.str s, .str what] H (s.length ≤ 1000000 ∧ what.length ≤ 100) (skipV (skipL what s)) H := .of fun ⟨hs, hw⟩ => by
  unfold skipL
  by_cases h1 : what.length ≤ s.length
  · by_cases h2 : (s.take what.length).map lowB = what
    · rw [if_pos ⟨h1, h2⟩]
      have hh := h2
      refine enter (md := fun _ => 0) Tryd.func17 (fun hfit hgl => ?_)
      repeat' (first | refine go ?_ | (refine br (fun hc => ?_) (fun hc => ?_) <;> try (exfalso; omega)) | fail)
      all_goals exact .now ⟨rfl, rfl⟩
    · rw [if_neg (fun h => h2 h.2)]
      have hh := h2
      refine enter (md := fun _ => 0) Tryd.func17 (fun hfit hgl => ?_)
      repeat' (first | refine go ?_ | (refine br (fun hc => ?_) (fun hc => ?_) <;> try (exfalso; omega)) | fail)
      all_goals exact .now ⟨rfl, rfl⟩
  · rw [if_neg (fun h => h1 h.1)]
    refine enter (md := fun _ => 0) Tryd.func17 (fun hfit hgl => ?_)
    repeat' (first | refine go ?_ | (refine br (fun hc => ?_) (fun hc => ?_) <;> try (exfalso; omega)) | fail)
    all_goals exact .now ⟨rfl, rfl⟩

theorem take1 {s : List UInt8} : s.take 1 = [60] ↔ 0 < s.length ∧ (s.getD 0 0).toNat = 60 := by
  cases s with
  | nil => simp
  | cons a l =>
    simp only [List.take_succ_cons, List.take_zero, List.cons.injEq, and_true, List.length_cons, Nat.succ_pos, true_and, List.getD_cons_zero]
    exact ⟨fun h => by subst h; rfl, fun h => UInt8.toNat_inj.1 h⟩

instance refParse_t (s : List UInt8) : Ctr (env n0 w0 gl) 18 [.str s] H (s.length ≤ 1000000) (pathV s) H := .of fun hs => by
  unfold pathV pathR
  by_cases h1 : 0 < s.length ∧ (s.getD 0 0).toNat = 60
  · rw [if_pos (take1.2 h1)]
    obtain ⟨hp, h60⟩ := h1
    have hh := h60
    refine enter (md := fun _ => 0) Tryd.func18 (fun hfit hgl => ?_)
    repeat' (first | refine go ?_ | (refine br (fun hc => ?_) (fun hc => ?_) <;> try (exfalso; omega)) | fail)
    refine loop0 (fun i : Nat => (.str s :: .top :: .str [] :: .str [] :: .bool false :: .int .i64 (i + 1 : Nat) :: .top :: .top :: .top :: .top :: .top :: .top :: .top :: .top :: .top :: .top :: .top :: .top :: .top :: .top :: .top :: .top :: .top :: .top :: .top :: .top :: .top :: .top :: .top :: .top :: .top :: .top :: .top :: .top :: .top :: .top :: .top :: .top :: .top :: .top :: [])) (fun i => i + 1 ≤ s.length ∧ ∀ k, k < i → (s.drop 1).getD k 0 ≠ 62) (fun i => s.length - i) 0 ⟨by omega, fun k h => absurd h (Nat.not_lt_zero _)⟩ ?_
    rintro i ⟨hi, hall⟩
    have hdl : (s.drop 1).length = s.length - 1 := List.length_drop
    have hd : (s.drop 1).getD i 0 = s.getD (i + 1) 0 := by simp [List.getD_eq_getElem?_getD, Nat.add_comm]
    by_cases hlt : i + 1 < s.length
    · have hc256 := (s.getD (i + 1) 0).toNat_lt
      by_cases h62 : (s.getD (i + 1) 0).toNat = 62
      · have hq : (s.drop 1).getD i 0 = 62 := by rw [hd]; exact UInt8.toNat_inj.1 h62
        rw [cut_first (by omega) hall hq]
        simp only
        have hx : (s.take (i + 1)).drop 1 = (s.drop 1).take i := by rw [List.drop_take]; rfl
        have hy : s.drop (i + 2) = (s.drop 1).drop (i + 1) := by rw [List.drop_drop]; congr 1; omega
        have hxl : ((s.drop 1).take i).length = i := by rw [List.length_take]; omega
        generalize hX : (s.drop 1).take i = X at *
        generalize hY : (s.drop 1).drop (i + 1) = Y at *
        clear hX hY
        by_cases hm : MailboxOk X
        · have hh := And.intro hx (And.intro hy (And.intro hxl (tf_true hm)))
          rw [tf_true (.inr hm)]
          repeat' (first | refine go ?_ | (refine br (fun hc => ?_) (fun hc => ?_) <;> try (exfalso; omega)) | fail)
          all_goals exact .now ⟨rfl, rfl⟩
        · by_cases h0 : X.length = 0
          · rw [tf_true (.inl h0)]
            have hh := And.intro hx (And.intro hy (And.intro hxl (tf_false hm)))
            repeat' (first | refine go ?_ | (refine br (fun hc => ?_) (fun hc => ?_) <;> try (exfalso; omega)) | fail)
            all_goals first
              | exact .now ⟨rfl, rfl⟩
              | omega
          · rw [tf_false (fun h => h.elim h0 hm)]
            have hh := And.intro hx (And.intro hy (And.intro hxl (tf_false hm)))
            repeat' (first | refine go ?_ | (refine br (fun hc => ?_) (fun hc => ?_) <;> try (exfalso; omega)) | fail)
            all_goals exact .now ⟨rfl, rfl⟩
      · repeat' (first | refine go ?_ | (refine br (fun hc => ?_) (fun hc => ?_) <;> try (exfalso; omega)) | fail)
        refine again (i + 1) ⟨by omega, fun k hk => ?_⟩ (by omega)
        rcases Nat.lt_succ_iff_lt_or_eq.1 hk with h | h
        · exact hall k h
        · subst h; rw [hd]; intro h; rw [h] at h62; exact h62 rfl
    · rw [cut_never (fun k hk => hall k (by omega))]
      repeat' (first | refine go ?_ | (refine br (fun hc => ?_) (fun hc => ?_) <;> try (exfalso; omega)) | fail)
      exact .now ⟨rfl, rfl⟩
  · rw [if_neg (fun h => h1 (take1.1 h))]
    by_cases h0 : s.length = 0
    · obtain rfl : s = [] := List.length_eq_zero_iff.1 h0
      refine enter (md := fun _ => 0) Tryd.func18 (fun hfit hgl => ?_)
      repeat' (first | refine go ?_ | (refine br (fun hc => ?_) (fun hc => ?_) <;> try (exfalso; omega)) | fail)
      exact .now ⟨rfl, rfl⟩
    · have h60 : ¬ (s.getD 0 0).toNat = 60 := fun h => h1 ⟨by omega, h⟩
      have hh := h60
      refine enter (md := fun _ => 0) Tryd.func18 (fun hfit hgl => ?_)
      repeat' (first | refine go ?_ | (refine br (fun hc => ?_) (fun hc => ?_) <;> try (exfalso; omega)) | fail)
      all_goals exact .now ⟨rfl, rfl⟩

end Go.Ab.Tryd
