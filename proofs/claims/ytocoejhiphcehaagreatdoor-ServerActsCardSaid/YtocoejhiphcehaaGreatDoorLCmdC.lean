/- Walks: a command shown; the laws on verbs and on both ways. -/
import Derived.Test.YtocoejhiphcehaaGreatDoorLCmdB
import Derived.Lib.ItoaLen
import Derived.Test.YtocoejhiphcehaaGreatDoorLRef07
section
set_option linter.unusedSimpArgs false
set_option linter.unusedVariables false
set_option maxHeartbeats 4000000
set_option maxRecDepth 4000
namespace Go.Ab.Tryz
open Go Go.Ab Go.Proofs
attribute [local irreducible] W Wl Wop TrA WSeq WLoopS FPost DPost RPost WRound DK onEnd
variable {n0 : Nat} {w0 : World} {gl : Nat → List AV} {H : List AO}
attribute [local simp] belowL_bytesAV

/-- The line of a command. -/
def lineS (v : Int) (t : List UInt8) (n : Int) : List UInt8 :=
  if v = 1 then 72 :: 69 :: 76 :: 79 :: 32 :: t
  else if v = 2 then 69 :: 72 :: 76 :: 79 :: 32 :: t
  else if v = 3 then 77 :: 65 :: 73 :: 76 :: 32 :: 70 :: 82 :: 79 :: 77 :: 58 :: 60 :: (t ++ 62 :: (if n = -1 then [] else 32 :: 83 :: 73 :: 90 :: 69 :: 61 :: Lib.itoa n))
  else if v = 4 then 82 :: 67 :: 80 :: 84 :: 32 :: 84 :: 79 :: 58 :: 60 :: (t ++ [62])
  else if v = 5 then [68, 65, 84, 65]
  else if v = 6 then [82, 83, 69, 84]
  else if v = 7 then [78, 79, 79, 80]
  else if v = 8 then [81, 85, 73, 84]
  else if v = 9 then [86, 82, 70, 89]
  else []
/-- A command may be shown. -/
def ShowOk (v : Int) (t : List UInt8) (n : Int) : Prop := (1 ≤ v ∧ v ≤ 9) ∧ (cmdP (lineS v t n)).2.2.2 = 0 ∧ (cmdP (lineS v t n)).1 = v ∧ (cmdP (lineS v t n)).2.1 = t ∧ (cmdP (lineS v t n)).2.2.1 = n

theorem showOk_iff {v n : Int} {t : List UInt8} (hv : 1 ≤ v ∧ v ≤ 9) : ShowOk v t n ↔ (cmdP (lineS v t n)).2.2.2 = 0 ∧ (cmdP (lineS v t n)).1 = v ∧ (cmdP (lineS v t n)).2.1 = t ∧ (cmdP (lineS v t n)).2.2.1 = n := ⟨fun h => h.2, fun h => ⟨hv, h⟩⟩

end Go.Ab.Tryz

end

section
set_option linter.unusedSimpArgs false
set_option linter.unusedVariables false
set_option maxHeartbeats 4000000
set_option maxRecDepth 4000
namespace Go.Ab.Tryz
open Go Go.Ab Go.Proofs
attribute [local irreducible] W Wl Wop TrA WSeq WLoopS FPost DPost RPost WRound DK onEnd
variable {n0 : Nat} {w0 : World} {gl : Nat → List AV} {H : List AO}
attribute [local simp] belowL_bytesAV

theorem awake_ap : apR [70, 82, 79, 77, 58] [102, 114, 111, 109, 58, 60, 97, 64, 98, 62, 32, 115, 105, 122, 101, 61, 53] = some ([97, 64, 98], [32, 115, 105, 122, 101, 61, 53]) := by
  have h1 : skipR [70, 82, 79, 77, 58] [102, 114, 111, 109, 58, 60, 97, 64, 98, 62, 32, 115, 105, 122, 101, 61, 53] = some [60, 97, 64, 98, 62, 32, 115, 105, 122, 101, 61, 53] := by decide +kernel
  have h2 : cutAt 62 (([60, 97, 64, 98, 62, 32, 115, 105, 122, 101, 61, 53] : List UInt8).drop 1) = some ([97, 64, 98], [32, 115, 105, 122, 101, 61, 53]) := by decide +kernel
  unfold apR
  rw [h1]
  simp only [Option.bind_some]
  unfold pathR
  rw [h2, if_pos (by decide +kernel)]
  simp only
  rw [tf_true (.inr mail_ab)]
  rfl
theorem awake_size : sizeR [32, 115, 105, 122, 101, 61, 53] = some 5 := by
  have h1 : skipR [32, 83, 73, 90, 69, 61] [32, 115, 105, 122, 101, 61, 53] = some [53] := by decide +kernel
  unfold sizeR
  rw [if_neg (by decide), h1]
  simp only
  rw [tf_true ⟨by decide, by decide, by intro c hc; simp only [List.mem_singleton] at hc; subst hc; decide⟩]
  rfl
theorem cmdP_awake : cmdP [109, 97, 105, 108, 32, 102, 114, 111, 109, 58, 60, 97, 64, 98, 62, 32, 115, 105, 122, 101, 61, 53] = (3, [97, 64, 98], 5, 0) := by
  have hc : cutB [109, 97, 105, 108, 32, 102, 114, 111, 109, 58, 60, 97, 64, 98, 62, 32, 115, 105, 122, 101, 61, 53] = ([109, 97, 105, 108], [102, 114, 111, 109, 58, 60, 97, 64, 98, 62, 32, 115, 105, 122, 101, 61, 53]) := by decide +kernel
  have hv : verbU (([109, 97, 105, 108] : List UInt8).map upB) = 3 := by decide +kernel
  unfold cmdP
  rw [tf_true ⟨by decide, by unfold Clean; decide +kernel⟩, hc]
  simp only [hv]
  have hB : fillB 3 [102, 114, 111, 109, 58, 60, 97, 64, 98, 62, 32, 115, 105, 122, 101, 61, 53] = true := by
    unfold fillB; rw [if_neg (by omega), if_pos rfl, awake_ap]; simp only; rw [awake_size]; rfl
  have hT : fillT 3 [102, 114, 111, 109, 58, 60, 97, 64, 98, 62, 32, 115, 105, 122, 101, 61, 53] = [97, 64, 98] := by
    unfold fillT; rw [if_neg (by omega), if_pos rfl, awake_ap]
  have hN : fillN 3 [102, 114, 111, 109, 58, 60, 97, 64, 98, 62, 32, 115, 105, 122, 101, 61, 53] = 5 := by
    unfold fillN; rw [if_pos rfl, awake_ap]; simp only; rw [awake_size]; rfl
  rw [hB, hT, hN]
  rfl

theorem cmdP_err (b : List UInt8) : (cmdP b).2.2.2 = 0 ∨ ((cmdP b).1 = 0 ∧ (cmdP b).2.1 = [] ∧ (cmdP b).2.2.1 = 0) := by
  unfold cmdP
  split
  · split
    · simp
    · split
      · simp
      · simp
  · simp
theorem sizeR_range {s : List UInt8} {n : Int} (h : sizeR s = some n) : -1 ≤ n ∧ n ≤ 999999999999999999 := by
  unfold sizeR at h
  split at h
  · injection h with h; omega
  · split at h
    · cases h
    · rename_i r hr
      split at h
      · rename_i ht
        injection h with h
        have ht2 : r ≠ [] ∧ r.length ≤ 18 ∧ Digs r := by
          by_cases hp : r ≠ [] ∧ r.length ≤ 18 ∧ Digs r
          · exact hp
          · rw [tf_false hp] at ht; cases ht
        have := decVal_18 ht2.2.2 ht2.2.1
        omega
      · cases h
theorem fillT_len (v : Int) (s : List UInt8) : (fillT v s).length ≤ s.length := by
  unfold fillT
  split
  · exact Nat.le_refl _
  · split
    · split
      · simp
      · rename_i x y h; exact (apR_len h).1
    · split
      · split
        · simp
        · rename_i x y h; exact (apR_len h).1
      · simp
theorem fillN_range (v : Int) (s : List UInt8) : -1 ≤ fillN v s ∧ fillN v s ≤ 999999999999999999 := by
  unfold fillN
  split
  · split
    · omega
    · rename_i x y h
      cases hz : sizeR y with
      | none => simp
      | some n => have := sizeR_range hz; simpa using this
  · omega
theorem cmdP_fits (b : List UInt8) : (cmdP b).2.1.length ≤ b.length ∧ -1 ≤ (cmdP b).2.2.1 ∧ (cmdP b).2.2.1 ≤ 999999999999999999 := by
  have hc := cutB_len b
  have h1 := fillT_len (verbU ((cutB b).1.map upB)) (cutB b).2
  have h2 := fillN_range (verbU ((cutB b).1.map upB)) (cutB b).2
  unfold cmdP
  split
  · split
    · simp
    · split
      · simp only; omega
      · simp
  · simp
theorem cmdP_nil : cmdP [] = (0, [], 0, 500) := by
  unfold cmdP
  have hc : cutB [] = ([], []) := by decide
  have hv : verbU (([] : List UInt8).map upB) = 0 := by decide
  rw [tf_true ⟨by decide, by intro i hi; simp at hi⟩, hc]
  simp only [hv]
  rfl
theorem lineS_len {v n : Int} {t : List UInt8} (hn1 : -9223372036854775808 ≤ n) (hn2 : n ≤ 9223372036854775807) : (lineS v t n).length ≤ t.length + 100 := by
  have hil := Lib.itoa_length_le n hn1 hn2
  unfold lineS
  repeat' split
  all_goals simp only [List.length_cons, List.length_append, List.length_nil]
  all_goals omega

end Go.Ab.Tryz

end

section
set_option linter.unusedSimpArgs false
set_option linter.unusedVariables false
set_option maxHeartbeats 4000000
set_option maxRecDepth 4000
namespace Go.Ab.Tryz
open Go Go.Ab Go.Proofs
attribute [local irreducible] W Wl Wop TrA WSeq WLoopS FPost DPost RPost WRound DK onEnd
variable {n0 : Nat} {w0 : World} {gl : Nat → List AV} {H : List AO}
attribute [local simp] belowL_bytesAV

theorem cut_first {c : UInt8} : ∀ {s : List UInt8} {i : Nat}, i < s.length → (∀ k, k < i → s.getD k 0 ≠ c) → s.getD i 0 = c → cutAt c s = some (s.take i, s.drop (i + 1))
  | [], _, h, _, _ => absurd h (Nat.not_lt_zero _)
  | b :: l, 0, _, _, hc => by
    have hc : b = c := hc
    unfold cutAt; rw [if_pos hc]; rfl
  | b :: l, i + 1, h, hn, hc => by
    have hb : ¬ b = c := hn 0 (Nat.succ_pos _)
    have := cut_first (c := c) (s := l) (i := i) (by simpa using h) (fun k hk => hn (k + 1) (by omega)) hc
    unfold cutAt; rw [if_neg hb, this]; rfl
theorem cut_never {c : UInt8} : ∀ {s : List UInt8}, (∀ k, k < s.length → s.getD k 0 ≠ c) → cutAt c s = none
  | [], _ => rfl
  | b :: l, hn => by
    have hb : ¬ b = c := hn 0 (Nat.succ_pos _)
    have := cut_never (c := c) (s := l) (fun k hk => hn (k + 1) (by simpa using hk))
    unfold cutAt; rw [if_neg hb, this]; rfl

/-- The reference's cut. -/
def skipL (what s : List UInt8) : Option (List UInt8) := if what.length ≤ s.length ∧ (s.take what.length).map lowB = what then some (s.drop what.length) else none
theorem skip_same (what s : List UInt8) (h : ∀ b ∈ what, 97 ≤ b.toNat ∧ b.toNat ≤ 122 ∨ b.toNat < 65) : skipL what s = skipR (what.map upB) s := by
  unfold skipL skipR
  simp only [List.length_map, up_low_all what (s.take what.length) h]
def skipV (o : Option (List UInt8)) : AV := match o with
  | some r => .tup [.str r, .bool true]
  | none => .tup [.str [], .bool false]
instance cut23_t (what s : List UInt8) : Ctr (env n0 w0 gl) 70 [.str s, .str what] H (s.length ≤ 1000000 ∧ what.length ≤ 100) (skipV (skipL what s)) H := .of fun ⟨hs, hw⟩ => by
  unfold skipL
  by_cases h1 : what.length ≤ s.length
  · by_cases h2 : (s.take what.length).map lowB = what
    · rw [if_pos ⟨h1, h2⟩]
      have hh := h2
      refine enter (md := fun _ => 0) Tryz.func70 (fun hfit hgl => ?_)
      repeat' (first | refine go ?_ | (refine br (fun hc => ?_) (fun hc => ?_) <;> try (exfalso; omega)) | fail)
      all_goals exact .now ⟨rfl, rfl⟩
    · rw [if_neg (fun h => h2 h.2)]
      have hh := h2
      refine enter (md := fun _ => 0) Tryz.func70 (fun hfit hgl => ?_)
      repeat' (first | refine go ?_ | (refine br (fun hc => ?_) (fun hc => ?_) <;> try (exfalso; omega)) | fail)
      all_goals exact .now ⟨rfl, rfl⟩
  · rw [if_neg (fun h => h1 h.1)]
    refine enter (md := fun _ => 0) Tryz.func70 (fun hfit hgl => ?_)
    repeat' (first | refine go ?_ | (refine br (fun hc => ?_) (fun hc => ?_) <;> try (exfalso; omega)) | fail)
    all_goals exact .now ⟨rfl, rfl⟩

theorem take1 {s : List UInt8} : s.take 1 = [60] ↔ 0 < s.length ∧ (s.getD 0 0).toNat = 60 := by
  cases s with
  | nil => simp
  | cons a l =>
    simp only [List.take_succ_cons, List.take_zero, List.cons.injEq, and_true, List.length_cons, Nat.succ_pos, true_and, List.getD_cons_zero]
    exact ⟨fun h => by subst h; rfl, fun h => UInt8.toNat_inj.1 h⟩

instance refParse_t (s : List UInt8) : Ctr (env n0 w0 gl) 71 [.str s] H (s.length ≤ 1000000) (pathV s) H := .of fun hs => by
  unfold pathV pathR
  by_cases h1 : 0 < s.length ∧ (s.getD 0 0).toNat = 60
  · rw [if_pos (take1.2 h1)]
    obtain ⟨hp, h60⟩ := h1
    have hh := h60
    refine enter (md := fun _ => 0) Tryz.func71 (fun hfit hgl => ?_)
    repeat' (first | refine go ?_ | (refine br (fun hc => ?_) (fun hc => ?_) <;> try (exfalso; omega)) | fail)
    refine loop0 (fun i : Nat => (.str s :: .top :: .str [] :: .str [] :: .bool false :: .int .i64 (i + 1 : Nat) :: .top :: .top :: .top :: .top :: .top :: .top :: .top :: .top :: .top :: .top :: .top :: .top :: .top :: .top :: .top :: .top :: .top :: .top :: .top :: .top :: .top :: .top :: .top :: .top :: .top :: .top :: .top :: .top :: .top :: .top :: .top :: .top :: .top :: .top :: [])) (fun i => i + 1 ≤ s.length ∧ ∀ k, k < i → (s.drop 1).getD k 0 ≠ 62) (fun i => s.length - i) 0 ⟨by omega, fun k h => absurd h (Nat.not_lt_zero _)⟩ ?_
    rintro i ⟨hi, hall⟩
    have hdl : (s.drop 1).length = s.length - 1 := List.length_drop
    have hd : (s.drop 1).getD i 0 = s.getD (i + 1) 0 := by simp [List.getD_eq_getElem?_getD, Nat.add_comm]
    by_cases hlt : i + 1 < s.length
    · have hc256 := (s.getD (i + 1) 0).toNat_lt
      by_cases h62 : (s.getD (i + 1) 0).toNat = 62
      · have hq : (s.drop 1).getD i 0 = 62 := by rw [hd]; exact UInt8.toNat_inj.1 h62
        rw [cut_first (by omega) hall hq]
        simp only
        have hx : (s.take (i + 1)).drop 1 = (s.drop 1).take i := by rw [List.drop_take]; rfl
        have hy : s.drop (i + 2) = (s.drop 1).drop (i + 1) := by rw [List.drop_drop]; congr 1; omega
        have hxl : ((s.drop 1).take i).length = i := by rw [List.length_take]; omega
        generalize hX : (s.drop 1).take i = X at *
        generalize hY : (s.drop 1).drop (i + 1) = Y at *
        clear hX hY
        by_cases hm : MailboxOk X
        · have hh := And.intro hx (And.intro hy (And.intro hxl (tf_true hm)))
          rw [tf_true (.inr hm)]
          repeat' (first | refine go ?_ | (refine br (fun hc => ?_) (fun hc => ?_) <;> try (exfalso; omega)) | fail)
          all_goals exact .now ⟨rfl, rfl⟩
        · by_cases h0 : X.length = 0
          · rw [tf_true (.inl h0)]
            have hh := And.intro hx (And.intro hy (And.intro hxl (tf_false hm)))
            repeat' (first | refine go ?_ | (refine br (fun hc => ?_) (fun hc => ?_) <;> try (exfalso; omega)) | fail)
            all_goals first
              | exact .now ⟨rfl, rfl⟩
              | omega
          · rw [tf_false (fun h => h.elim h0 hm)]
            have hh := And.intro hx (And.intro hy (And.intro hxl (tf_false hm)))
            repeat' (first | refine go ?_ | (refine br (fun hc => ?_) (fun hc => ?_) <;> try (exfalso; omega)) | fail)
            all_goals exact .now ⟨rfl, rfl⟩
      · repeat' (first | refine go ?_ | (refine br (fun hc => ?_) (fun hc => ?_) <;> try (exfalso; omega)) | fail)
        refine again (i + 1) ⟨by omega, fun k hk => ?_⟩ (by omega)
        rcases Nat.lt_succ_iff_lt_or_eq.1 hk with h | h
        · exact hall k h
        · subst h; rw [hd]; intro h; rw [h] at h62; exact h62 rfl
    · rw [cut_never (fun k hk => hall k (by omega))]
      repeat' (first | refine go ?_ | (refine br (fun hc => ?_) (fun hc => ?_) <;> try (exfalso; omega)) | fail)
      exact .now ⟨rfl, rfl⟩
  · rw [if_neg (fun h => h1 (take1.1 h))]
    by_cases h0 : s.length = 0
    · obtain rfl : s = [] := List.length_eq_zero_iff.1 h0
      refine enter (md := fun _ => 0) Tryz.func71 (fun hfit hgl => ?_)
      repeat' (first | refine go ?_ | (refine br (fun hc => ?_) (fun hc => ?_) <;> try (exfalso; omega)) | fail)
      exact .now ⟨rfl, rfl⟩
    · have h60 : ¬ (s.getD 0 0).toNat = 60 := fun h => h1 ⟨by omega, h⟩
      have hh := h60
      refine enter (md := fun _ => 0) Tryz.func71 (fun hfit hgl => ?_)
      repeat' (first | refine go ?_ | (refine br (fun hc => ?_) (fun hc => ?_) <;> try (exfalso; omega)) | fail)
      all_goals exact .now ⟨rfl, rfl⟩

end Go.Ab.Tryz

end

section
set_option linter.unusedSimpArgs false
set_option linter.unusedVariables false
set_option maxHeartbeats 16000000
set_option maxRecDepth 4000
namespace Go.Ab.Tryz
open Go Go.Ab Go.Proofs
attribute [local irreducible] W Wl Wop TrA WSeq WLoopS FPost DPost RPost WRound DK onEnd
variable {n0 : Nat} {w0 : World} {gl : Nat → List AV} {H : List AO}
attribute [local simp] belowL_bytesAV

theorem numV_form (s : List UInt8) : ∃ (n : Int) (o : Bool), numV s = .tup [.int .i64 n, .bool o] := by
  by_cases h : Fine s
  · exact ⟨_, _, numV_good h⟩
  · exact ⟨_, _, numV_bad h⟩
theorem digs_get {z : List UInt8} : Digs z ↔ AllDig z := by
  constructor
  · intro h i hi
    refine h _ ?_
    rw [List.getD_eq_getElem?_getD, List.getElem?_eq_getElem hi]
    exact List.getElem_mem _
  · intro h c hc
    obtain ⟨k, hk, rfl⟩ := List.getElem_of_mem hc
    have := h k hk
    rwa [List.getD_eq_getElem?_getD, List.getElem?_eq_getElem hk] at this
theorem drop_get (z : List UInt8) (i k : Nat) : (z.drop i).getD k 0 = z.getD (i + k) 0 := by simp [List.getD_eq_getElem?_getD]
theorem noughts : ∀ l : List UInt8, (∀ c ∈ l, c = 48) → l.foldl (fun n c => 10 * n + (c.toNat - 48)) 0 = 0
  | [], _ => rfl
  | c :: l, h => by
    have hc := h c (List.mem_cons_self ..)
    subst hc
    exact noughts l fun x hx => h x (List.mem_cons_of_mem _ hx)
theorem strip_val {z : List UInt8} {i : Nat} (hi : i ≤ z.length) (h48 : ∀ k, k < i → (z.getD k 0).toNat = 48) : decVal (z.drop i) = decVal z := by
  conv => rhs; rw [← List.take_append_drop i z]
  unfold decVal
  rw [List.foldl_append, noughts (z.take i)]
  intro c hc
  obtain ⟨k, hk, rfl⟩ := List.getElem_of_mem hc
  have hk2 : k < i := by rw [List.length_take] at hk; omega
  have := h48 k hk2
  rw [List.getD_eq_getElem?_getD, List.getElem?_eq_getElem (by omega)] at this
  exact UInt8.toNat_inj.1 (by rw [List.getElem_take]; exact this)
theorem strip_good {z : List UInt8} {i : Nat} (hd : Digs z) (hl : z.length ≤ 18) (h48 : ∀ k, k < i → (z.getD k 0).toNat = 48) (hi : i < z.length) (hend : 1 < z.length - i → ¬ (z.getD i 0).toNat = 48) : numV (z.drop i) = .tup [.int .i64 (decVal z), .bool true] := by
  have hA := digs_get.1 hd
  have hF : Fine (z.drop i) := ⟨fun k hk => by rw [drop_get]; exact hA _ (by rw [List.length_drop] at hk; omega), by rw [strip_val (by omega) h48]; have := decVal_18 hd hl; omega⟩
  have hlen : (z.drop i).length = z.length - i := List.length_drop
  have h0 : (z.drop i).getD 0 0 = z.getD i 0 := drop_get z i 0
  rw [numV_good hF, strip_val (by omega) h48, tf_true (p := Lead (z.drop i))]
  refine ⟨fun h => by rw [h] at hlen; simp at hlen; omega, ?_⟩
  by_cases h1 : 1 < z.length - i
  · left; rw [h0]; intro h; exact hend h1 (by rw [h]; rfl)
  · rcases hx : z.drop i with _ | ⟨c, _ | ⟨d, l⟩⟩
    · rw [hx] at hlen; simp at hlen; omega
    · by_cases hc : c = 48
      · right; rw [hc]
      · left; exact hc
    · rw [hx] at hlen; simp at hlen; omega
theorem strip_bad {z : List UInt8} {i : Nat} (hd : ¬ Digs z) (h48 : ∀ k, k < i → (z.getD k 0).toNat = 48) : numV (z.drop i) = .tup [.int .i64 0, .bool false] := by
  refine numV_bad fun h => hd (digs_get.2 fun k hk => ?_)
  by_cases hki : k < i
  · have := h48 k hki; omega
  · have := h.1 (k - i) (by rw [List.length_drop]; omega)
    rwa [drop_get, show i + (k - i) = k by omega] at this

theorem path_nil : pathR [] = none := by unfold pathR; rw [if_neg (by simp)]
theorem path_len {x a y : List UInt8} (h : pathR x = some (a, y)) : a.length ≤ x.length ∧ y.length ≤ x.length := by
  unfold pathR at h
  split at h
  · cases hc : cutAt 62 (x.drop 1) with
    | none => rw [hc] at h; cases h
    | some q =>
      obtain ⟨u, v⟩ := q
      rw [hc] at h
      simp only at h
      have h2 := cutAt_len hc
      rw [List.length_drop] at h2
      split at h
      · injection h with h
        injection h with e1 e2
        subst e1; subst e2
        omega
      · cases h
  · cases h

end Go.Ab.Tryz

end

section
set_option linter.unusedSimpArgs false
set_option linter.unusedVariables false
set_option maxHeartbeats 40000000
set_option maxRecDepth 4000
namespace Go.Ab.Tryz
open Go Go.Ab Go.Proofs
attribute [local irreducible] W Wl Wop TrA WSeq WLoopS FPost DPost RPost WRound DK onEnd
variable {n0 : Nat} {w0 : World} {gl : Nat → List AV} {H : List AO}
attribute [local simp] belowL_bytesAV

theorem cmdRef_v0 (b : List UInt8) (tok : Tok) (hcl : b.length ≤ 510 ∧ Clean b) (hvv : verbU ((cutB b).1.map upB) = 0) : AEnter (env n0 w0 gl) 57 [.sl b.length (bytesAV b) tok] H (fun y H' => y = .ret (cmdV (cmdP b)) ∧ H' = H) := by
  have hl := hcl.1
  refine enter (md := fun _ => 0) Tryz.func57 (fun hfit hgl => ?_)
  repeat' (first | refine go ?_ | (refine br (fun hc => ?_) (fun hc => ?_) <;> try (exfalso; omega)) | fail)
  refine loop0 (fun i : Nat => (.sl b.length (bytesAV b) tok :: .top :: .ref H.length 0 :: .top :: .top :: .top :: .top :: .top :: .top :: .top :: .top :: .top :: .top :: .top :: .top :: .top :: .top :: .top :: .top :: .top :: .top :: .top :: .top :: .top :: .top :: .top :: .top :: .top :: .top :: .sl b.length (bytesAV b) tok :: .int .i64 b.length :: .int .i64 (i : Int) :: .top :: .top :: .top :: .top :: .top :: .top :: .top :: .top :: .top :: .top :: .top :: .top :: .top :: .top :: .top :: .top :: .top :: .top :: .top :: .top :: .top :: .top :: .top :: .top :: .top :: .top :: .top :: .top :: .top :: .top :: .top :: .top :: .top :: .top :: .top :: .top :: .top :: .top :: .top :: .top :: .top :: .top :: .top :: .top :: .top :: .top :: .top :: .top :: .top :: .top :: .top :: .top :: .top :: .top :: .top :: .top :: .top :: .top :: .top :: .top :: .top :: .top :: .top :: .top :: .top :: .top :: .top :: .top :: .top :: .top :: .top :: .top :: .top :: .top :: .top :: .top :: .top :: .top :: .top :: .top :: .top :: .top :: .top :: .top :: .top :: .top :: .top :: .top :: .top :: .top :: .top :: .top :: .top :: .top :: .top :: .top :: .top :: .top :: .top :: .top :: .top :: .top :: .top :: .top :: .top :: .top :: .top :: .top :: .top :: .top :: .top :: .top :: .top :: .top :: .top :: .top :: .top :: .top :: .top :: .top :: .top :: .top :: .top :: .top :: .top :: .top :: .top :: .top :: .top :: .top :: .top :: .top :: .top :: .top :: .top :: .top :: .top :: .top :: .top :: .top :: .top :: .top :: .top :: .top :: .top :: [])) (fun i => i ≤ b.length) (fun i => b.length - i) 0 (Nat.zero_le _) ?_
  intro i hi
  by_cases hlt : i < b.length
  · have hc256 := (b.getD i 0).toNat_lt
    have hh := row_cmd hlt
    have hcc := hcl.2 i hlt
    repeat' (first | refine go ?_ | (refine br (fun hc => ?_) (fun hc => ?_) <;> try (exfalso; omega)) | fail)
    exact again (i + 1) (by omega) (by omega)
  · obtain rfl : i = b.length := by omega
    clear hlt hi
    repeat' (first | refine go ?_ | (refine br (fun hc => ?_) (fun hc => ?_) <;> try (exfalso; omega)) | fail)
    refine loop0 (fun i : Nat => (.sl b.length (bytesAV b) tok :: .top :: .ref H.length 0 :: .top :: .top :: .top :: .str b :: .str [] :: .top :: .top :: .top :: .top :: .top :: .top :: .top :: .top :: .top :: .top :: .top :: .top :: .top :: .top :: .top :: .top :: .top :: .top :: .top :: .top :: .top :: .top :: .top :: .top :: .top :: .top :: .top :: .top :: .top :: .top :: .top :: .top :: .top :: .top :: .top :: .top :: .top :: .sl b.length (bytesAV b) tok :: .int .i64 b.length :: .int .i64 (i : Int) :: .top :: .top :: .top :: .top :: .top :: .top :: .top :: .top :: .top :: .top :: .top :: .top :: .top :: .top :: .top :: .top :: .top :: .top :: .top :: .top :: .top :: .top :: .top :: .top :: .top :: .top :: .top :: .top :: .top :: .top :: .top :: .top :: .top :: .top :: .top :: .top :: .top :: .top :: .top :: .top :: .top :: .top :: .top :: .top :: .top :: .top :: .top :: .top :: .top :: .top :: .top :: .top :: .top :: .top :: .top :: .top :: .top :: .top :: .top :: .top :: .top :: .top :: .top :: .top :: .top :: .top :: .top :: .top :: .top :: .top :: .top :: .top :: .top :: .top :: .top :: .top :: .top :: .top :: .top :: .top :: .top :: .top :: .top :: .top :: .top :: .top :: .top :: .top :: .top :: .top :: .top :: .top :: .top :: .top :: .top :: .top :: .top :: .top :: .top :: .top :: .top :: .top :: .top :: .top :: .top :: .top :: .top :: .top :: .top :: .top :: .top :: .top :: .top :: .top :: .top :: .top :: .top :: .top :: .top :: .top :: .top :: .top :: .top :: .top :: .top :: .top :: .top :: .top :: .top :: [])) (fun i => i ≤ b.length ∧ (∀ k, k < i → b.getD k 0 ≠ 32)) (fun i => b.length - i) 0 ⟨Nat.zero_le _, fun k h => absurd h (Nat.not_lt_zero _)⟩ ?_
    rintro i ⟨hi, hall⟩
    unfold cmdP
    rw [tf_true hcl]
    try simp only [if_true]
    by_cases hlt : i < b.length
    · have hc256 := (b.getD i 0).toNat_lt
      have hrow := row_cmd hlt
      by_cases hcc : (b.getD i 0).toNat = 32
      · have hcb : cutB b = (b.take i, b.drop (i + 1)) := by unfold cutB; rw [cut_first hlt hall (UInt8.toNat_inj.1 hcc)]
        have hwl : (b.take i).length ≤ 510 := by rw [List.length_take]; omega
        have hrl : (b.drop (i + 1)).length ≤ 510 := by rw [List.length_drop]; omega
        generalize hw : b.take i = w at *
        generalize hr : b.drop (i + 1) = r at *
        have hf := And.intro hrow (And.intro hcc (And.intro hw hr))
        rw [hcb] at hvv ⊢
        simp only at hvv ⊢
        have hvs : verbL (w.map lowB) = 0 := by rw [← verb_same]; exact hvv
        simp only [hvv, Int.reduceEq, reduceIte]
        have hh := And.intro hf hvs
        repeat' (first | refine go ?_ | (refine br (fun hc => ?_) (fun hc => ?_) <;> try (exfalso; omega)) | fail)
        all_goals exact .junkd ⟨rfl, rfl⟩
      · have hh := And.intro hrow hcc
        repeat' (first | refine go ?_ | (refine br (fun hc => ?_) (fun hc => ?_) <;> try (exfalso; omega)) | fail)
        refine again (i + 1) ⟨by omega, fun k hk => ?_⟩ (by omega)
        rcases Nat.lt_succ_iff_lt_or_eq.1 hk with h | h
        · exact hall k h
        · subst h; intro h; rw [h] at hcc; exact hcc rfl
    · obtain rfl : i = b.length := by omega
      have hcb : cutB b = (b, []) := by unfold cutB; rw [cut_never hall]
      rw [hcb] at hvv ⊢
      simp only at hvv ⊢
      have hvs : verbL (b.map lowB) = 0 := by rw [← verb_same]; exact hvv
      simp only [hvv, Int.reduceEq, reduceIte]
      have hh := And.intro hvs hvs
      repeat' (first | refine go ?_ | (refine br (fun hc => ?_) (fun hc => ?_) <;> try (exfalso; omega)) | fail)
      all_goals exact .junkd ⟨rfl, rfl⟩

theorem cmdRef_v1 (b : List UInt8) (tok : Tok) (hcl : b.length ≤ 510 ∧ Clean b) (hvv : verbU ((cutB b).1.map upB) = 1) : AEnter (env n0 w0 gl) 57 [.sl b.length (bytesAV b) tok] H (fun y H' => y = .ret (cmdV (cmdP b)) ∧ H' = H) := by
  have hl := hcl.1
  refine enter (md := fun _ => 0) Tryz.func57 (fun hfit hgl => ?_)
  repeat' (first | refine go ?_ | (refine br (fun hc => ?_) (fun hc => ?_) <;> try (exfalso; omega)) | fail)
  refine loop0 (fun i : Nat => (.sl b.length (bytesAV b) tok :: .top :: .ref H.length 0 :: .top :: .top :: .top :: .top :: .top :: .top :: .top :: .top :: .top :: .top :: .top :: .top :: .top :: .top :: .top :: .top :: .top :: .top :: .top :: .top :: .top :: .top :: .top :: .top :: .top :: .top :: .sl b.length (bytesAV b) tok :: .int .i64 b.length :: .int .i64 (i : Int) :: .top :: .top :: .top :: .top :: .top :: .top :: .top :: .top :: .top :: .top :: .top :: .top :: .top :: .top :: .top :: .top :: .top :: .top :: .top :: .top :: .top :: .top :: .top :: .top :: .top :: .top :: .top :: .top :: .top :: .top :: .top :: .top :: .top :: .top :: .top :: .top :: .top :: .top :: .top :: .top :: .top :: .top :: .top :: .top :: .top :: .top :: .top :: .top :: .top :: .top :: .top :: .top :: .top :: .top :: .top :: .top :: .top :: .top :: .top :: .top :: .top :: .top :: .top :: .top :: .top :: .top :: .top :: .top :: .top :: .top :: .top :: .top :: .top :: .top :: .top :: .top :: .top :: .top :: .top :: .top :: .top :: .top :: .top :: .top :: .top :: .top :: .top :: .top :: .top :: .top :: .top :: .top :: .top :: .top :: .top :: .top :: .top :: .top :: .top :: .top :: .top :: .top :: .top :: .top :: .top :: .top :: .top :: .top :: .top :: .top :: .top :: .top :: .top :: .top :: .top :: .top :: .top :: .top :: .top :: .top :: .top :: .top :: .top :: .top :: .top :: .top :: .top :: .top :: .top :: .top :: .top :: .top :: .top :: .top :: .top :: .top :: .top :: .top :: .top :: .top :: .top :: .top :: .top :: .top :: .top :: [])) (fun i => i ≤ b.length) (fun i => b.length - i) 0 (Nat.zero_le _) ?_
  intro i hi
  by_cases hlt : i < b.length
  · have hc256 := (b.getD i 0).toNat_lt
    have hh := row_cmd hlt
    have hcc := hcl.2 i hlt
    repeat' (first | refine go ?_ | (refine br (fun hc => ?_) (fun hc => ?_) <;> try (exfalso; omega)) | fail)
    exact again (i + 1) (by omega) (by omega)
  · obtain rfl : i = b.length := by omega
    clear hlt hi
    repeat' (first | refine go ?_ | (refine br (fun hc => ?_) (fun hc => ?_) <;> try (exfalso; omega)) | fail)
    refine loop0 (fun i : Nat => (.sl b.length (bytesAV b) tok :: .top :: .ref H.length 0 :: .top :: .top :: .top :: .str b :: .str [] :: .top :: .top :: .top :: .top :: .top :: .top :: .top :: .top :: .top :: .top :: .top :: .top :: .top :: .top :: .top :: .top :: .top :: .top :: .top :: .top :: .top :: .top :: .top :: .top :: .top :: .top :: .top :: .top :: .top :: .top :: .top :: .top :: .top :: .top :: .top :: .top :: .top :: .sl b.length (bytesAV b) tok :: .int .i64 b.length :: .int .i64 (i : Int) :: .top :: .top :: .top :: .top :: .top :: .top :: .top :: .top :: .top :: .top :: .top :: .top :: .top :: .top :: .top :: .top :: .top :: .top :: .top :: .top :: .top :: .top :: .top :: .top :: .top :: .top :: .top :: .top :: .top :: .top :: .top :: .top :: .top :: .top :: .top :: .top :: .top :: .top :: .top :: .top :: .top :: .top :: .top :: .top :: .top :: .top :: .top :: .top :: .top :: .top :: .top :: .top :: .top :: .top :: .top :: .top :: .top :: .top :: .top :: .top :: .top :: .top :: .top :: .top :: .top :: .top :: .top :: .top :: .top :: .top :: .top :: .top :: .top :: .top :: .top :: .top :: .top :: .top :: .top :: .top :: .top :: .top :: .top :: .top :: .top :: .top :: .top :: .top :: .top :: .top :: .top :: .top :: .top :: .top :: .top :: .top :: .top :: .top :: .top :: .top :: .top :: .top :: .top :: .top :: .top :: .top :: .top :: .top :: .top :: .top :: .top :: .top :: .top :: .top :: .top :: .top :: .top :: .top :: .top :: .top :: .top :: .top :: .top :: .top :: .top :: .top :: .top :: .top :: .top :: [])) (fun i => i ≤ b.length ∧ (∀ k, k < i → b.getD k 0 ≠ 32)) (fun i => b.length - i) 0 ⟨Nat.zero_le _, fun k h => absurd h (Nat.not_lt_zero _)⟩ ?_
    rintro i ⟨hi, hall⟩
    unfold cmdP
    rw [tf_true hcl]
    try simp only [if_true]
    by_cases hlt : i < b.length
    · have hc256 := (b.getD i 0).toNat_lt
      have hrow := row_cmd hlt
      by_cases hcc : (b.getD i 0).toNat = 32
      · have hcb : cutB b = (b.take i, b.drop (i + 1)) := by unfold cutB; rw [cut_first hlt hall (UInt8.toNat_inj.1 hcc)]
        have hwl : (b.take i).length ≤ 510 := by rw [List.length_take]; omega
        have hrl : (b.drop (i + 1)).length ≤ 510 := by rw [List.length_drop]; omega
        generalize hw : b.take i = w at *
        generalize hr : b.drop (i + 1) = r at *
        have hf := And.intro hrow (And.intro hcc (And.intro hw hr))
        rw [hcb] at hvv ⊢
        simp only at hvv ⊢
        have hvs : verbL (w.map lowB) = 1 := by rw [← verb_same]; exact hvv
        simp only [hvv, Int.reduceEq, reduceIte]
        simp only [fillB, fillT, fillN, Int.reduceEq, reduceIte, or_true, true_or, or_false, false_or, or_self]
        by_cases hd : DomainOk r
        · rw [tf_true hd]
          try simp only [if_true]
          have hh := And.intro hf (And.intro hvs (tf_true hd))
          repeat' (first | refine go ?_ | (refine br (fun hc => ?_) (fun hc => ?_) <;> try (exfalso; omega)) | fail)
          all_goals exact .junkd ⟨rfl, rfl⟩
        · rw [tf_false hd]
          try simp only [Bool.false_eq_true, if_false]
          have hh := And.intro hf (And.intro hvs (tf_false hd))
          repeat' (first | refine go ?_ | (refine br (fun hc => ?_) (fun hc => ?_) <;> try (exfalso; omega)) | fail)
          all_goals exact .junkd ⟨rfl, rfl⟩
      · have hh := And.intro hrow hcc
        repeat' (first | refine go ?_ | (refine br (fun hc => ?_) (fun hc => ?_) <;> try (exfalso; omega)) | fail)
        refine again (i + 1) ⟨by omega, fun k hk => ?_⟩ (by omega)
        rcases Nat.lt_succ_iff_lt_or_eq.1 hk with h | h
        · exact hall k h
        · subst h; intro h; rw [h] at hcc; exact hcc rfl
    · obtain rfl : i = b.length := by omega
      have hcb : cutB b = (b, []) := by unfold cutB; rw [cut_never hall]
      rw [hcb] at hvv ⊢
      simp only at hvv ⊢
      have hvs : verbL (b.map lowB) = 1 := by rw [← verb_same]; exact hvv
      simp only [hvv, Int.reduceEq, reduceIte]
      simp only [fillB, fillT, fillN, Int.reduceEq, reduceIte, or_true, true_or, or_false, false_or, or_self]
      by_cases hd : DomainOk []
      · rw [tf_true hd]
        try simp only [if_true]
        have hh := And.intro hvs (And.intro hvs (tf_true hd))
        repeat' (first | refine go ?_ | (refine br (fun hc => ?_) (fun hc => ?_) <;> try (exfalso; omega)) | fail)
        all_goals exact .junkd ⟨rfl, rfl⟩
      · rw [tf_false hd]
        try simp only [Bool.false_eq_true, if_false]
        have hh := And.intro hvs (And.intro hvs (tf_false hd))
        repeat' (first | refine go ?_ | (refine br (fun hc => ?_) (fun hc => ?_) <;> try (exfalso; omega)) | fail)
        all_goals exact .junkd ⟨rfl, rfl⟩

theorem cmdRef_v2 (b : List UInt8) (tok : Tok) (hcl : b.length ≤ 510 ∧ Clean b) (hvv : verbU ((cutB b).1.map upB) = 2) : AEnter (env n0 w0 gl) 57 [.sl b.length (bytesAV b) tok] H (fun y H' => y = .ret (cmdV (cmdP b)) ∧ H' = H) := by
  have hl := hcl.1
  refine enter (md := fun _ => 0) Tryz.func57 (fun hfit hgl => ?_)
  repeat' (first | refine go ?_ | (refine br (fun hc => ?_) (fun hc => ?_) <;> try (exfalso; omega)) | fail)
  refine loop0 (fun i : Nat => (.sl b.length (bytesAV b) tok :: .top :: .ref H.length 0 :: .top :: .top :: .top :: .top :: .top :: .top :: .top :: .top :: .top :: .top :: .top :: .top :: .top :: .top :: .top :: .top :: .top :: .top :: .top :: .top :: .top :: .top :: .top :: .top :: .top :: .top :: .sl b.length (bytesAV b) tok :: .int .i64 b.length :: .int .i64 (i : Int) :: .top :: .top :: .top :: .top :: .top :: .top :: .top :: .top :: .top :: .top :: .top :: .top :: .top :: .top :: .top :: .top :: .top :: .top :: .top :: .top :: .top :: .top :: .top :: .top :: .top :: .top :: .top :: .top :: .top :: .top :: .top :: .top :: .top :: .top :: .top :: .top :: .top :: .top :: .top :: .top :: .top :: .top :: .top :: .top :: .top :: .top :: .top :: .top :: .top :: .top :: .top :: .top :: .top :: .top :: .top :: .top :: .top :: .top :: .top :: .top :: .top :: .top :: .top :: .top :: .top :: .top :: .top :: .top :: .top :: .top :: .top :: .top :: .top :: .top :: .top :: .top :: .top :: .top :: .top :: .top :: .top :: .top :: .top :: .top :: .top :: .top :: .top :: .top :: .top :: .top :: .top :: .top :: .top :: .top :: .top :: .top :: .top :: .top :: .top :: .top :: .top :: .top :: .top :: .top :: .top :: .top :: .top :: .top :: .top :: .top :: .top :: .top :: .top :: .top :: .top :: .top :: .top :: .top :: .top :: .top :: .top :: .top :: .top :: .top :: .top :: .top :: .top :: .top :: .top :: .top :: .top :: .top :: .top :: .top :: .top :: .top :: .top :: .top :: .top :: .top :: .top :: .top :: .top :: .top :: .top :: [])) (fun i => i ≤ b.length) (fun i => b.length - i) 0 (Nat.zero_le _) ?_
  intro i hi
  by_cases hlt : i < b.length
  · have hc256 := (b.getD i 0).toNat_lt
    have hh := row_cmd hlt
    have hcc := hcl.2 i hlt
    repeat' (first | refine go ?_ | (refine br (fun hc => ?_) (fun hc => ?_) <;> try (exfalso; omega)) | fail)
    exact again (i + 1) (by omega) (by omega)
  · obtain rfl : i = b.length := by omega
    clear hlt hi
    repeat' (first | refine go ?_ | (refine br (fun hc => ?_) (fun hc => ?_) <;> try (exfalso; omega)) | fail)
    refine loop0 (fun i : Nat => (.sl b.length (bytesAV b) tok :: .top :: .ref H.length 0 :: .top :: .top :: .top :: .str b :: .str [] :: .top :: .top :: .top :: .top :: .top :: .top :: .top :: .top :: .top :: .top :: .top :: .top :: .top :: .top :: .top :: .top :: .top :: .top :: .top :: .top :: .top :: .top :: .top :: .top :: .top :: .top :: .top :: .top :: .top :: .top :: .top :: .top :: .top :: .top :: .top :: .top :: .top :: .sl b.length (bytesAV b) tok :: .int .i64 b.length :: .int .i64 (i : Int) :: .top :: .top :: .top :: .top :: .top :: .top :: .top :: .top :: .top :: .top :: .top :: .top :: .top :: .top :: .top :: .top :: .top :: .top :: .top :: .top :: .top :: .top :: .top :: .top :: .top :: .top :: .top :: .top :: .top :: .top :: .top :: .top :: .top :: .top :: .top :: .top :: .top :: .top :: .top :: .top :: .top :: .top :: .top :: .top :: .top :: .top :: .top :: .top :: .top :: .top :: .top :: .top :: .top :: .top :: .top :: .top :: .top :: .top :: .top :: .top :: .top :: .top :: .top :: .top :: .top :: .top :: .top :: .top :: .top :: .top :: .top :: .top :: .top :: .top :: .top :: .top :: .top :: .top :: .top :: .top :: .top :: .top :: .top :: .top :: .top :: .top :: .top :: .top :: .top :: .top :: .top :: .top :: .top :: .top :: .top :: .top :: .top :: .top :: .top :: .top :: .top :: .top :: .top :: .top :: .top :: .top :: .top :: .top :: .top :: .top :: .top :: .top :: .top :: .top :: .top :: .top :: .top :: .top :: .top :: .top :: .top :: .top :: .top :: .top :: .top :: .top :: .top :: .top :: .top :: [])) (fun i => i ≤ b.length ∧ (∀ k, k < i → b.getD k 0 ≠ 32)) (fun i => b.length - i) 0 ⟨Nat.zero_le _, fun k h => absurd h (Nat.not_lt_zero _)⟩ ?_
    rintro i ⟨hi, hall⟩
    unfold cmdP
    rw [tf_true hcl]
    try simp only [if_true]
    by_cases hlt : i < b.length
    · have hc256 := (b.getD i 0).toNat_lt
      have hrow := row_cmd hlt
      by_cases hcc : (b.getD i 0).toNat = 32
      · have hcb : cutB b = (b.take i, b.drop (i + 1)) := by unfold cutB; rw [cut_first hlt hall (UInt8.toNat_inj.1 hcc)]
        have hwl : (b.take i).length ≤ 510 := by rw [List.length_take]; omega
        have hrl : (b.drop (i + 1)).length ≤ 510 := by rw [List.length_drop]; omega
        generalize hw : b.take i = w at *
        generalize hr : b.drop (i + 1) = r at *
        have hf := And.intro hrow (And.intro hcc (And.intro hw hr))
        rw [hcb] at hvv ⊢
        simp only at hvv ⊢
        have hvs : verbL (w.map lowB) = 2 := by rw [← verb_same]; exact hvv
        simp only [hvv, Int.reduceEq, reduceIte]
        simp only [fillB, fillT, fillN, Int.reduceEq, reduceIte, or_true, true_or, or_false, false_or, or_self]
        by_cases hd : DomainOk r
        · rw [tf_true hd]
          try simp only [if_true]
          have hh := And.intro hf (And.intro hvs (tf_true hd))
          repeat' (first | refine go ?_ | (refine br (fun hc => ?_) (fun hc => ?_) <;> try (exfalso; omega)) | fail)
          all_goals exact .junkd ⟨rfl, rfl⟩
        · rw [tf_false hd]
          try simp only [Bool.false_eq_true, if_false]
          have hh := And.intro hf (And.intro hvs (tf_false hd))
          repeat' (first | refine go ?_ | (refine br (fun hc => ?_) (fun hc => ?_) <;> try (exfalso; omega)) | fail)
          all_goals exact .junkd ⟨rfl, rfl⟩
      · have hh := And.intro hrow hcc
        repeat' (first | refine go ?_ | (refine br (fun hc => ?_) (fun hc => ?_) <;> try (exfalso; omega)) | fail)
        refine again (i + 1) ⟨by omega, fun k hk => ?_⟩ (by omega)
        rcases Nat.lt_succ_iff_lt_or_eq.1 hk with h | h
        · exact hall k h
        · subst h; intro h; rw [h] at hcc; exact hcc rfl
    · obtain rfl : i = b.length := by omega
      have hcb : cutB b = (b, []) := by unfold cutB; rw [cut_never hall]
      rw [hcb] at hvv ⊢
      simp only at hvv ⊢
      have hvs : verbL (b.map lowB) = 2 := by rw [← verb_same]; exact hvv
      simp only [hvv, Int.reduceEq, reduceIte]
      simp only [fillB, fillT, fillN, Int.reduceEq, reduceIte, or_true, true_or, or_false, false_or, or_self]
      by_cases hd : DomainOk []
      · rw [tf_true hd]
        try simp only [if_true]
        have hh := And.intro hvs (And.intro hvs (tf_true hd))
        repeat' (first | refine go ?_ | (refine br (fun hc => ?_) (fun hc => ?_) <;> try (exfalso; omega)) | fail)
        all_goals exact .junkd ⟨rfl, rfl⟩
      · rw [tf_false hd]
        try simp only [Bool.false_eq_true, if_false]
        have hh := And.intro hvs (And.intro hvs (tf_false hd))
        repeat' (first | refine go ?_ | (refine br (fun hc => ?_) (fun hc => ?_) <;> try (exfalso; omega)) | fail)
        all_goals exact .junkd ⟨rfl, rfl⟩

end Go.Ab.Tryz

end
