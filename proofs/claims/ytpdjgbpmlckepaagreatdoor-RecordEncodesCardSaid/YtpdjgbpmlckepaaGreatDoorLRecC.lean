/- Walks: the document's records: numbers, seals, holds. -/
import Derived.Test.YtpdjgbpmlckepaaGreatDoorLRecA
import Derived.Test.YtpdjgbpmlckepaaGreatDoorAb36
import Derived.Test.YtpdjgbpmlckepaaGreatDoorLRecB
section
set_option linter.unusedSimpArgs false
set_option linter.unusedVariables false
set_option maxHeartbeats 4000000
set_option maxRecDepth 10000
namespace Go.Ab.Tryz
open Go Go.Ab Go.Proofs
attribute [local irreducible] W Wl Wop TrA WSeq WLoopS FPost DPost RPost WRound DK onEnd
attribute [local simp] belowL_bytesAV belowL_strsM belowL_appM belowL_fillL belowL_rep
variable {n0 : Nat} {w0 : World} {gl : Nat → List AV} {H : List AO}

theorem be_take {k i e : Nat} {n : Int} (h : i < k) (he : e = 8 * (k - 1 - i)) : bytesAV ((be k n).take i) ++ [AV.int .u8 (IntKind.u8.wrap (n.fdiv (2 ^ e)))] = bytesAV ((be k n).take (i + 1)) := by
  rw [be_byte h he, List.take_succ_eq_append_getElem (by rw [be_len]; exact h)]
  have e : (be k n).getD i 0 = (be k n)[i]'(by rw [be_len]; exact h) := by simp [List.getD_eq_getElem?_getD, be_len, h]
  unfold bytesAV
  rw [List.map_append, e]
  rfl
theorem be_take_len {k i : Nat} {n : Int} (h : i ≤ k) : ((be k n).take i).length = i := by rw [List.length_take, be_len]; omega
instance ref_eight_t (n : Int) : Ctr (env n0 w0 gl) 35 [.int .i64 n] H True (.sl 8 (bytesAV (be 8 n)) .ro) H := .of fun _ => by
  refine enter (md := fun _ => 0) Tryz.func35 (fun hfit hgl => ?_)
  repeat' (first | refine go ?_ | (refine br (fun hc => ?_) (fun hc => ?_) <;> try (exfalso; omega)) | fail)
  refine loop (fun i : Nat => (.int .i64 n :: .top :: .sl 0 [] .full :: .sl i (bytesAV ((be 8 n).take i)) (if i = 0 then .full else .at H.length i) :: .int .i64 (56 - 8 * (i : Int)) :: .top :: .top :: .top :: .top :: .top :: .top :: .top :: .top :: .top :: .top :: .top :: .top :: .top :: [])) (fun i => if i = 0 then H else H ++ [.tail 1 i]) (fun i => i ≤ 8) (fun i => 8 - i) 0 (by decide) ?_ (.fgt (by repeat (first | exact fgt_nil | refine fgt_top ?_ | refine fgt_same rfl ?_ | refine fgt_same (by simp) ?_)))
  intro i hi
  rcases i with _ | i
  · simp only [if_true, List.take_zero]
    have hbt := be_take (k := 8) (i := 0) (e := 56) (n := n) (by decide) (by decide)
    have hh : bytesAV [] = [] := rfl
    repeat' (first | refine go ?_ | (refine br (fun hc => ?_) (fun hc => ?_) <;> try (exfalso; omega)) | fail)
    rw [show min (56 - 8 * (0 : Int)).toNat 64 = 56 from rfl, show [AV.int IntKind.u8 (IntKind.u8.wrap (n.fdiv (2 ^ 56)))] = bytesAV ((be 8 n).take 1) from hbt]
    exact againE 1 (by decide) (by decide) (by simp)
  · simp only [Nat.add_eq_zero_iff, Nat.one_ne_zero, and_false, if_false]
    by_cases hlt : i + 1 < 8
    · have hbt := be_take (k := 8) (i := i + 1) (e := 56 - 8 * (i + 1)) (n := n) hlt (by omega)
      have hl := be_take_len (k := 8) (i := i + 1) (n := n) (by omega)
      have hsh : (56 - 8 * ((i : Int) + 1)).toNat = 56 - 8 * (i + 1) := by omega
      have hh := And.intro hsh hl
      repeat' (first | refine go ?_ | (refine br (fun hc => ?_) (fun hc => ?_) <;> try (exfalso; omega)) | fail)
      rw [show min (56 - 8 * ((i + 1 : Nat) : Int)).toNat 64 = 56 - 8 * (i + 1) by omega, hbt, show 56 - 8 * ((i + 1 : Nat) : Int) - 8 = 56 - 8 * ((i + 2 : Nat) : Int) by omega]
      exact againE (i + 2) (by omega) (by omega) (by simp)
    · obtain rfl : i = 7 := by omega
      rw [show (be 8 n).take (7 + 1) = be 8 n from List.take_of_length_le (by rw [be_len]; decide)]
      repeat' (first | refine go ?_ | (refine br (fun hc => ?_) (fun hc => ?_) <;> try (exfalso; omega)) | fail)
      exact .weak (b := .sl 8 (bytesAV (be 8 n)) .ro) (fun g c h => slRo h) (.junkd ⟨rfl, rfl⟩)
instance four_t (n : Int) : Ctr (env n0 w0 gl) 76 [.int .i64 n] H True (.sl 4 (bytesAV (be 4 n)) .full) H := .of fun _ => by
  have e0 := be_take (k := 4) (i := 0) (e := 24) (n := n) (by decide) (by decide)
  have e1 := be_take (k := 4) (i := 1) (e := 16) (n := n) (by decide) (by decide)
  have e2 := be_take (k := 4) (i := 2) (e := 8) (n := n) (by decide) (by decide)
  have e3 := be_take (k := 4) (i := 3) (e := 0) (n := n) (by decide) (by decide)
  have e4 : bytesAV (be 4 n) = [AV.int .u8 (IntKind.u8.wrap (n.fdiv (2 ^ 24))), AV.int .u8 (IntKind.u8.wrap (n.fdiv (2 ^ 16))), AV.int .u8 (IntKind.u8.wrap (n.fdiv (2 ^ 8))), AV.int .u8 (IntKind.u8.wrap n)] := by
    have : (be 4 n).take 4 = be 4 n := List.take_of_length_le (by rw [be_len]; decide)
    rw [← this, ← e3, ← e2, ← e1, ← e0]
    simp [bytesAV]
  rw [e4]
  refine enter (md := fun _ => 0) Tryz.func76 (fun hfit hgl => ?_)
  repeat' (first | refine go ?_ | (refine br (fun hc => ?_) (fun hc => ?_) <;> try (exfalso; omega)) | fail)
  exact .now ⟨rfl, rfl⟩
theorem or_gen {a c k : Nat} (hc : c < 2 ^ k) (h : 2 ^ k * a + c < 9223372036854775808) : bitsOf .or .i64 ((2 ^ k * a : Nat) : Int) (c : Int) = ((2 ^ k * a + c : Nat) : Int) := by
  unfold bitsOf
  simp only
  have e2 : (BitVec.ofInt IntKind.i64.bits ((2 ^ k * a : Nat) : Int) ||| BitVec.ofInt IntKind.i64.bits (c : Int)).toNat = 2 ^ k * a + c := by
    show (BitVec.ofInt 64 _ ||| BitVec.ofInt 64 _).toNat = _
    rw [BitVec.toNat_or]
    simp only [BitVec.ofInt_natCast, BitVec.toNat_ofNat]
    rw [Nat.mod_eq_of_lt (by omega), Nat.mod_eq_of_lt (by omega)]
    exact (Nat.two_pow_add_eq_or_of_lt (i := k) hc a).symm
  rw [e2, wrap_i64 (by omega) (by omega)]
theorem or4 {a b c d : Nat} (ha : a < 256) (hb : b < 256) (hc : c < 256) (hd : d < 256) :
    bitsOf .or .i64 (bitsOf .or .i64 (bitsOf .or .i64 (IntKind.i64.wrap ((a : Int) * 2 ^ 24)) (IntKind.i64.wrap ((b : Int) * 2 ^ 16))) (IntKind.i64.wrap ((c : Int) * 2 ^ 8))) (d : Int) = ((256 * (256 * (256 * a + b) + c) + d : Nat) : Int) := by
  have w1 : IntKind.i64.wrap ((a : Int) * 2 ^ 24) = ((2 ^ 24 * a : Nat) : Int) := by rw [wrap_i64 (by omega) (by omega)]; omega
  have w2 : IntKind.i64.wrap ((b : Int) * 2 ^ 16) = ((2 ^ 16 * b : Nat) : Int) := by rw [wrap_i64 (by omega) (by omega)]; omega
  have w3 : IntKind.i64.wrap ((c : Int) * 2 ^ 8) = ((2 ^ 8 * c : Nat) : Int) := by rw [wrap_i64 (by omega) (by omega)]; omega
  rw [w1, w2, w3, or_gen (by omega) (by omega)]
  rw [show 2 ^ 24 * a + 2 ^ 16 * b = 2 ^ 16 * (256 * a + b) by omega, or_gen (by omega) (by omega)]
  rw [show 2 ^ 16 * (256 * a + b) + 2 ^ 8 * c = 2 ^ 8 * (256 * (256 * a + b) + c) by omega, or_gen (by omega) (by omega)]
theorem num4_e (c0 c1 c2 c3 : UInt8) (t : List UInt8) (n : Nat) (hn : n = t.length + 4) (hb : n ≤ 1000000000) : AEnter (env n0 w0 gl) 77 [.sl n (bytesAV (c0 :: c1 :: c2 :: c3 :: t)) .ro] H (fun y H' => y = .ret (.int .i64 (numF [c0, c1, c2, c3])) ∧ H' = H) := by
  have hv : valF 0 [c0, c1, c2, c3] = 256 * (256 * (256 * c0.toNat + c1.toNat) + c2.toNat) + c3.toNat := by simp [valF]
  have h0 := c0.toNat_lt
  have h1 := c1.toNat_lt
  have h2 := c2.toNat_lt
  have h3 := c3.toNat_lt
  rw [numF_val (by rw [hv]; omega), hv, ← or4 h0 h1 h2 h3]
  have hw : ∀ c : UInt8, IntKind.i64.wrap (c.toNat : Int) = (c.toNat : Int) := fun c => wrap_i64 (by omega) (by have := c.toNat_lt; omega)
  have hh := And.intro (hw c0) (And.intro (hw c1) (And.intro (hw c2) (hw c3)))
  simp only [bytesAV, List.map_cons, byteAV]
  refine enter (md := fun _ => 0) Tryz.func77 (fun hfit hgl => ?_)
  repeat' (first | refine go ?_ | (refine br (fun hc => ?_) (fun hc => ?_) <;> try (exfalso; omega)) | fail)
  exact .now ⟨rfl, rfl⟩
instance ref_hold_t (name who : List UInt8) : Ctr (env n0 w0 gl) 38 [.agg [.str name, .str who]] H (name.length ≤ 1000000000 ∧ who.length ≤ 1000000000) (.bool (tf (HoldOk name who))) H := .of fun ⟨hn, hw⟩ => by
  have hwe : (who = []) = (who.length = 0) := by rw [List.length_eq_zero_iff]
  refine enter (md := fun t => if t = 1 then 1 else 0) Tryz.func38 (fun hfit hgl => ?_)
  repeat' (first | refine go ?_ | (refine br (fun hc => ?_) (fun hc => ?_) <;> try (exfalso; omega)) | fail)
  refine loop0 (fun i : Nat => (.agg [.str name, .str who] :: .row [.str name, .str who] :: .bool false :: .int .i64 (i : Int) :: .top :: .top :: .top :: .top :: .top :: .top :: .top :: .top :: .top :: .top :: .top :: .top :: .top :: .top :: .top :: .top :: .top :: .top :: .top :: .top :: .top :: .top :: .top :: .top :: .top :: .top :: .top :: .top :: .top :: .top :: .top :: .top :: .top :: .top :: .top :: .top :: .top :: .top :: .top :: .top :: .top :: .top :: .top :: .top :: .top :: .top :: .top :: .top :: .top :: .top :: .top :: [])) (fun i => i ≤ name.length ∧ ∀ k, k < i → SignB (name.getD k 0)) (fun i => name.length - i) 0 ⟨Nat.zero_le _, fun k h => absurd h (Nat.not_lt_zero _)⟩ ?_
  rintro i ⟨hi, hall⟩
  by_cases hlt : i < name.length
  · by_cases hg : SignB (name.getD i 0)
    · have hg2 := hg
      unfold SignB at hg2
      repeat' (first | refine go ?_ | (refine br (fun hc => ?_) (fun hc => ?_) <;> try (exfalso; omega)) | fail)
      all_goals first
        | (exfalso; omega)
        | (refine again (i + 1) ⟨by omega, fun k hk => ?_⟩ (by omega)
           rcases Nat.lt_succ_iff_lt_or_eq.1 hk with h | h
           · exact hall k h
           · subst h; exact hg)
    · have hg2 := hg
      unfold SignB at hg2
      rw [tf_false (p := HoldOk name who) fun h => hg (h.2.2.2 i hlt)]
      repeat' (first | refine go ?_ | (refine br (fun hc => ?_) (fun hc => ?_) <;> try (exfalso; omega)) | fail)
      all_goals first
        | exact .now ⟨rfl, rfl⟩
        | (exfalso; omega)
  · obtain rfl : i = name.length := by omega
    by_cases h1 : name.length = 0
    · rw [tf_false (fun h => h.1 h1)]
      repeat' (first | refine go ?_ | (refine br (fun hc => ?_) (fun hc => ?_) <;> try (exfalso; omega)) | fail)
      all_goals first
        | exact .now ⟨rfl, rfl⟩
        | (exfalso; omega)
    · by_cases h2 : name.length ≤ 30
      · by_cases h3 : who.length = 0
        · rw [tf_true ⟨h1, h2, .inl h3, hall⟩]
          have hh := hwe.trans (eq_true h3)
          repeat' (first | refine go ?_ | (refine br (fun hc => ?_) (fun hc => ?_) <;> try (exfalso; omega)) | fail)
          all_goals first
            | exact .now ⟨rfl, rfl⟩
            | (exfalso; omega)
        · have hq : tf (HoldOk name who) = tf (MailboxOk who) := tf_congr ⟨fun h => h.2.2.1.resolve_left h3, fun h => ⟨h1, h2, .inr h, hall⟩⟩
          rw [hq]
          have hh := hwe.trans (eq_false h3)
          repeat' (first | refine go ?_ | (refine br (fun hc => ?_) (fun hc => ?_) <;> try (exfalso; omega)) | fail)
          all_goals first
            | exact .now ⟨rfl, rfl⟩
            | (exfalso; omega)
      · rw [tf_false (fun h => h2 h.2.1)]
        repeat' (first | refine go ?_ | (refine br (fun hc => ?_) (fun hc => ?_) <;> try (exfalso; omega)) | fail)
        all_goals first
          | exact .now ⟨rfl, rfl⟩
          | (exfalso; omega)
end Go.Ab.Tryz

end

section
set_option linter.unusedSimpArgs false
set_option linter.unusedVariables false
set_option maxHeartbeats 4000000
set_option maxRecDepth 10000
namespace Go.Ab.Tryz
open Go Go.Ab Go.Proofs
attribute [local irreducible] W Wl Wop TrA WSeq WLoopS FPost DPost RPost WRound DK onEnd
attribute [local simp] belowL_bytesAV belowL_strsM belowL_appM belowL_fillL belowL_rep
variable {n0 : Nat} {w0 : World} {gl : Nat → List AV} {H : List AO}

theorem refBytes_e (seg count : Int) (root prev : List UInt8) (hr : root.length = 32) (hp : prev.length = 32) : AEnter (env n0 w0 gl) 36 [.agg (sealAV seg count root prev)] H (fun y H' => y = .ret (.sl 72 (bytesAV (sealS seg count root prev)) .ro) ∧ H' = H) := by
  have hs4 := be_len 4 seg
  have hc4 := be_len 4 count
  have r32 : ∀ X, List.take 32 (bytesAV root ++ X) = bytesAV root := fun X => by rw [List.take_append_of_le_length (by rw [bytesAV_len, hr]; decide), List.take_of_length_le (by rw [bytesAV_len, hr]; decide)]
  have d32 : ∀ X, List.drop 32 (bytesAV root ++ X) = X := fun X => by rw [List.drop_append, List.drop_eq_nil_of_le (by rw [bytesAV_len, hr]; decide), bytesAV_len, hr]; simp
  have p32 : List.take 32 (bytesAV prev) = bytesAV prev := List.take_of_length_le (by rw [bytesAV_len, hp]; decide)
  have hS : bytesAV (sealS seg count root prev) = bytesAV (be 4 seg) ++ (bytesAV (be 4 count) ++ (bytesAV root ++ bytesAV prev)) := by simp [bytesAV, sealS]
  rw [hS]
  unfold sealAV
  have hh := And.intro hs4 <| And.intro hc4 <| And.intro hr (And.intro hp (And.intro r32 (And.intro d32 p32)))
  refine enter (md := fun t => if t = 1 then 1 else 0) Tryz.func36 (fun hfit hgl => ?_)
  repeat' (first | refine go ?_ | (refine br (fun hc => ?_) (fun hc => ?_) <;> try (exfalso; omega)) | fail)
  exact .weak (b := .sl 72 _ .ro) (fun g c h => slRo h) (.junkd ⟨rfl, rfl⟩)

theorem Ent.agreeL {E : Env} {md : Nat → Nat} {ops : Array Oper} {ds : List ADef} {o : Oper} {ts ts2 : List AV} {H H2 : List AO} {v : AV} {L : List Nat} (h : Ent E md ops ds o ts H v H2) (ht : tmpsOf ops o = L) (he : L.map (ts.getD · .top) = L.map (ts2.getD · .top)) : Ent E md ops ds o ts2 H v H2 :=
  h.agree fun t h => by
    rw [ht] at h
    obtain ⟨i, hi, rfl⟩ := List.getElem_of_mem h
    have := congrArg (·[i]?) he
    simpa [hi] using this
def fill32 (s : List UInt8) (i : Nat) : List AV := bytesAV (s.take i) ++ List.replicate (32 - i) (.int .u8 0)
theorem fill32_eq {s : List UInt8} (h : s.length = 32) (i : Nat) : fill32 s i = fillL s i := by unfold fill32 fillL; rw [h]
theorem fill32_len {s : List UInt8} (h : s.length = 32) {i : Nat} (hi : i ≤ 32) : (fill32 s i).length = 32 := by rw [fill32_eq h, fillL_len (by omega), h]
theorem fill32_all {s : List UInt8} (h : s.length = 32) : fill32 s 32 = bytesAV s := by rw [fill32_eq h]; have := fillL_all s; rwa [h] at this
theorem belowL_fill32 (n : Nat) (s : List UInt8) (i : Nat) : belowL n (fill32 s i) = true := by
  unfold fill32
  rw [belowL_appM, belowL_bytesAV, belowL_rep]; rfl
attribute [local simp] belowL_fill32
theorem refParse_e (b : List UInt8) (hb : b.length ≤ 1000000000) : AEnter (env n0 w0 gl) 37 [.sl b.length (bytesAV b) .ro] H (fun y H' => y = .ret (sealV b) ∧ H' = H) := by
  by_cases h72 : b.length = 72
  · have hd4 : (b.drop 4).length = 68 := by rw [List.length_drop]; omega
    have hV : sealV b = if tf (1 ≤ numF (b.take 4) ∧ numF (b.take 4) ≤ 999999) then .tup [.agg (sealAV (numF (b.take 4)) (numF ((b.drop 4).take 4)) ((b.drop 8).take 32) (b.drop 40)), .int .i64 0] else .tup [.agg (sealAV 0 0 zero32 zero32), .int .i64 60] := by
      unfold sealV
      rw [show tf (SealB b) = tf (1 ≤ numF (b.take 4) ∧ numF (b.take 4) ≤ 999999) from tf_congr ⟨fun h => h.2, fun h => ⟨h72, h⟩⟩]
    rw [h72, hV]
    clear hV
    have hn0 : ∀ H, Ctr (env n0 w0 gl) 77 [.sl 72 (bytesAV b) .ro] H True (.int .i64 (numF (b.take 4))) H := fun H => .of fun _ => by
      obtain ⟨c0, b1, rfl⟩ : ∃ c t, b = c :: t := by cases b with | nil => simp at h72 | cons c t => exact ⟨c, t, rfl⟩
      obtain ⟨c1, b2, rfl⟩ : ∃ c t, b1 = c :: t := by cases b1 with | nil => simp at h72 | cons c t => exact ⟨c, t, rfl⟩
      obtain ⟨c2, b3, rfl⟩ : ∃ c t, b2 = c :: t := by cases b2 with | nil => simp at h72 | cons c t => exact ⟨c, t, rfl⟩
      obtain ⟨c3, b4, rfl⟩ : ∃ c t, b3 = c :: t := by cases b3 with | nil => simp at h72 | cons c t => exact ⟨c, t, rfl⟩
      exact num4_e c0 c1 c2 c3 b4 72 (by simp at h72; omega) (by decide)
    have hn4 : ∀ H, Ctr (env n0 w0 gl) 77 [.sl 68 (bytesAV (b.drop 4)) .ro] H True (.int .i64 (numF ((b.drop 4).take 4))) H := fun H => .of fun _ => by
      generalize b.drop 4 = b at *
      obtain ⟨c0, b1, rfl⟩ : ∃ c t, b = c :: t := by cases b with | nil => simp at hd4 | cons c t => exact ⟨c, t, rfl⟩
      obtain ⟨c1, b2, rfl⟩ : ∃ c t, b1 = c :: t := by cases b1 with | nil => simp at hd4 | cons c t => exact ⟨c, t, rfl⟩
      obtain ⟨c2, b3, rfl⟩ : ∃ c t, b2 = c :: t := by cases b2 with | nil => simp at hd4 | cons c t => exact ⟨c, t, rfl⟩
      obtain ⟨c3, b4, rfl⟩ : ∃ c t, b3 = c :: t := by cases b3 with | nil => simp at hd4 | cons c t => exact ⟨c, t, rfl⟩
      exact num4_e c0 c1 c2 c3 b4 68 (by simp at hd4; omega) (by decide)
    have hdb : List.drop 4 (bytesAV b) = bytesAV (b.drop 4) := by simp [bytesAV]
    have htb : List.take 68 (bytesAV (b.drop 4)) = bytesAV (b.drop 4) := List.take_of_length_le (by rw [bytesAV_len]; omega)
    have htb2 : List.drop 4 (List.take 72 (bytesAV b)) = bytesAV (b.drop 4) := by rw [List.take_of_length_le (by rw [bytesAV_len]; omega)]; simp [bytesAV]
    have hh := And.intro hdb (And.intro htb htb2)
    generalize hsg : numF (List.take 4 b) = sg at *
    generalize hct : numF (List.take 4 (List.drop 4 b)) = ct at *
    have hz : zero32.length = 32 := rfl
    have hzf : bytesAV zero32 = List.replicate 32 (.int .u8 0) := rfl
    generalize hR1 : (b.drop 8).take 32 = R1
    generalize hR2 : b.drop 40 = R2
    have l1 : R1.length = 32 := by rw [← hR1, List.length_take, List.length_drop]; omega
    have l2 : R2.length = 32 := by rw [← hR2, List.length_drop]; omega
    refine enter (md := fun _ => 0) Tryz.func37 (fun hfit hgl => ?_)
    have b8 : ∀ i, i < 32 → (b.drop 8).getD i 0 = R1.getD i 0 := fun i hi => by rw [← hR1]; simp [List.getD_eq_getElem?_getD, List.getElem?_take, hi]
    have hg1 : ∀ i, i < 32 → b.getD (8 + i) 0 = R1.getD i 0 := fun i hi => by rw [← b8 i hi]; simp [List.getD_eq_getElem?_getD]
    have hg2 : ∀ i, i < 32 → b.getD (40 + i) 0 = R2.getD i 0 := fun i hi => by rw [← hR2]; simp [List.getD_eq_getElem?_getD]
    clear b8
    simp only [sealAV]
    refine gos ?_
    refine wseq_normal ?_
    refine gos ?_
    refine wseq_normal ?_
    refine gos ?_
    refine wseq_shift (H2 := H ++ [.cells (.int .i64 0 :: .int .i64 0 :: (bytesAV zero32 ++ bytesAV zero32))]) Shift.refl ?_
    have o1 : (bytesAV zero32 ++ bytesAV zero32).all AV.one = true := by rw [List.all_append]; simp [bytesAV, byteAV, AV.one]
    have o3 : (bytesAV zero32 ++ bytesAV zero32).length = 64 := by rw [List.length_append, bytesAV_len]; rfl
    have o4 : List.drop 64 (bytesAV zero32 ++ bytesAV zero32) = [] := List.drop_eq_nil_of_le (by omega)
    have o5 : List.take 64 (bytesAV zero32 ++ bytesAV zero32) = bytesAV zero32 ++ bytesAV zero32 := List.take_of_length_le (by omega)
    have hh := And.intro o1 <| And.intro o3 <| And.intro o4 <| And.intro o5 <| And.intro hz hh
    refine w_seq ?_
    refine w_drawnW [.pure, .pure, .pure, .pure, .pure, .pure, .step 0, .step 1] [.sl 72 (bytesAV b) .ro, .int .i64 sg, .sl 72 (bytesAV b) .ro, .sl 68 (bytesAV (b.drop 4)) .ro, .int .i64 ct, .agg (.int .i64 sg :: .int .i64 ct :: (bytesAV zero32 ++ bytesAV zero32)), .ref (H.length + 1) 0, .top] [(H ++ [.cells (.int .i64 0 :: .int .i64 0 :: (bytesAV zero32 ++ bytesAV zero32))]), (H ++ [.cells (.int .i64 0 :: .int .i64 0 :: (bytesAV zero32 ++ bytesAV zero32)), .cells (.int .i64 0 :: .int .i64 0 :: (bytesAV zero32 ++ bytesAV zero32))]), (H ++ [.cells (.int .i64 0 :: .int .i64 0 :: (bytesAV zero32 ++ bytesAV zero32)), .cells (.int .i64 sg :: .int .i64 ct :: (bytesAV zero32 ++ bytesAV zero32))])] 2 (by intro _ h; cases h) (by simp only [List.length_cons, List.length_nil, Nat.reduceAdd]; exact rfl) (by decide +kernel) rfl (allV_of ⟨?_, ?_, ?_, ?_, ?_, ?_, ?_, ?_, trivial⟩) (by simp only [putV, Go.Ab.putL, List.tail_cons, List.headD_cons, List.set_cons_succ, List.set_cons_zero]; exact rfl) (H2 := (H ++ [.cells (.int .i64 0 :: .int .i64 0 :: (bytesAV zero32 ++ bytesAV zero32)), .cells (.int .i64 sg :: .int .i64 ct :: (fill32 R1 0 ++ fill32 R2 0))])) rfl ?_
    · exact fun k _ => show Ent _ _ _ _ _ _ _ (.sl 72 (bytesAV b) .ro) _ from Ent.agreeL (L := [0]) (ts := [.sl 72 (bytesAV b) .ro, .top, .top, .top, .ref (H.length + 1) 0, .top, .top, .top, .top, .top, .sl 72 (bytesAV b) .ro, .int .i64 sg, .sl 72 (bytesAV b) .ro, .sl 68 (bytesAV (b.drop 4)) .ro, .int .i64 ct, .agg (.int .i64 sg :: .int .i64 ct :: (bytesAV zero32 ++ bytesAV zero32))]) (.pure eGT rfl eV) (by kernel_rfl) (by kernel_rfl)
    · exact fun k _ => show Ent _ _ _ _ _ _ _ (.int .i64 sg) _ from Ent.agreeL (L := [10]) (ts := [.sl 72 (bytesAV b) .ro, .top, .top, .top, .ref (H.length + 1) 0, .top, .top, .top, .top, .top, .sl 72 (bytesAV b) .ro, .int .i64 sg, .sl 72 (bytesAV b) .ro, .sl 68 (bytesAV (b.drop 4)) .ro, .int .i64 ct, .agg (.int .i64 sg :: .int .i64 ct :: (bytesAV zero32 ++ bytesAV zero32))]) (.call eGT rfl rfl eA (args := [.sl 72 (bytesAV b) .ro]) eArgs ((hn0 _).call trivial)) (by kernel_rfl) (by kernel_rfl)
    · exact fun k _ => show Ent _ _ _ _ _ _ _ (.sl 72 (bytesAV b) .ro) _ from Ent.agreeL (L := [0]) (ts := [.sl 72 (bytesAV b) .ro, .top, .top, .top, .ref (H.length + 1) 0, .top, .top, .top, .top, .top, .sl 72 (bytesAV b) .ro, .int .i64 sg, .sl 72 (bytesAV b) .ro, .sl 68 (bytesAV (b.drop 4)) .ro, .int .i64 ct, .agg (.int .i64 sg :: .int .i64 ct :: (bytesAV zero32 ++ bytesAV zero32))]) (.pure eGT rfl eV) (by kernel_rfl) (by kernel_rfl)
    · exact fun k _ => show Ent _ _ _ _ _ _ _ (.sl 68 (bytesAV (b.drop 4)) .ro) _ from Ent.agreeL (L := [12]) (ts := [.sl 72 (bytesAV b) .ro, .top, .top, .top, .ref (H.length + 1) 0, .top, .top, .top, .top, .top, .sl 72 (bytesAV b) .ro, .int .i64 sg, .sl 72 (bytesAV b) .ro, .sl 68 (bytesAV (b.drop 4)) .ro, .int .i64 ct, .agg (.int .i64 sg :: .int .i64 ct :: (bytesAV zero32 ++ bytesAV zero32))]) (.pure eGT rfl eV) (by kernel_rfl) (by kernel_rfl)
    · exact fun k _ => show Ent _ _ _ _ _ _ _ (.int .i64 ct) _ from Ent.agreeL (L := [13]) (ts := [.sl 72 (bytesAV b) .ro, .top, .top, .top, .ref (H.length + 1) 0, .top, .top, .top, .top, .top, .sl 72 (bytesAV b) .ro, .int .i64 sg, .sl 72 (bytesAV b) .ro, .sl 68 (bytesAV (b.drop 4)) .ro, .int .i64 ct, .agg (.int .i64 sg :: .int .i64 ct :: (bytesAV zero32 ++ bytesAV zero32))]) (.call eGT rfl rfl eA (args := [.sl 68 (bytesAV (b.drop 4)) .ro]) eArgs ((hn4 _).call trivial)) (by kernel_rfl) (by kernel_rfl)
    · exact fun k _ => show Ent _ _ _ _ _ _ _ (.agg (.int .i64 sg :: .int .i64 ct :: (bytesAV zero32 ++ bytesAV zero32))) _ from Ent.agreeL (L := [11, 14]) (ts := [.sl 72 (bytesAV b) .ro, .top, .top, .top, .ref (H.length + 1) 0, .top, .top, .top, .top, .top, .sl 72 (bytesAV b) .ro, .int .i64 sg, .sl 72 (bytesAV b) .ro, .sl 68 (bytesAV (b.drop 4)) .ro, .int .i64 ct, .agg (.int .i64 sg :: .int .i64 ct :: (bytesAV zero32 ++ bytesAV zero32))]) (.heap eGT rfl (by first | exact eV | exact eLit)) (by kernel_rfl) (by kernel_rfl)
    · exact ⟨by decide, show Ent _ _ _ _ _ _ (H ++ [.cells (.int .i64 0 :: .int .i64 0 :: (bytesAV zero32 ++ bytesAV zero32))]) (.ref (H.length + 1) 0) (H ++ [.cells (.int .i64 0 :: .int .i64 0 :: (bytesAV zero32 ++ bytesAV zero32)), .cells (.int .i64 0 :: .int .i64 0 :: (bytesAV zero32 ++ bytesAV zero32))]) from Ent.agreeL (L := []) (ts := [.sl 72 (bytesAV b) .ro, .top, .top, .top, .ref (H.length + 1) 0, .top, .top, .top, .top, .top, .sl 72 (bytesAV b) .ro, .int .i64 sg, .sl 72 (bytesAV b) .ro, .sl 68 (bytesAV (b.drop 4)) .ro, .int .i64 ct, .agg (.int .i64 sg :: .int .i64 ct :: (bytesAV zero32 ++ bytesAV zero32))]) (.heap eGT rfl eV) (by kernel_rfl) (by kernel_rfl)⟩
    · exact ⟨by decide, show Ent _ _ _ _ _ _ (H ++ [.cells (.int .i64 0 :: .int .i64 0 :: (bytesAV zero32 ++ bytesAV zero32)), .cells (.int .i64 0 :: .int .i64 0 :: (bytesAV zero32 ++ bytesAV zero32))]) (.top) (H ++ [.cells (.int .i64 0 :: .int .i64 0 :: (bytesAV zero32 ++ bytesAV zero32)), .cells (.int .i64 sg :: .int .i64 ct :: (bytesAV zero32 ++ bytesAV zero32))]) from Ent.agreeL (L := [4, 15]) (ts := [.sl 72 (bytesAV b) .ro, .top, .top, .top, .ref (H.length + 1) 0, .top, .top, .top, .top, .top, .sl 72 (bytesAV b) .ro, .int .i64 sg, .sl 72 (bytesAV b) .ro, .sl 68 (bytesAV (b.drop 4)) .ro, .int .i64 ct, .agg (.int .i64 sg :: .int .i64 ct :: (bytesAV zero32 ++ bytesAV zero32))]) (.heap eGT rfl eV) (by kernel_rfl) (by kernel_rfl)⟩
    refine wseq_normal ?_
    repeat' (first | refine go ?_ | (refine br (fun hc => ?_) (fun hc => ?_) <;> try (exfalso; omega)) | fail)
    refine loop (fun i : Nat => (.sl 72 (bytesAV b) .ro :: .top :: .ref H.length 0 :: .int .i64 0 :: .ref (H.length + 1) 0 :: .int .i64 (i : Int) :: .top :: .top :: .top :: .top :: .top :: .top :: .top :: .top :: .top :: .top :: .top :: .top :: .top :: .top :: .top :: .top :: .top :: .top :: .top :: .top :: .top :: .top :: .top :: .top :: .top :: .top :: .top :: .top :: .top :: .top :: .top :: .top :: .top :: .top :: .top :: .top :: .top :: .top :: .top :: .top :: [])) (fun i => H ++ [.cells (.int .i64 0 :: .int .i64 0 :: (bytesAV zero32 ++ bytesAV zero32)), .cells (.int .i64 sg :: .int .i64 ct :: (fill32 R1 i ++ fill32 R2 i))]) (fun i => i ≤ 32) (fun i => 32 - i) 0 (by decide) ?_
    intro i hi
    by_cases hlt : i < 32
    · have h1 := bytes_hd (s := b) (i := 8 + i) (by omega)
      have h2 := bytes_hd (s := b) (i := 40 + i) (by omega)
      rw [hg1 i hlt] at h1
      rw [hg2 i hlt] at h2
      have f1 : (fill32 R1 i).length = 32 := fill32_len l1 hi
      have f2 : (fill32 R1 (i + 1)).length = 32 := fill32_len l1 (by omega)
      have f3 : (fill32 R2 i).length = 32 := fill32_len l2 hi
      have hN1 : (8 + (i : Int)).toNat = 8 + i := by omega
      have hN2 : (40 + (i : Int)).toNat = 40 + i := by omega
      have q1 : List.take (2 + i) (AV.int .i64 sg :: AV.int .i64 ct :: (fill32 R1 i ++ fill32 R2 i)) ++ byteAV (R1.getD i 0) :: List.drop (2 + (i + 1)) (AV.int .i64 sg :: AV.int .i64 ct :: (fill32 R1 i ++ fill32 R2 i)) = AV.int .i64 sg :: AV.int .i64 ct :: (fill32 R1 (i + 1) ++ fill32 R2 i) := by
        rw [show 2 + i = i + 2 by omega, show 2 + (i + 1) = (i + 1) + 2 by omega]
        simp only [List.take_succ_cons, List.drop_succ_cons, List.cons_append]
        rw [put_left (by omega), fill32_eq l1, fillL_set (by omega), fill32_eq l1]
      have q2 : List.take (34 + i) (AV.int .i64 sg :: AV.int .i64 ct :: (fill32 R1 (i + 1) ++ fill32 R2 i)) ++ byteAV (R2.getD i 0) :: List.drop (34 + (i + 1)) (AV.int .i64 sg :: AV.int .i64 ct :: (fill32 R1 (i + 1) ++ fill32 R2 i)) = AV.int .i64 sg :: AV.int .i64 ct :: (fill32 R1 (i + 1) ++ fill32 R2 (i + 1)) := by
        rw [show 34 + i = (32 + i) + 2 by omega, show 34 + (i + 1) = (32 + i + 1) + 2 by omega]
        simp only [List.take_succ_cons, List.drop_succ_cons, List.cons_append]
        rw [put_right (A := fill32 R1 (i + 1)) (i := i) (by omega), fill32_eq l2, fillL_set (by omega), fill32_eq l2]
      unfold byteAV at q1 q2
      have hh := And.intro q1 (And.intro q2 (And.intro h1 (And.intro h2 (And.intro f1 (And.intro f2 (And.intro f3 (And.intro hN1 hN2)))))))
      refine gos ?_
      refine wseq_normal ?_
      refine gos ?_
      refine wseq_normal ?_
      refine w_seq ?_
      refine w_block ?_
      refine w_drawnP (fun _ => True) (by intro _ h; cases h) (by simp only [List.length_cons, List.length_nil, Nat.reduceAdd]; exact rfl) ?_
      refine goP ?_
      refine wseq_normal ?_
      repeat' (first | refine go ?_ | (refine br (fun hc => ?_) (fun hc => ?_) <;> try (exfalso; omega)) | fail)
      exact again (i + 1) (by omega)
    · obtain rfl : i = 32 := by omega
      rw [fill32_all l1, fill32_all l2]
      have p1 : (bytesAV R1 ++ bytesAV R2).all AV.one = true := by rw [List.all_append]; simp [bytesAV, byteAV, AV.one]
      have p2 : (bytesAV R1 ++ bytesAV R2).length = 64 := by rw [List.length_append, bytesAV_len, bytesAV_len]; omega
      have p5 : List.take 64 (bytesAV R1 ++ bytesAV R2) = bytesAV R1 ++ bytesAV R2 := List.take_of_length_le (by omega)
      have hh := And.intro p1 <| And.intro p2 <| And.intro p5 <| And.intro l1 <| And.intro l2 hh
      by_cases hk : 1 ≤ sg ∧ sg ≤ 999999
      · rw [tf_true hk]
        repeat' (first | refine go ?_ | (refine br (fun hc => ?_) (fun hc => ?_) <;> try (exfalso; omega)) | fail)
        exact .junkd ⟨rfl, rfl⟩
      · rw [tf_false hk]
        repeat' (first | refine go ?_ | (refine br (fun hc => ?_) (fun hc => ?_) <;> try (exfalso; omega)) | fail)
        all_goals
          exact .junkd ⟨rfl, rfl⟩
  · unfold sealV
    rw [tf_false (fun h => h72 h.1)]
    refine enter (md := fun _ => 0) Tryz.func37 (fun hfit hgl => ?_)
    repeat' (first | refine go ?_ | (refine br (fun hc => ?_) (fun hc => ?_) <;> try (exfalso; omega)) | fail)
    exact .junkd ⟨rfl, rfl⟩
end Go.Ab.Tryz

end

section
set_option linter.unusedSimpArgs false
set_option linter.unusedVariables false
set_option maxHeartbeats 8000000
set_option maxRecDepth 10000
namespace Go.Ab.Tryz
open Go Go.Ab Go.Proofs
attribute [local irreducible] W Wl Wop TrA WSeq WLoopS FPost DPost RPost WRound DK onEnd
attribute [local simp] belowL_bytesAV belowL_strsM belowL_appM belowL_fillL belowL_rep
variable {n0 : Nat} {w0 : World} {gl : Nat → List AV} {H : List AO}

/-- What the document answers for a record. -/
def refOk (bs : List UInt8) (k : Int) : AV := .tup [.sl (1 + bs.length) (.int .u8 k :: bytesAV bs) .ro, .int .i64 0]
theorem refOk_weak {bs : List UInt8} {k : Int} {tok : Tok} {N : Nat} {H2 H3 : List AO} (h : Out N (fun y H' => y = .ret (.tup [.sl (1 + bs.length) (.int .u8 k :: bytesAV bs) .ro, .int .i64 0]) ∧ H' = H2) (.ret (.tup [.sl (1 + bs.length) (.int .u8 k :: bytesAV bs) .ro, .int .i64 0])) H3) : Out N (fun y H' => y = .ret (refOk bs k) ∧ H' = H2) (.ret (.tup [.sl (1 + bs.length) (.int .u8 k :: bytesAV bs) tok, .int .i64 0])) H3 :=
  .weak (b := .tup [.sl (1 + bs.length) (.int .u8 k :: bytesAV bs) .ro, .int .i64 0]) (fun g c h => tupW (ys := [.sl (1 + bs.length) (.int .u8 k :: bytesAV bs) .ro, .int .i64 0]) (by rfl) (fun i c h => by match i, h with
    | 0, h => exact slRo h
    | 1, h => exact h
    | _ + 2, _ => exact .top _) h) h
theorem out_ro {n : Nat} {l : List AV} {x : AV} {tok : Tok} {N : Nat} {P : AE → List AO → Prop} {H3 : List AO} (h : Out N P (.ret (.tup [.sl n l .ro, x])) H3) : Out N P (.ret (.tup [.sl n l tok, x])) H3 :=
  .weak (b := .tup [.sl n l .ro, x]) (fun g c h => tupW (ys := [.sl n l .ro, x]) (by rfl) (fun i c h => by match i, h with
    | 0, h => exact slRo h
    | 1, h => exact h
    | _ + 2, _ => exact .top _) h) h
theorem ref1_ok [ht : Tab10 n0 w0] (r : RecA) (hr : r.Small) (hk : r.kind = 1) (hE : r.m.EncOk) (hbl : r.m.enc.length ≤ 140737488350000) : AEnter (env n0 w0 gl) 12 [.agg r.av] H (fun y H' => y = .ret (refOk r.m.enc 1) ∧ H' = H) := by
  have hen : ∀ H, Ctr (env n0 w0 gl) 34 [.agg r.m.av] H True (.tup [.sl r.m.enc.length (bytesAV r.m.enc) .ro, .int .i64 0]) H := fun H => .of fun _ => ref_encode_ok r.m hr.msg hE
  have hh := recf _ _ _ hr.leaf hr.root hr.prev
  generalize r.m.enc = en at *
  obtain ⟨kind, ⟨id, cls, fro, to, at_, body⟩, pid, leaf, pat, seg, count, root, prev, name, who⟩ := r
  simp only at hk hh
  subst hk
  simp only [RecA.av, Msg.av, List.cons_append, List.nil_append] at hen ⊢
  refine enter (md := fun t => if t = 1 then 1 else 0) Tryz.func12 (fun hfit hgl => ?_)
  repeat' (first | refine go ?_ | (refine br (fun hc => ?_) (fun hc => ?_) <;> try (exfalso; omega)) | fail)
  exact refOk_weak (.junkd ⟨rfl, rfl⟩)
theorem ref1_bad [ht : Tab10 n0 w0] (r : RecA) (hr : r.Small) (hk : r.kind = 1) (hE : ¬ r.m.EncOk) : AEnter (env n0 w0 gl) 12 [.agg r.av] H (fun y H' => y = .ret (.tup [.sl 0 [] .full, .int .i64 150]) ∧ H' = H) := by
  have hen : ∀ H, Ctr (env n0 w0 gl) 34 [.agg r.m.av] H True (.tup [.sl 0 [] .full, .int .i64 150]) H := fun H => .of fun _ => ref_encode_bad r.m hr.msg hE
  have hh := recf _ _ _ hr.leaf hr.root hr.prev
  obtain ⟨kind, ⟨id, cls, fro, to, at_, body⟩, pid, leaf, pat, seg, count, root, prev, name, who⟩ := r
  simp only at hk hh
  subst hk
  simp only [RecA.av, Msg.av, List.cons_append, List.nil_append] at hen ⊢
  refine enter (md := fun t => if t = 1 then 1 else 0) Tryz.func12 (fun hfit hgl => ?_)
  repeat' (first | refine go ?_ | (refine br (fun hc => ?_) (fun hc => ?_) <;> try (exfalso; omega)) | fail)
  exact .now ⟨rfl, rfl⟩
theorem ref2_ok (r : RecA) (hr : r.Small) (hk : r.kind = 2) (hE : 1 ≤ r.pid ∧ r.pid ≤ 1099511627776 ∧ 0 ≤ r.pat) : AEnter (env n0 w0 gl) 12 [.agg r.av] H (fun y H' => y = .ret (refOk (be 8 r.pid ++ (be 8 r.pat ++ r.leaf)) 2) ∧ H' = H) := by
  have hl : (be 8 r.pid ++ (be 8 r.pat ++ r.leaf)).length = 48 := by simp only [List.length_append, be_len, hr.leaf]
  have hv : bytesAV (be 8 r.pid ++ (be 8 r.pat ++ r.leaf)) = bytesAV (be 8 r.pid) ++ (bytesAV (be 8 r.pat) ++ bytesAV r.leaf) := by simp [bytesAV]
  have hh0 := recf _ _ _ hr.leaf hr.root hr.prev
  have b1 := be_len 8 r.pid
  have b2 := be_len 8 r.pat
  unfold refOk
  rw [hl, hv]
  have hh1 := And.intro b1 (And.intro b2 hh0)
  clear hh0 hl hv b1 b2
  have hh0 := hh1
  clear hh1
  have a33 : (bytesAV r.leaf ++ [AV.int .i64 r.pat]).length = 33 := by rw [List.length_append, bytesAV_len, hr.leaf]; rfl
  have a1 : (bytesAV r.leaf ++ [AV.int .i64 r.pat]).all AV.one = true := by rw [List.all_append]; simp [bytesAV, byteAV, AV.one]
  have a2 : List.take 33 (bytesAV r.leaf ++ [AV.int .i64 r.pat]) = bytesAV r.leaf ++ [AV.int .i64 r.pat] := List.take_of_length_le (by omega)
  have hh := And.intro a33 <| And.intro a1 <| And.intro a2 <| And.intro (app_facts3 hr.leaf) hh0
  clear a33 a1 a2 hh0
  obtain ⟨kind, ⟨id, cls, fro, to, at_, body⟩, pid, leaf, pat, seg, count, root, prev, name, who⟩ := r
  simp only at hk hh hE
  obtain ⟨e1, e2, e3⟩ := hE
  subst hk
  simp only [RecA.av, Msg.av, List.cons_append, List.nil_append]
  refine enter (md := fun t => if t = 1 then 1 else 0) Tryz.func12 (fun hfit hgl => ?_)
  refine gos ?_
  refine wseq_normal ?_
  refine gos ?_
  refine wseq_normal ?_
  refine gos ?_
  refine wseq_normal ?_
  refine gos ?_
  refine wseq_normal ?_
  refine gos ?_
  refine wseq_normal ?_
  refine gos ?_
  refine wseq_normal ?_
  repeat' (first | refine gos ?_ | (refine br (fun hc => ?_) (fun hc => ?_) <;> try (exfalso; omega)) | fail)
  refine wseq_normal ?_
  repeat' (first | refine gos ?_ | (refine br (fun hc => ?_) (fun hc => ?_) <;> try (exfalso; omega)) | fail)
  refine wseq_normal ?_
  refine w_seq ?_
  refine w_drawnP (fun X => X[H.length]? = some (.cells (.int .i64 pid :: (bytesAV leaf ++ [.int .i64 pat])))) (by intro _ h; cases h) (by simp only [List.length_cons, List.length_nil, Nat.reduceAdd]; exact rfl) ?_
  refine goP ?_
  refine wseq_normal ?_
  repeat' (first | refine go ?_ | (refine br (fun hc => ?_) (fun hc => ?_) <;> try (exfalso; omega)) | fail)
  exact out_ro (.junkd ⟨rfl, rfl⟩)
theorem ref2_bad (r : RecA) (hr : r.Small) (hk : r.kind = 2) (hE : ¬ (1 ≤ r.pid ∧ r.pid ≤ 1099511627776 ∧ 0 ≤ r.pat)) : AEnter (env n0 w0 gl) 12 [.agg r.av] H (fun y H' => y = .ret (.tup [.sl 0 [] .full, .int .i64 160]) ∧ H' = H) := by
  have hh0 := recf _ _ _ hr.leaf hr.root hr.prev
  have a33 : (bytesAV r.leaf ++ [AV.int .i64 r.pat]).length = 33 := by rw [List.length_append, bytesAV_len, hr.leaf]; rfl
  have a1 : (bytesAV r.leaf ++ [AV.int .i64 r.pat]).all AV.one = true := by rw [List.all_append]; simp [bytesAV, byteAV, AV.one]
  have a2 : List.take 33 (bytesAV r.leaf ++ [AV.int .i64 r.pat]) = bytesAV r.leaf ++ [AV.int .i64 r.pat] := List.take_of_length_le (by omega)
  have hh := And.intro a33 <| And.intro a1 <| And.intro a2 <| And.intro (app_facts3 hr.leaf) hh0
  clear a33 a1 a2 hh0
  obtain ⟨kind, ⟨id, cls, fro, to, at_, body⟩, pid, leaf, pat, seg, count, root, prev, name, who⟩ := r
  simp only at hk hh hE
  subst hk
  simp only [RecA.av, Msg.av, List.cons_append, List.nil_append]
  by_cases e1 : 1 ≤ pid
  · by_cases e2 : pid ≤ 1099511627776
    · have e3 : ¬ 0 ≤ pat := fun h => hE ⟨e1, e2, h⟩
      refine enter (md := fun t => if t = 1 then 1 else 0) Tryz.func12 (fun hfit hgl => ?_)
      repeat' (first | refine go ?_ | (refine br (fun hc => ?_) (fun hc => ?_) <;> try (exfalso; omega)) | fail)
      exact .junkd ⟨rfl, rfl⟩
    · refine enter (md := fun t => if t = 1 then 1 else 0) Tryz.func12 (fun hfit hgl => ?_)
      repeat' (first | refine go ?_ | (refine br (fun hc => ?_) (fun hc => ?_) <;> try (exfalso; omega)) | fail)
      exact .junkd ⟨rfl, rfl⟩
  · refine enter (md := fun t => if t = 1 then 1 else 0) Tryz.func12 (fun hfit hgl => ?_)
    repeat' (first | refine go ?_ | (refine br (fun hc => ?_) (fun hc => ?_) <;> try (exfalso; omega)) | fail)
    exact .junkd ⟨rfl, rfl⟩
theorem ref4_ok [ht : Tab10 n0 w0] (r : RecA) (hr : r.Small) (hk : r.kind = 4) (hE : HoldOk r.name r.who) : AEnter (env n0 w0 gl) 12 [.agg r.av] H (fun y H' => y = .ret (refOk (putL [r.name, r.who]) 4) ∧ H' = H) := by
  have hpl : (putL [r.name, r.who]).length ≤ 140737488350000 := by
    have h1 := hr.name
    have h2 := hr.who
    have d1 := Lib.decDigits_length r.name.length
    have d2 := Lib.decDigits_length r.who.length
    have e1 : Lib.nDigits r.name.length ≤ 19 := nDigits_le (by omega) (by omega)
    have e2 : Lib.nDigits r.who.length ≤ 19 := nDigits_le (by omega) (by omega)
    simp only [putL, List.flatMap_cons, List.flatMap_nil, List.append_nil, List.length_append, putF_len]
    omega
  have hput : ∀ H tok, Ctr (env n0 w0 gl) 39 [.sl 2 [.sl r.name.length (bytesAV r.name) .ro, .sl r.who.length (bytesAV r.who) .ro] tok] H True (.sl (putL [r.name, r.who]).length (bytesAV (putL [r.name, r.who])) .ro) H := fun H tok => ⟨fun _ => by
    have := (ref_put_t (n0 := n0) (w0 := w0) (gl := gl) (H := H) [(r.name, .ro), (r.who, .ro)] tok).call ⟨by show 2 ≤ _; decide, hpl⟩
    exact this⟩
  have hh := recf _ _ _ hr.leaf hr.root hr.prev
  have hn := hr.name
  have hw := hr.who
  have hH : ∀ H, Ctr (env n0 w0 gl) 38 [.agg [.str r.name, .str r.who]] H True (.bool true) H := fun H => ⟨fun _ => by
    have := (ref_hold_t (n0 := n0) (w0 := w0) (gl := gl) (H := H) r.name r.who).call ⟨hn, hw⟩
    rwa [tf_true hE] at this⟩
  generalize putL [r.name, r.who] = en at *
  obtain ⟨kind, ⟨id, cls, fro, to, at_, body⟩, pid, leaf, pat, seg, count, root, prev, name, who⟩ := r
  simp only at hk hh hE hput hn hw hH
  subst hk
  simp only [RecA.av, Msg.av, List.cons_append, List.nil_append]
  refine enter (md := fun t => if t = 1 then 1 else 0) Tryz.func12 (fun hfit hgl => ?_)
  repeat' (first | refine go ?_ | (refine br (fun hc => ?_) (fun hc => ?_) <;> try (exfalso; omega)) | fail)
  exact refOk_weak (.junkd ⟨rfl, rfl⟩)
theorem ref4_bad (r : RecA) (hr : r.Small) (hk : r.kind = 4) (hE : ¬ HoldOk r.name r.who) : AEnter (env n0 w0 gl) 12 [.agg r.av] H (fun y H' => y = .ret (.tup [.sl 0 [] .full, .int .i64 160]) ∧ H' = H) := by
  have hh := recf _ _ _ hr.leaf hr.root hr.prev
  have hn := hr.name
  have hw := hr.who
  have hH : ∀ H, Ctr (env n0 w0 gl) 38 [.agg [.str r.name, .str r.who]] H True (.bool false) H := fun H => ⟨fun _ => by
    have := (ref_hold_t (n0 := n0) (w0 := w0) (gl := gl) (H := H) r.name r.who).call ⟨hn, hw⟩
    rwa [tf_false hE] at this⟩
  obtain ⟨kind, ⟨id, cls, fro, to, at_, body⟩, pid, leaf, pat, seg, count, root, prev, name, who⟩ := r
  simp only at hk hh hE hn hw hH
  subst hk
  simp only [RecA.av, Msg.av, List.cons_append, List.nil_append]
  refine enter (md := fun t => if t = 1 then 1 else 0) Tryz.func12 (fun hfit hgl => ?_)
  repeat' (first | refine go ?_ | (refine br (fun hc => ?_) (fun hc => ?_) <;> try (exfalso; omega)) | fail)
  all_goals exact .now ⟨rfl, rfl⟩
theorem ref0_bad (r : RecA) (hr : r.Small) (hk : r.kind ≠ 1 ∧ r.kind ≠ 2 ∧ r.kind ≠ 3 ∧ r.kind ≠ 4 ∧ r.kind ≠ 5) : AEnter (env n0 w0 gl) 12 [.agg r.av] H (fun y H' => y = .ret (.tup [.sl 0 [] .full, .int .i64 160]) ∧ H' = H) := by
  have hh0 := recf _ _ _ hr.leaf hr.root hr.prev
  obtain ⟨kind, ⟨id, cls, fro, to, at_, body⟩, pid, leaf, pat, seg, count, root, prev, name, who⟩ := r
  simp only at hk hh0
  obtain ⟨k1, k2, k3, k4, k5⟩ := hk
  have hh := And.intro k1 <| And.intro k2 <| And.intro k3 <| And.intro k4 <| And.intro k5 hh0
  simp only [RecA.av, Msg.av, List.cons_append, List.nil_append]
  refine enter (md := fun t => if t = 1 then 1 else 0) Tryz.func12 (fun hfit hgl => ?_)
  repeat' (first | refine go ?_ | (refine br (fun hc => ?_) (fun hc => ?_) <;> try (exfalso; omega)) | fail)
  all_goals exact .now ⟨rfl, rfl⟩

end Go.Ab.Tryz

end

section
set_option linter.unusedSimpArgs false
set_option linter.unusedVariables false
set_option maxHeartbeats 8000000
set_option maxRecDepth 10000
namespace Go.Ab.Tryz
open Go Go.Ab Go.Proofs
attribute [local irreducible] W Wl Wop TrA WSeq WLoopS FPost DPost RPost WRound DK onEnd
attribute [local simp] belowL_bytesAV belowL_strsM belowL_appM belowL_fillL belowL_rep
variable {n0 : Nat} {w0 : World} {gl : Nat → List AV} {H : List AO}

theorem ref5_ok [ht : Tab10 n0 w0] (r : RecA) (hr : r.Small) (hk : r.kind = 5) (hE : HoldOk r.name []) : AEnter (env n0 w0 gl) 12 [.agg r.av] H (fun y H' => y = .ret (refOk (putL [r.name]) 5) ∧ H' = H) := by
  have hpl : (putL [r.name]).length ≤ 140737488350000 := by
    have h1 := hr.name
    have d1 := Lib.decDigits_length r.name.length
    have e1 : Lib.nDigits r.name.length ≤ 19 := nDigits_le (by omega) (by omega)
    simp only [putL, List.flatMap_cons, List.flatMap_nil, List.append_nil, List.length_append, putF_len]
    omega
  have hput : ∀ H tok, Ctr (env n0 w0 gl) 39 [.sl 1 [.sl r.name.length (bytesAV r.name) .ro] tok] H True (.sl (putL [r.name]).length (bytesAV (putL [r.name])) .ro) H := fun H tok => ⟨fun _ => by
    have := (ref_put_t (n0 := n0) (w0 := w0) (gl := gl) (H := H) [(r.name, .ro)] tok).call ⟨by show 1 ≤ _; decide, hpl⟩
    exact this⟩
  have hn := hr.name
  have hH : ∀ H, Ctr (env n0 w0 gl) 38 [.agg [.str r.name, .str []]] H True (.bool true) H := fun H => ⟨fun _ => by
    have := (ref_hold_t (n0 := n0) (w0 := w0) (gl := gl) (H := H) r.name []).call ⟨hn, by decide⟩
    rwa [tf_true hE] at this⟩
  have hh := recf _ _ _ hr.leaf hr.root hr.prev
  generalize putL [r.name] = en at *
  obtain ⟨kind, ⟨id, cls, fro, to, at_, body⟩, pid, leaf, pat, seg, count, root, prev, name, who⟩ := r
  simp only at hk hh hE hput hn hH
  subst hk
  simp only [RecA.av, Msg.av, List.cons_append, List.nil_append]
  refine enter (md := fun t => if t = 1 then 1 else 0) Tryz.func12 (fun hfit hgl => ?_)
  repeat' (first | refine go ?_ | (refine br (fun hc => ?_) (fun hc => ?_) <;> try (exfalso; omega)) | fail)
  exact refOk_weak (.junkd ⟨rfl, rfl⟩)
theorem ref5_bad (r : RecA) (hr : r.Small) (hk : r.kind = 5) (hE : ¬ HoldOk r.name []) : AEnter (env n0 w0 gl) 12 [.agg r.av] H (fun y H' => y = .ret (.tup [.sl 0 [] .full, .int .i64 160]) ∧ H' = H) := by
  have hn := hr.name
  have hH : ∀ H, Ctr (env n0 w0 gl) 38 [.agg [.str r.name, .str []]] H True (.bool false) H := fun H => ⟨fun _ => by
    have := (ref_hold_t (n0 := n0) (w0 := w0) (gl := gl) (H := H) r.name []).call ⟨hn, by decide⟩
    rwa [tf_false hE] at this⟩
  have hh := recf _ _ _ hr.leaf hr.root hr.prev
  obtain ⟨kind, ⟨id, cls, fro, to, at_, body⟩, pid, leaf, pat, seg, count, root, prev, name, who⟩ := r
  simp only at hk hh hE hn hH
  subst hk
  simp only [RecA.av, Msg.av, List.cons_append, List.nil_append]
  refine enter (md := fun t => if t = 1 then 1 else 0) Tryz.func12 (fun hfit hgl => ?_)
  repeat' (first | refine go ?_ | (refine br (fun hc => ?_) (fun hc => ?_) <;> try (exfalso; omega)) | fail)
  all_goals exact .now ⟨rfl, rfl⟩
theorem ref3_all (r : RecA) (hr : r.Small) (hk : r.kind = 3) : AEnter (env n0 w0 gl) 12 [.agg r.av] H (fun y H' => y = (if tf (SealOk r.seg r.count) then .ret (.tup [.sl 73 (.int .u8 3 :: bytesAV (sealS r.seg r.count r.root r.prev)) .ro, .int .i64 0]) else .ret (.tup [.sl 0 [] .full, .int .i64 160])) ∧ H' = H) := by
  have hB : ∀ H, Ctr (env n0 w0 gl) 36 [.agg (.int .i64 r.seg :: .int .i64 r.count :: (bytesAV r.root ++ bytesAV r.prev))] H True (.sl 72 (bytesAV (sealS r.seg r.count r.root r.prev)) .ro) H := fun H => .of fun _ => refBytes_e r.seg r.count r.root r.prev hr.root hr.prev
  have hP : ∀ H, Ctr (env n0 w0 gl) 37 [.sl 72 (bytesAV (sealS r.seg r.count r.root r.prev)) .ro] H True (sealV (sealS r.seg r.count r.root r.prev)) H := fun H => .of fun _ => by
    have := refParse_e (n0 := n0) (w0 := w0) (gl := gl) (H := H) (sealS r.seg r.count r.root r.prev) (by rw [(sealS_parts hr.root hr.prev).1]; decide)
    rwa [(sealS_parts hr.root hr.prev).1] at this
  rw [sealV_of hr.root hr.prev] at hP
  have hh0 := recf _ _ _ hr.leaf hr.root hr.prev
  have hzl : zero32.length = 32 := rfl
  have hp32 : List.take 32 (bytesAV r.prev) = bytesAV r.prev := List.take_of_length_le (by rw [bytesAV_len, hr.prev]; decide)
  have o1 : (bytesAV r.root ++ bytesAV r.prev).all AV.one = true := by rw [List.all_append]; simp [bytesAV, byteAV, AV.one]
  have o2 : (bytesAV r.root ++ bytesAV r.prev).length = 64 := by rw [List.length_append, bytesAV_len, bytesAV_len, hr.root, hr.prev]
  have o5 : List.take 64 (bytesAV r.root ++ bytesAV r.prev) = bytesAV r.root ++ bytesAV r.prev := List.take_of_length_le (by omega)
  have o6 := (sealS_parts (seg := r.seg) (count := r.count) hr.root hr.prev).1
  obtain ⟨r1, r2, _, _, _, _⟩ := app_facts hr.root
  have hh := And.intro o6 <| And.intro r1 <| And.intro r2 <| And.intro o1 <| And.intro o2 <| And.intro o5 <| And.intro hp32 <| And.intro hzl hh0
  clear hh0 o6
  unfold SealOk
  unfold sealAV at hP
  generalize numF (be 4 r.seg) = p at *
  generalize numF (be 4 r.count) = q at *
  generalize hS : sealS r.seg r.count r.root r.prev = S at *
  obtain ⟨kind, ⟨id, cls, fro, to, at_, body⟩, pid, leaf, pat, seg, count, root, prev, name, who⟩ := r
  simp only at hk hh hP hB ⊢
  clear o1 o2 o5 hp32 r1 r2
  subst hk
  simp only [RecA.av, Msg.av, List.cons_append, List.nil_append]
  by_cases h1 : 1 ≤ p ∧ p ≤ 999999
  · rw [tf_true h1] at hP
    simp only [if_true] at hP
    by_cases h2 : p = seg
    · by_cases h3 : q = count
      · rw [tf_true ⟨h2, h3, by omega, by omega⟩]
        subst h2; subst h3
        refine enter (md := fun t => if t = 1 then 1 else 0) Tryz.func12 (fun hfit hgl => ?_)
        repeat' (first | refine go ?_ | (refine br (fun hc => ?_) (fun hc => ?_) <;> try (exfalso; omega)) | fail)
        all_goals first
          | exact out_ro (.junkd ⟨rfl, rfl⟩)
          | exact hc.1.elim
      · rw [tf_false fun h => h3 h.2.1]
        subst h2
        have hh := And.intro h3 hh
        refine enter (md := fun t => if t = 1 then 1 else 0) Tryz.func12 (fun hfit hgl => ?_)
        repeat' (first | refine go ?_ | (refine br (fun hc => ?_) (fun hc => ?_) <;> try (exfalso; omega)) | fail)
        all_goals first
          | exact .junkd ⟨rfl, rfl⟩
          | exact hc.1.elim
    · rw [tf_false fun h => h2 h.1]
      have hh := And.intro h2 hh
      refine enter (md := fun t => if t = 1 then 1 else 0) Tryz.func12 (fun hfit hgl => ?_)
      repeat' (first | refine go ?_ | (refine br (fun hc => ?_) (fun hc => ?_) <;> try (exfalso; omega)) | fail)
      all_goals first
        | exact .junkd ⟨rfl, rfl⟩
        | exact hc.1.elim
  · rw [tf_false h1] at hP
    simp only [Bool.false_eq_true, if_false] at hP
    rw [tf_false fun h => h1 (by obtain ⟨a, b, c, d⟩ := h; omega)]
    have o3 : (bytesAV zero32 ++ bytesAV zero32).all AV.one = true := by rw [List.all_append]; simp [bytesAV, byteAV, AV.one]
    have o4 : (bytesAV zero32 ++ bytesAV zero32).length = 64 := by rw [List.length_append, bytesAV_len]; rfl
    have o6 : List.take 64 (bytesAV zero32 ++ bytesAV zero32) = bytesAV zero32 ++ bytesAV zero32 := List.take_of_length_le (by omega)
    have hh := And.intro o3 <| And.intro o4 <| And.intro o6 hh
    clear o3 o4 o6
    generalize zero32 = Z at *
    refine enter (md := fun t => if t = 1 then 1 else 0) Tryz.func12 (fun hfit hgl => ?_)
    repeat' (first | refine go ?_ | (refine br (fun hc => ?_) (fun hc => ?_) <;> try (exfalso; omega)) | fail)
    all_goals first
      | exact .junkd ⟨rfl, rfl⟩
      | exact hc.1.elim

theorem refOk_enc {r : RecA} (hE : r.Ok) {k : Int} (hk : r.kind = k) (bs : List UInt8) (hb : r.bytes = bs) (hk2 : IntKind.u8.wrap k = k) : refOk bs k = .tup [.sl r.enc.length (bytesAV r.enc) .ro, .int .i64 0] := by
  obtain ⟨e1, e2⟩ := enc_cons hE
  unfold refOk
  rw [e1, e2, hb, hk, hk2]
theorem recRef_ok [ht : Tab10 n0 w0] (r : RecA) (hr : r.Small) (hbl : r.bytes.length ≤ 140737488350000) (hE : r.Ok) : AEnter (env n0 w0 gl) 12 [.agg r.av] H (fun y H' => y = .ret (.tup [.sl r.enc.length (bytesAV r.enc) .ro, .int .i64 0]) ∧ H' = H) := by
  have hE0 := hE
  rcases hE with ⟨hk, h⟩ | ⟨hk, h⟩ | ⟨hk, h⟩ | ⟨hk, h⟩ | ⟨hk, h⟩
  · have hb : r.bytes = r.m.enc := by unfold RecA.bytes; rw [if_pos hk]
    rw [← refOk_enc hE0 hk _ hb (by decide)]
    exact ref1_ok r hr hk h (by rw [← hb]; exact hbl)
  · have hb : r.bytes = be 8 r.pid ++ (be 8 r.pat ++ r.leaf) := by unfold RecA.bytes; rw [if_neg (by omega), if_pos hk]
    rw [← refOk_enc hE0 hk _ hb (by decide)]
    exact ref2_ok r hr hk h
  · have hb : r.bytes = sealS r.seg r.count r.root r.prev := by unfold RecA.bytes sealS; rw [if_neg (by omega), if_neg (by omega), if_pos hk]
    rw [← refOk_enc hE0 hk _ hb (by decide)]
    have := ref3_all (n0 := n0) (w0 := w0) (gl := gl) (H := H) r hr hk
    rw [tf_true h] at this
    unfold refOk
    rw [(sealS_parts hr.root hr.prev).1]
    exact this
  · have hb : r.bytes = putL [r.name, r.who] := by unfold RecA.bytes; rw [if_neg (by omega), if_neg (by omega), if_neg (by omega), if_pos hk]
    rw [← refOk_enc hE0 hk _ hb (by decide)]
    exact ref4_ok r hr hk h
  · have hb : r.bytes = putL [r.name] := by unfold RecA.bytes; rw [if_neg (by omega), if_neg (by omega), if_neg (by omega), if_neg (by omega)]
    rw [← refOk_enc hE0 hk _ hb (by decide)]
    exact ref5_ok r hr hk h
theorem recRef_bad [ht : Tab10 n0 w0] (r : RecA) (hr : r.Small) (hE : ¬ r.Ok) : AEnter (env n0 w0 gl) 12 [.agg r.av] H (fun y H' => y = .ret (.tup [.sl 0 [] .full, .int .i64 r.err]) ∧ H' = H) := by
  by_cases k1 : r.kind = 1
  · have he : r.err = 150 := by unfold RecA.err; rw [if_pos k1]
    rw [he]
    exact ref1_bad r hr k1 fun h => hE (.inl ⟨k1, h⟩)
  · have he : r.err = 160 := by unfold RecA.err; rw [if_neg k1]
    rw [he]
    by_cases k2 : r.kind = 2
    · exact ref2_bad r hr k2 fun h => hE (.inr (.inl ⟨k2, h⟩))
    · by_cases k3 : r.kind = 3
      · have := ref3_all (n0 := n0) (w0 := w0) (gl := gl) (H := H) r hr k3
        rw [tf_false fun h => hE (.inr (.inr (.inl ⟨k3, h⟩)))] at this
        exact this
      · by_cases k4 : r.kind = 4
        · exact ref4_bad r hr k4 fun h => hE (.inr (.inr (.inr (.inl ⟨k4, h⟩))))
        · by_cases k5 : r.kind = 5
          · exact ref5_bad r hr k5 fun h => hE (.inr (.inr (.inr (.inr ⟨k5, h⟩))))
          · exact ref0_bad r hr ⟨k1, k2, k3, k4, k5⟩

end Go.Ab.Tryz

end

section
set_option linter.unusedSimpArgs false
set_option linter.unusedVariables false
set_option maxHeartbeats 8000000
set_option maxRecDepth 10000
namespace Go.Ab.Tryz
open Go Go.Ab Go.Proofs
attribute [local irreducible] W Wl Wop TrA WSeq WLoopS FPost DPost RPost WRound DK onEnd
attribute [local simp] belowL_bytesAV belowL_strsM belowL_appM belowL_fillL belowL_rep
variable {n0 : Nat} {w0 : World} {gl : Nat → List AV} {H : List AO}

theorem recordEncodes_t [ht : Tab10 n0 w0] (r : RecA) (hb : r.Big) : AEnter (env n0 w0 gl) 3 [.agg r.av] H (fun y H' => y = .ret (.bool true) ∧ H' = H) := by
  have h1 := hb.leaf
  have h2 := hb.root
  have h3 := hb.prev
  have hm := hb.msg
  have hf : ∀ H, Ctr (env n0 w0 gl) 10 [.agg r.av] H True (.bool (tf r.Few)) H := fun H => .of fun _ => rfew_e r h1 h2 h3 hm
  have hlen : r.av.length = 109 := by simp only [RecA.av, Msg.av, List.length_cons, List.length_append, bytesAV_len, List.length_nil, h1, h2, h3]
  have htk : List.take 109 r.av = r.av := List.take_of_length_le (by omega)
  by_cases hF : r.Few
  · rw [tf_true hF] at hf
    have hS : r.Small := ⟨h1, h2, h3, hm, by have := hF.2.1; omega, by have := hF.2.2; omega⟩
    by_cases hE : r.Ok
    · have hen : ∀ H, Ctr (env n0 w0 gl) 11 [.agg r.av] H True (.tup [.sl r.enc.length (bytesAV r.enc) .ro, .int .i64 0]) H := fun H => .of fun _ => recEncode_ok r hS (recBytes_len hS hE) hE
      have hre : ∀ H, Ctr (env n0 w0 gl) 12 [.agg r.av] H True (.tup [.sl r.enc.length (bytesAV r.enc) .ro, .int .i64 0]) H := fun H => .of fun _ => recRef_ok r hS (recBytes_len hS hE) hE
      have hh := And.intro hlen htk
      generalize r.av = A at *
      generalize r.enc = en at *
      refine enter (md := fun t => if t = 1 then 1 else 0) Tryz.func3 (fun hfit hgl => ?_)
      repeat' (first | refine go ?_ | (refine br (fun hc => ?_) (fun hc => ?_) <;> try (exfalso; omega)) | fail)
      exact .now ⟨rfl, rfl⟩
    · have hen : ∀ H, Ctr (env n0 w0 gl) 11 [.agg r.av] H True (.tup [.sl 0 [] .full, .int .i64 r.err]) H := fun H => .of fun _ => recEncode_bad r hS hE
      have hre : ∀ H, Ctr (env n0 w0 gl) 12 [.agg r.av] H True (.tup [.sl 0 [] .full, .int .i64 r.err]) H := fun H => .of fun _ => recRef_bad r hS hE
      have hh := And.intro hlen htk
      generalize r.av = A at *
      generalize r.err = en at *
      refine enter (md := fun t => if t = 1 then 1 else 0) Tryz.func3 (fun hfit hgl => ?_)
      repeat' (first | refine go ?_ | (refine br (fun hc => ?_) (fun hc => ?_) <;> try (exfalso; omega)) | fail)
      exact .now ⟨rfl, rfl⟩
  · rw [tf_false hF] at hf
    have hh := And.intro hlen htk
    refine enter (md := fun t => if t = 1 then 1 else 0) Tryz.func3 (fun hfit hgl => ?_)
    repeat' (first | refine go ?_ | (refine br (fun hc => ?_) (fun hc => ?_) <;> try (exfalso; omega)) | fail)
    exact .now ⟨rfl, rfl⟩

end Go.Ab.Tryz

end
