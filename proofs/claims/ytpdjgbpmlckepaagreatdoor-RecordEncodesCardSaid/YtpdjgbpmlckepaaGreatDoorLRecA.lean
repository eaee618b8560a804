/- Walks: record: what is thrown and caught; numbers laid; whether a hold may be. -/
import Derived.Test.YtpdjgbpmlckepaaGreatDoorLSlices
import Derived.Test.YtpdjgbpmlckepaaGreatDoorSRec
import Derived.Test.YtpdjgbpmlckepaaGreatDoorLMail
import Derived.Test.YtpdjgbpmlckepaaGreatDoorAb32
import Derived.Test.YtpdjgbpmlckepaaGreatDoorLEncA
section
set_option linter.unusedSimpArgs false
set_option linter.unusedVariables false
set_option maxHeartbeats 4000000
set_option maxRecDepth 4000
namespace Go.Ab.Tryz
open Go Go.Ab Go.Proofs
attribute [local irreducible] W Wl Wop TrA WSeq WLoopS FPost DPost RPost WRound DK onEnd
attribute [local simp] belowL_bytesAV belowL_strsM belowL_appM
variable {n0 : Nat} {w0 : World} {gl : Nat → List AV} {H : List AO}

/-- What is thrown. -/
def thrownR (e : Int) : List APanic := [{ v := .iface 112 (.agg [.int .i64 e]) }]
instance rec_must_true : Ctr (env n0 w0 gl) 42 [.bool true] H True (.tup []) H := .of fun _ => by
  refine enter (md := fun _ => 0) Tryz.func42 (fun hfit hgl => ?_)
  repeat' (first | refine go ?_ | (refine br (fun hc => ?_) (fun hc => ?_) <;> try (exfalso; omega)) | fail)
  exact .now ⟨rfl, rfl⟩
instance rec_must_false : CtrP (env n0 w0 gl) 42 [.bool false] H True (thrownR 160) H := .of fun _ => by
  refine enter (md := fun _ => 0) Tryz.func42 (fun hfit hgl => ?_)
  repeat' (first | refine go ?_ | (refine br (fun hc => ?_) (fun hc => ?_) <;> try (exfalso; omega)) | fail)
  exact .now ⟨rfl, rfl⟩
instance rec_must_if (b : Bool) : CtrIf (env n0 w0 gl) 42 [.bool b] H True (b = true) (.ret (.tup [])) H (.panic (thrownR 160)) H := ⟨fun _ => by
  cases b with
  | true => exact (rec_must_true.call trivial).mono fun x H' h => .inl ⟨rfl, h⟩
  | false => exact (rec_must_false.call trivial).mono fun x H' h => .inr ⟨by simp, h⟩⟩

/-- The deferred function: nothing was thrown. -/
theorem rec_caught1_none (n : Nat) {R : AE → AMode → List AO → Prop} (h : R (.ret (.tup [])) .returning H) : ACallD (env n0 w0 gl) 65 [.ref n 0] .returning H R := by
  refine ACallD.of_recover (d := none) (fun _ => 0) (fn := Tryz.f65) Tryz.func65 rfl rfl rfl rfl rfl (a2 := ⟨(.ref n 0 :: .nili :: .top :: .top :: .nili :: .top :: .top :: .top :: .top :: .top :: .top :: .top :: .top :: .top :: .top :: .top :: .top :: []), []⟩) rfl ?_
  intro hfit _
  repeat' (first | refine go ?_ | (refine br (fun hc => ?_) (fun hc => ?_) <;> try (exfalso; omega)) | fail)
  exact .now h

theorem rec_caught1_some (n : Nat) (e : Int) {R : AE → AMode → List AO → Prop} (hn : H[n]? = some (.cells [.int .i64 0])) (h : R (.ret (.tup [])) (.panicking [{ v := .iface 112 (.agg [.int .i64 e]), recovered := true }]) (H.set n (.cells [.int .i64 e]))) : ACallD (env n0 w0 gl) 65 [.ref n 0] (.panicking (thrownR e)) H R := by
  refine ACallD.of_recover (d := none) (fun _ => 0) (fn := Tryz.f65) Tryz.func65 rfl rfl rfl rfl rfl (a2 := ⟨(.ref n 0 :: .iface 112 (.agg [.int .i64 e]) :: .top :: .top :: .iface 112 (.agg [.int .i64 e]) :: .top :: .top :: .top :: .top :: .top :: .top :: .top :: .top :: .top :: .top :: .top :: .top :: []), []⟩) rfl ?_
  intro hfit _
  have hlt := (List.getElem?_eq_some_iff.1 hn).1
  have hh : (∀ l, (H ++ l)[n]? = some (.cells [.int .i64 0])) ∧ (∀ l x, (H ++ l).set n x = H.set n x ++ l) := ⟨fun l => by rw [List.getElem?_append_left hlt, hn], fun l x => List.set_append_left _ _ hlt⟩
  repeat' (first | refine go ?_ | (refine br (fun hc => ?_) (fun hc => ?_) <;> try (exfalso; omega)) | fail)
  have hl : (H.set n (.cells [.int .i64 e])).length = H.length := List.length_set
  have hf : Fit H.length (H.set n (.cells [.int .i64 e])) := fun o ho => by
    rcases List.mem_or_eq_of_mem_set ho with h | h
    · exact hfit o h
    · subst h; rfl
  exact Out.drop _ (by rw [hl]; exact Nat.le_refl _) (by rw [hl]; exact hf) rfl h

/-- What is thrown in it is caught. -/
theorem rec_caught_t (f : FuncId) (first cap : List AV) {R : AE → List AO → Prop} (hdo : Fit H.length H → ACall (env n0 w0 gl) f (first ++ cap) (H ++ [.cells [.int .i64 0]]) (fun x H' => H'[H.length]? = some (.cells [.int .i64 0]) ∧
      ((x = .ret (.tup []) ∧ Out H.length R (.ret (.int .i64 0)) H') ∨ (∃ e, x = .panic (thrownR e) ∧ Out H.length R (.ret (.int .i64 e)) (H'.set H.length (.cells [.int .i64 e])))))) :
    AEnter (env n0 w0 gl) 31 [.fn f first cap] H R := by
  refine enter (md := fun _ => 0) Tryz.func31 (fun hfit hgl => ?_)
  repeat' (first | refine go ?_ | (refine br (fun hc => ?_) (fun hc => ?_) <;> try (exfalso; omega)) | fail)
  ((with_reducible apply wop_call); (· rfl); (· rfl); (· (simp only [AAct.ev, List.getD_cons_zero, List.getD_cons_succ, constAV, env_gl]; try exact rfl)); (· (simp only [evCallArgs, List.map_cons, List.map_nil, List.nil_append, List.append_nil, List.cons_append, Array.toList, List.toList_toArray, AAct.ev, List.getD_cons_zero, List.getD_cons_succ, constAV, env_gl]; try exact rfl)))
  refine (hdo hfit).mono ?_
  rintro x H' ⟨hc, ⟨rfl, hR⟩ | ⟨e, rfl, hR⟩⟩
  · have hsame : H'.set H.length (.cells [.int .i64 0]) = H' := by
      apply List.ext_getElem?
      intro i
      by_cases e : H.length = i
      · subst e; rw [List.getElem?_set_self (List.getElem?_eq_some_iff.1 hc).1, hc]
      · rw [List.getElem?_set_ne e]
    have hh := And.intro hc hsame
    repeat' (first | refine go ?_ | (refine br (fun hc => ?_) (fun hc => ?_) <;> try (exfalso; omega)) | fail)
    with_reducible apply fpost_ret_call
    refine rec_caught1_none _ ?_
    refine aleave_ret (v := .int .i64 0) ?_ hR
    simp (disch := omega) only [evResults, evResultsL, evResult, Tryz.results31, hc, go_sem, Int.reduceAdd, Int.reduceEq, Int.reduceLE, Int.reduceLT, Int.reduceNeg, Int.reduceSub, Int.reduceToNat, Nat.reduceAdd, Nat.reduceEqDiff, Nat.reduceLT, Nat.reduceLeDiff, Nat.reduceMul, Nat.reduceSub, reduceCtorEq, reduceIte]
  · repeat' (first | refine go ?_ | (refine br (fun hc => ?_) (fun hc => ?_) <;> try (exfalso; omega)) | fail)
    with_reducible apply fpost_panic_call
    refine rec_caught1_some _ e hc ?_
    refine aleave_ret (v := .int .i64 e) ?_ hR
    simp (disch := omega) only [evResults, evResultsL, evResult, Tryz.results31, List.getElem?_set_self (List.getElem?_eq_some_iff.1 hc).1, go_sem, Int.reduceAdd, Int.reduceEq, Int.reduceLE, Int.reduceLT, Int.reduceNeg, Int.reduceSub, Int.reduceToNat, Nat.reduceAdd, Nat.reduceEqDiff, Nat.reduceLT, Nat.reduceLeDiff, Nat.reduceMul, Nat.reduceSub, reduceCtorEq, reduceIte]


/-- A row filled from its beginning. -/
def fillL (s : List UInt8) (i : Nat) : List AV := bytesAV (s.take i) ++ List.replicate (s.length - i) (.int .u8 0)
theorem belowL_rep (n k : Nat) (q : IntKind) (m : Int) : belowL n (List.replicate k (.int q m)) = true := by
  induction k with
  | zero => rfl
  | succ k ih => simp [List.replicate_succ, belowL, AV.within, ih]
theorem belowL_fillL (n : Nat) (s : List UInt8) (i : Nat) : belowL n (fillL s i) = true := by
  unfold fillL
  rw [belowL_appM, belowL_bytesAV, belowL_rep]; rfl
theorem fillL_len {s : List UInt8} {i : Nat} (h : i ≤ s.length) : (fillL s i).length = s.length := by
  unfold fillL
  rw [List.length_append, bytesAV_len, List.length_take, List.length_replicate]; omega
theorem fillL_set {s : List UInt8} {i : Nat} (h : i < s.length) : List.take i (fillL s i) ++ (byteAV (s.getD i 0) :: List.drop (i + 1) (fillL s i)) = fillL s (i + 1) := by
  have hl : (bytesAV (s.take i)).length = i := by rw [bytesAV_len, List.length_take]; omega
  unfold fillL
  rw [List.take_append_of_le_length (by omega), List.take_of_length_le (by omega), List.drop_append, List.drop_eq_nil_of_le (by omega), hl, show i + 1 - i = 1 by omega, List.nil_append]
  rw [List.take_succ_eq_append_getElem h]
  have hr : List.drop 1 (List.replicate (s.length - i) (AV.int .u8 0)) = List.replicate (s.length - (i + 1)) (.int .u8 0) := by rw [List.drop_replicate]; congr 1
  rw [hr, show bytesAV (List.take i s ++ [s[i]]) = bytesAV (List.take i s) ++ [byteAV s[i]] from by unfold bytesAV; rw [List.map_append]; rfl, show s.getD i 0 = s[i] by simp [List.getD_eq_getElem?_getD, h], List.append_assoc]
  rfl
theorem fillL_all (s : List UInt8) : fillL s s.length = bytesAV s := by simp [fillL]
attribute [local simp] belowL_fillL belowL_rep
theorem be_get {k i : Nat} {n : Int} (h : i < k) : (be k n).getD i 0 = UInt8.ofNat ((n / 2 ^ (8 * (k - 1 - i))) % 256).toNat := by
  unfold be
  rw [List.getD_eq_getElem?_getD, List.getElem?_map, List.getElem?_range h]; rfl
theorem be_byte {k i e : Nat} {n : Int} (h : i < k) (he : e = 8 * (k - 1 - i)) : AV.int .u8 (IntKind.u8.wrap (n.fdiv (2 ^ e))) = byteAV ((be k n).getD i 0) := by
  rw [be_get h, byte_wrap, he, Int.fdiv_eq_ediv_of_nonneg _ (by exact Int.le_of_lt (Int.pow_pos (by decide)))]

theorem eight_e (n : Int) : AEnter (env n0 w0 gl) 68 [.int .i64 n] H (fun y H' => y = .ret (.sl 8 (bytesAV (be 8 n)) .ro) ∧ H' = H) := by
  have hl8 := be_len 8 n
  refine enter (md := fun t => if t = 5 then 2 else 0) Tryz.func68 (fun hfit hgl => ?_)
  repeat' (first | refine go ?_ | (refine br (fun hc => ?_) (fun hc => ?_) <;> try (exfalso; omega)) | fail)
  refine loop (fun i : Nat => (.int .i64 n :: .top :: .sl 0 [] .full :: .msl H.length 0 8 :: .top :: .top :: .top :: .int .i64 8 :: .int .i64 (i : Int) :: .top :: .top :: .top :: .top :: .top :: .top :: .top :: .top :: .top :: .top :: .top :: .top :: .top :: [])) (fun i => H ++ [.cells (fillL (be 8 n) i)]) (fun i => i ≤ 8) (fun i => 8 - i) 0 (by decide) ?_
  intro i hi
  by_cases hlt : i < 8
  · have hfl := fillL_len (s := be 8 n) (i := i) (by omega)
    rw [hl8] at hfl
    have hh := hfl
    repeat' (first | refine go ?_ | (refine br (fun hc => ?_) (fun hc => ?_) <;> try (exfalso; omega)) | fail)
    rw [be_byte (k := 8) (i := i) hlt (by omega), fillL_set (by omega)]
    exact again (i + 1) (by omega)
  · obtain rfl : i = 8 := by omega
    rw [show fillL (be 8 n) 8 = bytesAV (be 8 n) from by have := fillL_all (be 8 n); rwa [hl8] at this]
    refine gos ?_
    refine wseq_normal ?_
    refine gos ?_
    refine wseq_shift (Shift.mslKnow 3 1 rfl (getE H _ 0) (by decide) (by rw [bytesAV_len, hl8]; decide)) ?_
    simp only [List.set_cons_succ, List.set_cons_zero, setE0, List.drop_zero, List.take_of_length_le (show (bytesAV (be 8 n)).length ≤ 8 * 1 by rw [bytesAV_len, hl8]; decide)]
    repeat' (first | refine go ?_ | (refine br (fun hc => ?_) (fun hc => ?_) <;> try (exfalso; omega)) | fail)
    exact .junkd ⟨rfl, rfl⟩

theorem bytes_hd {s : List UInt8} {i : Nat} (h : i < s.length) : (List.take 1 (List.drop i (bytesAV s))).headD .top = .int .u8 ((s.getD i 0).toNat) := by
  rw [show List.drop i (bytesAV s) = bytesAV (List.drop i s) by simp [bytesAV], List.drop_eq_getElem_cons h]
  show byteAV _ = _
  simp [byteAV, List.getD_eq_getElem?_getD, h]
instance sign_t (c : UInt8) : Ctr (env n0 w0 gl) 200 [.int .u8 c.toNat] H True (.bool (tf (SignB c))) H := .of fun _ => by
  by_cases h : SignB c
  · rw [tf_true h]
    unfold SignB at h
    refine enter (md := fun _ => 0) Tryz.func200 (fun hfit hgl => ?_)
    repeat' (first | refine go ?_ | (refine br (fun hc => ?_) (fun hc => ?_) <;> try (exfalso; omega)) | fail)
    all_goals first
      | exact .now ⟨rfl, rfl⟩
      | (exfalso; omega)
      | exact .now ⟨by rw [decide_eq_true (by omega)], rfl⟩
  · rw [tf_false h]
    unfold SignB at h
    refine enter (md := fun _ => 0) Tryz.func200 (fun hfit hgl => ?_)
    repeat' (first | refine go ?_ | (refine br (fun hc => ?_) (fun hc => ?_) <;> try (exfalso; omega)) | fail)
    all_goals first
      | exact .now ⟨rfl, rfl⟩
      | (exfalso; omega)
      | exact .now ⟨by rw [decide_eq_false (by omega)], rfl⟩
instance may1_t (c : UInt8) : Ctr (env n0 w0 gl) 199 [.int .u8 c.toNat] H True (.bool (!tf (SignB c))) H := .of fun _ => by
  refine enter (md := fun _ => 0) Tryz.func199 (fun hfit hgl => ?_)
  repeat' (first | refine go ?_ | (refine br (fun hc => ?_) (fun hc => ?_) <;> try (exfalso; omega)) | fail)
  exact .now ⟨rfl, rfl⟩
/-- The first byte that may not stand in a hold's name. -/
noncomputable def signP (c : UInt8) : Bool := !tf (SignB c)
open Classical in
noncomputable def firstN (s : List UInt8) : Int := if ∀ i, i < s.length → SignB (s.getD i 0) then -1 else (s.findIdx signP : Nat)
theorem firstN_lt (s : List UInt8) : decide (firstN s < 0) = tf (∀ i, i < s.length → SignB (s.getD i 0)) := by
  unfold firstN
  split
  · rename_i h; rw [tf_true h]; rfl
  · rename_i h; rw [tf_false h]; simp
theorem firstN_at {s : List UInt8} {i : Nat} (h : i < s.length) (hn : ¬ SignB (s.getD i 0)) (hall : ∀ k, k < i → SignB (s.getD k 0)) : firstN s = i := by
  unfold firstN
  rw [if_neg (fun hh => hn (hh i h))]
  congr 1
  rw [List.findIdx_eq h]
  have e : ∀ k (hk : k < s.length), s[k] = s.getD k 0 := fun k hk => by simp [List.getD_eq_getElem?_getD, hk]
  refine ⟨?_, fun j hj => ?_⟩
  · rw [e i h]; unfold signP; rw [tf_false hn]; rfl
  · rw [e j (by omega)]; unfold signP; rw [tf_true (hall j hj)]; rfl
theorem firstB_e (s : List UInt8) (hs : s.length ≤ 1000000000) : AEnter (env n0 w0 gl) 198 [.sl s.length (bytesAV s) .ro, .fn 199 [] []] H (fun y H' => y = .ret (.int .i64 (firstN s)) ∧ H' = H) := by
  refine enter (md := fun _ => 0) Tryz.func198 (fun hfit hgl => ?_)
  repeat' (first | refine go ?_ | (refine br (fun hc => ?_) (fun hc => ?_) <;> try (exfalso; omega)) | fail)
  refine loop0 (fun i : Nat => (.sl s.length (bytesAV s) .ro :: .fn 199 [] [] :: .top :: .top :: .int .i64 0 :: .top :: .top :: .sl s.length (bytesAV s) .ro :: .int .i64 s.length :: .int .i64 (i : Int) :: .top :: .top :: .top :: .top :: .top :: .top :: .top :: .top :: .top :: [])) (fun i => i ≤ s.length ∧ ∀ k, k < i → SignB (s.getD k 0)) (fun i => s.length - i) 0 ⟨Nat.zero_le _, fun k h => absurd h (Nat.not_lt_zero _)⟩ ?_
  rintro i ⟨hi, hall⟩
  by_cases hlt : i < s.length
  · by_cases hg : SignB (s.getD i 0)
    · have hh := And.intro (bytes_hd hlt) (tf_true hg)
      repeat' (first | refine go ?_ | (refine br (fun hc => ?_) (fun hc => ?_) <;> try (exfalso; omega)) | fail)
      refine again (i + 1) ⟨by omega, fun k hk => ?_⟩ (by omega)
      rcases Nat.lt_succ_iff_lt_or_eq.1 hk with h | h
      · exact hall k h
      · subst h; exact hg
    · have hh := And.intro (bytes_hd hlt) (tf_false hg)
      rw [firstN_at hlt hg hall]
      repeat' (first | refine go ?_ | (refine br (fun hc => ?_) (fun hc => ?_) <;> try (exfalso; omega)) | fail)
      exact .now ⟨rfl, rfl⟩
  · obtain rfl : i = s.length := by omega
    rw [show firstN s = -1 from by unfold firstN; rw [if_pos hall]]
    repeat' (first | refine go ?_ | (refine br (fun hc => ?_) (fun hc => ?_) <;> try (exfalso; omega)) | fail)
    exact .now ⟨rfl, rfl⟩
instance hold_may_t (name who : List UInt8) : Ctr (env n0 w0 gl) 166 [.agg [.str name, .str who]] H (name.length ≤ 1000000000 ∧ who.length ≤ 1000000000) (.bool (tf (HoldOk name who))) H := .of fun ⟨hn, hw⟩ => by
  have hk : ∀ H, Ctr (env n0 w0 gl) 198 [.sl name.length (bytesAV name) .ro, .fn 199 [] []] H True (.int .i64 (firstN name)) H := fun H => .of fun _ => firstB_e name hn
  have hf := firstN_lt name
  have hne : (name = []) = (name.length = 0) := by rw [List.length_eq_zero_iff]
  have hwe : (who = []) = (who.length = 0) := by rw [List.length_eq_zero_iff]
  generalize firstN name = k at *
  by_cases h1 : name.length = 0
  · rw [tf_false (fun h => h.1 h1)]
    have hh := hne.trans (eq_true h1)
    refine enter (md := fun t => if t = 1 then 1 else 0) Tryz.func166 (fun hfit hgl => ?_)
    repeat' (first | refine go ?_ | (refine br (fun hc => ?_) (fun hc => ?_) <;> try (exfalso; omega)) | fail)
    all_goals exact .now ⟨rfl, rfl⟩
  · by_cases h2 : name.length ≤ 30
    · by_cases h3 : who.length = 0
      · have hq : tf (HoldOk name who) = tf (∀ i, i < name.length → SignB (name.getD i 0)) := tf_congr ⟨fun h => h.2.2.2, fun h => ⟨h1, h2, .inl h3, h⟩⟩
        rw [hq, ← hf]
        have hh := And.intro (hne.trans (eq_false h1)) (hwe.trans (eq_true h3))
        refine enter (md := fun t => if t = 1 then 1 else 0) Tryz.func166 (fun hfit hgl => ?_)
        repeat' (first | refine go ?_ | (refine br (fun hc => ?_) (fun hc => ?_) <;> try (exfalso; omega)) | fail)
        all_goals exact .now ⟨rfl, rfl⟩
      · by_cases h4 : MailboxOk who
        · have hq : tf (HoldOk name who) = tf (∀ i, i < name.length → SignB (name.getD i 0)) := tf_congr ⟨fun h => h.2.2.2, fun h => ⟨h1, h2, .inr h4, h⟩⟩
          rw [hq, ← hf]
          have hh := And.intro (hne.trans (eq_false h1)) (And.intro (hwe.trans (eq_false h3)) (tf_true h4))
          refine enter (md := fun t => if t = 1 then 1 else 0) Tryz.func166 (fun hfit hgl => ?_)
          repeat' (first | refine go ?_ | (refine br (fun hc => ?_) (fun hc => ?_) <;> try (exfalso; omega)) | fail)
          all_goals exact .now ⟨rfl, rfl⟩
        · rw [tf_false (fun h => h.2.2.1.elim h3 h4)]
          have hh := And.intro (hne.trans (eq_false h1)) (And.intro (hwe.trans (eq_false h3)) (tf_false h4))
          refine enter (md := fun t => if t = 1 then 1 else 0) Tryz.func166 (fun hfit hgl => ?_)
          repeat' (first | refine go ?_ | (refine br (fun hc => ?_) (fun hc => ?_) <;> try (exfalso; omega)) | fail)
          all_goals exact .now ⟨rfl, rfl⟩
    · rw [tf_false (fun h => h2 h.2.1)]
      have hh := hne.trans (eq_false h1)
      refine enter (md := fun t => if t = 1 then 1 else 0) Tryz.func166 (fun hfit hgl => ?_)
      repeat' (first | refine go ?_ | (refine br (fun hc => ?_) (fun hc => ?_) <;> try (exfalso; omega)) | fail)
      all_goals exact .now ⟨rfl, rfl⟩

instance find_nil_t (name : List UInt8) : Ctr (env n0 w0 gl) 167 [.sl 0 [] .full, .str name] H True (.int .i64 (-1)) H := .of fun _ => by
  have hk : ∀ a H, Ctr (env n0 w0 gl) 201 [.sl 0 [] .full, .fn 202 [] [a]] H True (.int .i64 (-1)) H := fun a H => .of fun _ => by
    refine enter (md := fun _ => 0) Tryz.func201 (fun hfit hgl => ?_)
    repeat' (first | refine go ?_ | (refine br (fun hc => ?_) (fun hc => ?_) <;> try (exfalso; omega)) | fail)
    refine loop0 (fun i : Nat => (.sl 0 [] .full :: .fn 202 [] [a] :: .top :: .top :: .int .i64 0 :: .top :: .top :: .sl 0 [] .full :: .int .i64 0 :: .int .i64 (i : Int) :: .top :: .top :: .top :: .top :: .top :: .top :: .top :: .top :: .top :: [])) (fun i => i = 0) (fun i => 0) 0 rfl ?_
    rintro i rfl
    repeat' (first | refine go ?_ | (refine br (fun hc => ?_) (fun hc => ?_) <;> try (exfalso; omega)) | fail)
    exact .now ⟨rfl, rfl⟩
  refine enter (md := fun _ => 0) Tryz.func167 (fun hfit hgl => ?_)
  repeat' (first | refine go ?_ | (refine br (fun hc => ?_) (fun hc => ?_) <;> try (exfalso; omega)) | fail)
  exact .junkd ⟨rfl, rfl⟩

/-- A hold placed where there is none. -/
instance place_t (name who : List UInt8) : Ctr (env n0 w0 gl) 123 [.sl 0 [] .full, .agg [.str name, .str who]] H (name.length ≤ 1000000000 ∧ who.length ≤ 1000000000) (.tup [.top, .int .i64 (if tf (HoldOk name who) then 0 else 140)]) H := .of fun ⟨hn, hw⟩ => by
  have hc : ∀ H, Ctr (env n0 w0 gl) 168 [.sl 0 [] .full] H True (.sl 0 [] (.at H.length 0)) (H ++ [.tail 2 0]) := fun H => .of fun _ => cloneH_e
  by_cases h : HoldOk name who
  · rw [tf_true h]
    have hh := tf_true h
    refine enter (md := fun t => if t = 3 then 1 else 0) Tryz.func123 (fun hfit hgl => ?_)
    refine gos ?_
    refine wseq_normal ?_
    refine gos ?_
    refine wseq_normal ?_
    refine gos ?_
    refine wseq_normal ?_
    refine gos ?_
    refine wseq_normal ?_
    refine gos ?_
    refine wseq_normal ?_
    refine w_seq ?_
    refine w_drawnP (fun _ => True) (by intro _ h; cases h) (by simp only [List.length_cons, List.length_nil, Nat.reduceAdd]; exact rfl) ?_
    refine goP ?_
    refine wseq_normal ?_
    repeat' (first | refine go ?_ | (refine br (fun hc => ?_) (fun hc => ?_) <;> try (exfalso; omega)) | fail)
    refine .weak (b := .tup [.top, .int .i64 0]) (fun g c h => tupW (ys := [.top, .int .i64 0]) (by rfl) (fun i c h => ?_) h) ?_
    · match i, h with
      | 0, _ => exact .top _
      | 1, h => exact h
      | _ + 2, _ => exact .top _
    · exact .junkd ⟨rfl, rfl⟩
  · rw [tf_false h]
    have hh := tf_false h
    refine enter (md := fun t => if t = 3 then 1 else 0) Tryz.func123 (fun hfit hgl => ?_)
    repeat' (first | refine go ?_ | (refine br (fun hc => ?_) (fun hc => ?_) <;> try (exfalso; omega)) | fail)
    refine .weak (b := .tup [.top, .int .i64 140]) (fun g c h => tupW (ys := [.top, .int .i64 140]) (by rfl) (fun i c h => ?_) h) ?_
    · match i, h with
      | 0, _ => exact .top _
      | 1, h => exact h
      | _ + 2, _ => exact .top _
    · exact .now ⟨rfl, rfl⟩
theorem rec_may_ok {name who : List UInt8} (hn : name.length ≤ 1000000000) (hw : who.length ≤ 1000000000) (h : HoldOk name who) : AEnter (env n0 w0 gl) 71 [.agg [.str name, .str who]] H (fun y H' => y = .ret (.tup []) ∧ H' = H) := by
  have hc : ∀ H, Ctr (env n0 w0 gl) 123 [.sl 0 [] .full, .agg [.str name, .str who]] H True (.tup [.top, .int .i64 0]) H := fun H => ⟨fun _ => by
    have := (place_t (n0 := n0) (w0 := w0) (gl := gl) (H := H) name who).call ⟨hn, hw⟩
    rwa [tf_true h] at this⟩
  refine enter (md := fun t => if t = 1 then 1 else 0) Tryz.func71 (fun hfit hgl => ?_)
  repeat' (first | refine go ?_ | (refine br (fun hc => ?_) (fun hc => ?_) <;> try (exfalso; omega)) | fail)
  all_goals exact .now ⟨rfl, rfl⟩
theorem rec_may_bad {name who : List UInt8} (hn : name.length ≤ 1000000000) (hw : who.length ≤ 1000000000) (h : ¬ HoldOk name who) : AEnter (env n0 w0 gl) 71 [.agg [.str name, .str who]] H (fun y H' => y = .panic (thrownR 160) ∧ H' = H) := by
  have hc : ∀ H, Ctr (env n0 w0 gl) 123 [.sl 0 [] .full, .agg [.str name, .str who]] H True (.tup [.top, .int .i64 140]) H := fun H => ⟨fun _ => by
    have := (place_t (n0 := n0) (w0 := w0) (gl := gl) (H := H) name who).call ⟨hn, hw⟩
    rwa [tf_false h] at this⟩
  refine enter (md := fun t => if t = 1 then 1 else 0) Tryz.func71 (fun hfit hgl => ?_)
  repeat' (first | refine go ?_ | (refine br (fun hc => ?_) (fun hc => ?_) <;> try (exfalso; omega)) | fail)
  all_goals exact .now ⟨rfl, rfl⟩
instance rec_may_if (name who : List UInt8) : CtrIf (env n0 w0 gl) 71 [.agg [.str name, .str who]] H (name.length ≤ 1000000000 ∧ who.length ≤ 1000000000) (HoldOk name who) (.ret (.tup [])) H (.panic (thrownR 160)) H := ⟨fun hp => by
  by_cases h : HoldOk name who
  · exact (rec_may_ok hp.1 hp.2 h).call.mono (fun x H' h2 => .inl ⟨h, h2⟩)
  · exact (rec_may_bad hp.1 hp.2 h).call.mono (fun x H' h2 => .inr ⟨h, h2⟩)⟩

end Go.Ab.Tryz

end

section
set_option linter.unusedSimpArgs false
set_option linter.unusedVariables false
set_option maxHeartbeats 4000000
set_option maxRecDepth 10000
namespace Go.Ab.Tryz
open Go Go.Ab Go.Proofs
attribute [local irreducible] W Wl Wop TrA WSeq WLoopS FPost DPost RPost WRound DK onEnd
attribute [local simp] belowL_bytesAV belowL_strsM belowL_appM belowL_fillL belowL_rep
variable {n0 : Nat} {w0 : World} {gl : Nat → List AV} {H : List AO}

/-- A seal, as it is seen. -/
def sealAV (seg count : Int) (root prev : List UInt8) : List AV := .int .i64 seg :: .int .i64 count :: (bytesAV root ++ bytesAV prev)
theorem put_left {A R : List AV} {v : AV} {i : Nat} (h : i < A.length) : List.take i (A ++ R) ++ v :: List.drop (i + 1) (A ++ R) = (List.take i A ++ v :: List.drop (i + 1) A) ++ R := by
  rw [List.take_append_of_le_length (by omega), List.drop_append_of_le_length (by omega)]; simp
theorem put_right {A R : List AV} {v : AV} {i j : Nat} (h : j = A.length + i) : List.take j (A ++ R) ++ v :: List.drop (j + 1) (A ++ R) = A ++ (List.take i R ++ v :: List.drop (i + 1) R) := by
  subst h
  rw [List.take_append, List.drop_append, List.take_of_length_le (by omega), List.drop_eq_nil_of_le (by omega), show A.length + i - A.length = i by omega, show A.length + i + 1 - A.length = i + 1 by omega]; simp

theorem sealBytes_e (seg count : Int) (root prev : List UInt8) (hr : root.length = 32) (hp : prev.length = 32) : AEnter (env n0 w0 gl) 69 [.agg (sealAV seg count root prev)] H (fun y H' => y = .ret (.sl 72 (bytesAV (be 4 seg ++ (be 4 count ++ (root ++ prev)))) .ro) ∧ H' = H) := by
  have hs4 := be_len 4 seg
  have hc4 := be_len 4 count
  have r32 : ∀ X, List.take 32 (bytesAV root ++ X) = bytesAV root := fun X => by rw [List.take_append_of_le_length (by rw [bytesAV_len, hr]; decide), List.take_of_length_le (by rw [bytesAV_len, hr]; decide)]
  have d32 : ∀ X, List.drop 32 (bytesAV root ++ X) = X := fun X => by rw [List.drop_append, List.drop_eq_nil_of_le (by rw [bytesAV_len, hr]; decide), bytesAV_len, hr]; simp
  have p32 : List.take 32 (bytesAV prev) = bytesAV prev := List.take_of_length_le (by rw [bytesAV_len, hp]; decide)
  unfold sealAV
  have hh := And.intro hr (And.intro hp (And.intro r32 (And.intro d32 p32)))
  refine enter (md := fun t => if t = 1 then 1 else if t = 5 then 2 else 0) Tryz.func69 (fun hfit hgl => ?_)
  refine gos ?_
  refine wseq_normal ?_
  refine gos ?_
  refine wseq_shift (H2 := H ++ [.cells (fillL (be 4 seg) 0 ++ (fillL (be 4 count) 0 ++ List.replicate 64 (.int .u8 0)))]) Shift.refl ?_
  repeat' (first | refine go ?_ | (refine br (fun hc => ?_) (fun hc => ?_) <;> try (exfalso; omega)) | fail)
  refine loop (fun i : Nat => (.agg (.int .i64 seg :: .int .i64 count :: (bytesAV root ++ bytesAV prev)) :: .row (.int .i64 seg :: .int .i64 count :: (bytesAV root ++ bytesAV prev)) :: .sl 0 [] .full :: .msl H.length 0 8 :: .top :: .top :: .int .i64 (i : Int) :: .top :: .top :: .top :: .top :: .top :: .top :: .top :: .top :: .top :: .top :: .top :: .top :: .top :: .top :: .top :: .top :: .top :: .top :: .top :: .top :: .top :: .top :: .top :: .top :: .top :: .top :: .top :: .top :: .top :: .top :: .top :: [])) (fun i => H ++ [.cells (fillL (be 4 seg) i ++ (fillL (be 4 count) i ++ List.replicate 64 (.int .u8 0)))]) (fun i => i ≤ 4) (fun i => 4 - i) 0 (by decide) ?_
  intro i hi
  by_cases hlt : i < 4
  · have hf1 := fillL_len (s := be 4 seg) (i := i) (by omega)
    have hf2 := fillL_len (s := be 4 seg) (i := i + 1) (by omega)
    have hf3 := fillL_len (s := be 4 count) (i := i) (by omega)
    rw [hs4] at hf1 hf2
    rw [hc4] at hf3
    have hh := And.intro hf1 (And.intro hf2 (And.intro hf3 hh))
    refine gos ?_
    refine wseq_normal ?_
    refine gos ?_
    refine wseq_normal ?_
    refine gos ?_
    refine wseq_normal ?_
    refine gos ?_
    rw [be_byte (k := 4) (i := i) hlt (by omega), put_left (by omega), fillL_set (by omega)]
    refine wseq_normal ?_
    repeat' (first | refine go ?_ | (refine br (fun hc => ?_) (fun hc => ?_) <;> try (exfalso; omega)) | fail)
    rw [be_byte (k := 4) (i := i) hlt (by omega), put_right (A := fillL (be 4 seg) (i + 1)) (i := i) (by omega), put_left (by omega), fillL_set (by omega)]
    exact again (i + 1) (by omega)
  · obtain rfl : i = 4 := by omega
    rw [show fillL (be 4 seg) 4 = bytesAV (be 4 seg) from by have := fillL_all (be 4 seg); rwa [hs4] at this, show fillL (be 4 count) 4 = bytesAV (be 4 count) from by have := fillL_all (be 4 count); rwa [hc4] at this]
    have hb8 : (be 4 seg ++ be 4 count).length = 8 := by rw [List.length_append, hs4, hc4]
    have hk8 : List.take (8 * 1) (List.drop 0 (bytesAV (be 4 seg) ++ (bytesAV (be 4 count) ++ List.replicate 64 (AV.int .u8 0)))) = bytesAV (be 4 seg ++ be 4 count) := by
      have e : bytesAV (be 4 seg) ++ (bytesAV (be 4 count) ++ List.replicate 64 (AV.int .u8 0)) = bytesAV (be 4 seg ++ be 4 count) ++ List.replicate 64 (AV.int .u8 0) := by simp [bytesAV]
      rw [e, List.drop_zero, List.take_append_of_le_length (by rw [bytesAV_len, hb8]; decide), List.take_of_length_le (by rw [bytesAV_len, hb8]; decide)]
    have hcat : catL [(be 4 seg ++ be 4 count, .ro), (root, .ro), (prev, .ro)] = be 4 seg ++ (be 4 count ++ (root ++ prev)) := by simp [catL]
    have hcl : (be 4 seg ++ (be 4 count ++ (root ++ prev))).length = 72 := by simp only [List.length_append, hs4, hc4, hr, hp]
    have hC : ∀ H tok, Ctr (env n0 w0 gl) 67 [.sl 3 [.sl 8 (bytesAV (be 4 seg ++ be 4 count)) .ro, .sl 32 (bytesAV root) .ro, .sl 32 (bytesAV prev) .ro] tok] H True (.sl 72 (bytesAV (be 4 seg ++ (be 4 count ++ (root ++ prev)))) .ro) H := fun H tok => .of fun _ => by
      have := concat_e (n0 := n0) (w0 := w0) (gl := gl) (H := H) [(be 4 seg ++ be 4 count, .ro), (root, .ro), (prev, .ro)] tok (by show 3 ≤ _; decide) (by rw [hcat, hcl]; decide) (by rw [hcat, hcl]; decide)
      rw [hcat, hcl] at this
      simp only [partsAV, List.map_cons, List.map_nil, hb8, hr, hp, List.length_cons, List.length_nil, Nat.zero_add, Nat.reduceAdd] at this
      exact this
    refine gos ?_
    refine wseq_normal ?_
    refine gos ?_
    refine wseq_shift (Shift.mslKnow 3 1 rfl (getE H _ 0) (by decide) (by simp only [List.length_append, bytesAV_len, hs4, hc4, List.length_replicate]; decide)) ?_
    rw [hk8]
    simp only [List.set_cons_succ, List.set_cons_zero, setE0]
    generalize be 4 seg ++ (be 4 count ++ (root ++ prev)) = R at *
    generalize be 4 seg ++ be 4 count = S at *
    repeat' (first | refine go ?_ | (refine br (fun hc => ?_) (fun hc => ?_) <;> try (exfalso; omega)) | fail)
    exact .junkd ⟨rfl, rfl⟩

def zero32 : List UInt8 := List.replicate 32 0
/-- What some bytes are as a seal. -/
def SealB (b : List UInt8) : Prop := b.length = 72 ∧ 1 ≤ numF (b.take 4) ∧ numF (b.take 4) ≤ 999999
noncomputable def sealV (b : List UInt8) : AV := if tf (SealB b) then .tup [.agg (sealAV (numF (b.take 4)) (numF ((b.drop 4).take 4)) ((b.drop 8).take 32) (b.drop 40)), .int .i64 0] else .tup [.agg (sealAV 0 0 zero32 zero32), .int .i64 60]
theorem numF_take {s : List UInt8} {i : Nat} (h : i < s.length) : numF (s.take (i + 1)) = bitsOf .or .i64 (IntKind.i64.wrap (numF (s.take i) * 2 ^ 8)) ((s.getD i 0).toNat : Int) := by
  rw [List.take_succ_eq_append_getElem h, numF_snoc]; simp [List.getD_eq_getElem?_getD, h]
theorem sealParse_e (b : List UInt8) (hb : b.length ≤ 1000000000) : AEnter (env n0 w0 gl) 70 [.sl b.length (bytesAV b) .ro] H (fun y H' => y = .ret (sealV b) ∧ H' = H) := by
  by_cases h72 : b.length = 72
  · have hd4 : (b.drop 4).length = 68 := by rw [List.length_drop]; omega
    have hV : sealV b = if tf (1 ≤ numF (b.take 4) ∧ numF (b.take 4) ≤ 999999) then .tup [.agg (sealAV (numF (b.take 4)) (numF ((b.drop 4).take 4)) ((b.drop 8).take 32) (b.drop 40)), .int .i64 0] else .tup [.agg (sealAV 0 0 zero32 zero32), .int .i64 60] := by
      unfold sealV
      rw [show tf (SealB b) = tf (1 ≤ numF (b.take 4) ∧ numF (b.take 4) ≤ 999999) from tf_congr ⟨fun h => h.2, fun h => ⟨h72, h⟩⟩]
    rw [h72, hV]
    clear hV
    refine enter (md := fun _ => 0) Tryz.func70 (fun hfit hgl => ?_)
    refine gos ?_
    refine wseq_normal ?_
    refine gos ?_
    refine wseq_normal ?_
    refine gos ?_
    refine wseq_shift (H2 := H ++ [.cells (sealAV 0 0 zero32 zero32)]) Shift.refl ?_
    refine gos ?_
    refine wseq_shift (H2 := H ++ [.cells (sealAV 0 0 zero32 zero32), .cells (.int .i64 (numF (b.take 0)) :: .int .i64 (numF ((b.drop 4).take 0)) :: (bytesAV zero32 ++ bytesAV zero32))]) Shift.refl ?_
    have hz : zero32.length = 32 := rfl
    have hzf : bytesAV zero32 = List.replicate 32 (.int .u8 0) := rfl
    simp only [sealAV]
    generalize zero32 = Z at *
    repeat' (first | refine go ?_ | (refine br (fun hc => ?_) (fun hc => ?_) <;> try (exfalso; omega)) | fail)
    refine loop (fun i : Nat => (.sl 72 (bytesAV b) .ro :: .top :: .ref H.length 0 :: .int .i64 0 :: .ref (H.length + 1) 0 :: .top :: .top :: .top :: .top :: .top :: .int .i64 (i : Int) :: .top :: .top :: .top :: .top :: .top :: .top :: .top :: .top :: .top :: .top :: .top :: .top :: .top :: .top :: .top :: .top :: .top :: .top :: .top :: .top :: .top :: .top :: .top :: .top :: .top :: .top :: .top :: .top :: .top :: .top :: .top :: .top :: .top :: .top :: .top :: .top :: .top :: .top :: .top :: .top :: .top :: .top :: .top :: .top :: [])) (fun i => H ++ [.cells (.int .i64 0 :: .int .i64 0 :: (bytesAV Z ++ bytesAV Z)), .cells (.int .i64 (numF (b.take i)) :: .int .i64 (numF ((b.drop 4).take i)) :: (bytesAV Z ++ bytesAV Z))]) (fun i => i ≤ 4) (fun i => 4 - i) 0 (by decide) ?_
    intro i hi
    by_cases hlt : i < 4
    · have h1 := bytes_hd (s := b) (i := i) (by omega)
      have h2 := bytes_hd (s := b) (i := 4 + i) (by omega)
      have e1 := numF_take (s := b) (i := i) (by omega)
      have e2 := numF_take (s := b.drop 4) (i := i) (by omega)
      have e3 : (b.drop 4).getD i 0 = b.getD (4 + i) 0 := by simp [List.getD_eq_getElem?_getD]
      rw [e3] at e2
      have hw1 : IntKind.i64.wrap ((b.getD i 0).toNat : Int) = ((b.getD i 0).toNat : Int) := wrap_i64 (by omega) (by have := (b.getD i 0).toNat_lt; omega)
      have hw2 : IntKind.i64.wrap ((b.getD (4 + i) 0).toNat : Int) = ((b.getD (4 + i) 0).toNat : Int) := wrap_i64 (by omega) (by have := (b.getD (4 + i) 0).toNat_lt; omega)
      have hN : (4 + (i : Int)).toNat = 4 + i := by omega
      have hm : min 8 64 = 8 := rfl
      have hh := And.intro h1 (And.intro h2 (And.intro hw1 (And.intro hw2 (And.intro hN hm))))
      repeat' (first | refine go ?_ | (refine br (fun hc => ?_) (fun hc => ?_) <;> try (exfalso; omega)) | fail)
      rw [← e1, ← e2]
      exact again (i + 1) (by omega)
    · obtain rfl : i = 4 := by omega
      generalize hR1 : (b.drop 8).take 32 = R1
      generalize hR2 : b.drop 40 = R2
      have l1 : R1.length = 32 := by rw [← hR1, List.length_take, List.length_drop]; omega
      have l2 : R2.length = 32 := by rw [← hR2, List.length_drop]; omega
      have s1 : List.drop 8 (List.take 40 (bytesAV b)) = bytesAV R1 := by rw [← hR1]; simp [bytesAV, List.drop_take]
      have s2 : List.drop 40 (List.take 72 (bytesAV b)) = bytesAV R2 := by rw [← hR2, List.take_of_length_le (by rw [bytesAV_len]; omega)]; simp [bytesAV]
      have t1 : List.take 32 (bytesAV R1) = bytesAV R1 := List.take_of_length_le (by rw [bytesAV_len]; omega)
      have t2 : List.take 32 (bytesAV R2) = bytesAV R2 := List.take_of_length_le (by rw [bytesAV_len]; omega)
      have z1 : List.drop 32 (bytesAV Z ++ bytesAV Z) = bytesAV Z := by rw [List.drop_left' (by rw [bytesAV_len, hz])]
      have z2 : List.take 32 (bytesAV R1 ++ bytesAV Z) = bytesAV R1 := by rw [List.take_left' (by rw [bytesAV_len, l1])]
      have z3 : List.drop 64 (bytesAV R1 ++ bytesAV Z) = [] := List.drop_eq_nil_of_le (by rw [List.length_append, bytesAV_len, bytesAV_len]; omega)
      generalize numF (List.take 4 b) = sg at *
      generalize numF (List.take 4 (List.drop 4 b)) = ct at *
      by_cases hk : 1 ≤ sg ∧ sg ≤ 999999
      · rw [tf_true hk]
        have o1 : (bytesAV R1 ++ bytesAV R2).all AV.one = true := by rw [List.all_append]; simp [bytesAV, byteAV, AV.one]
        have o2 : (bytesAV R1 ++ bytesAV R2).length = 64 := by rw [List.length_append, bytesAV_len, bytesAV_len]; omega
        have o3 : (bytesAV Z ++ bytesAV Z).length = 64 := by rw [List.length_append, bytesAV_len]; omega
        have o4 : List.drop 64 (bytesAV Z ++ bytesAV Z) = [] := List.drop_eq_nil_of_le (by omega)
        have o5 : List.take 64 (bytesAV R1 ++ bytesAV R2) = bytesAV R1 ++ bytesAV R2 := List.take_of_length_le (by omega)
        have hh := And.intro o1 <| And.intro o2 <| And.intro o3 <| And.intro o4 <| And.intro o5 <| And.intro l1 (And.intro l2 (And.intro s1 (And.intro s2 (And.intro t1 (And.intro t2 (And.intro z1 (And.intro z2 (And.intro z3 hz))))))))
        refine gos ?_
        refine wseq_normal ?_
        refine gos ?_
        refine wseq_normal ?_
        refine w_seq ?_
        refine w_drawnP (fun _ => True) (by intro _ h; cases h) (by simp only [List.length_cons, List.length_nil, Nat.reduceAdd]; exact rfl) ?_
        refine goP ?_
        refine wseq_normal ?_
        repeat' (first | refine go ?_ | (refine br (fun hc => ?_) (fun hc => ?_) <;> try (exfalso; omega)) | fail)
        exact .junkd ⟨rfl, rfl⟩
      · rw [tf_false hk]
        have hh := And.intro l1 (And.intro l2 (And.intro s1 (And.intro s2 (And.intro t1 (And.intro t2 (And.intro z1 (And.intro z2 (And.intro z3 hz))))))))
        refine gos ?_
        refine wseq_normal ?_
        refine gos ?_
        refine wseq_normal ?_
        refine w_seq ?_
        refine w_drawnP (fun _ => True) (by intro _ h; cases h) (by simp only [List.length_cons, List.length_nil, Nat.reduceAdd]; exact rfl) ?_
        refine goP ?_
        refine wseq_normal ?_
        repeat' (first | refine go ?_ | (refine br (fun hc => ?_) (fun hc => ?_) <;> try (exfalso; omega)) | fail)
        all_goals
          refine .junkd ⟨?_, rfl⟩
          rw [hzf]; rfl
  · unfold sealV
    rw [tf_false (fun h => h72 h.1)]
    refine enter (md := fun _ => 0) Tryz.func70 (fun hfit hgl => ?_)
    repeat' (first | refine go ?_ | (refine br (fun hc => ?_) (fun hc => ?_) <;> try (exfalso; omega)) | fail)
    exact .junkd ⟨rfl, rfl⟩
end Go.Ab.Tryz

end

section
set_option linter.unusedSimpArgs false
set_option linter.unusedVariables false
set_option maxHeartbeats 8000000
set_option maxRecDepth 10000
namespace Go.Ab.Tryz
open Go Go.Ab Go.Proofs
attribute [local irreducible] W Wl Wop TrA WSeq WLoopS FPost DPost RPost WRound DK onEnd
attribute [local simp] belowL_bytesAV belowL_strsM belowL_appM belowL_fillL belowL_rep
variable {n0 : Nat} {w0 : World} {gl : Nat → List AV} {H : List AO}

theorem app_facts {l : List UInt8} (h : l.length = 32) : (∀ X, List.take 32 (bytesAV l ++ X) = bytesAV l) ∧ (∀ X, List.drop 32 (bytesAV l ++ X) = X) ∧ (∀ X, List.drop 33 (bytesAV l ++ X) = List.drop 1 X) ∧ (∀ X, List.drop 99 (bytesAV l ++ X) = List.drop 67 X) ∧
    (∀ X, List.drop 64 (bytesAV l ++ X) = List.drop 32 X) ∧ (∀ X, List.take 64 (bytesAV l ++ X) = bytesAV l ++ List.take 32 X) := by
  have hb : (bytesAV l).length = 32 := by rw [bytesAV_len, h]
  refine ⟨fun X => List.take_left' hb, fun X => List.drop_left' hb, fun X => ?_, fun X => ?_, fun X => ?_, fun X => ?_⟩
  all_goals (first | rw [List.drop_append, List.drop_eq_nil_of_le (by omega), hb, List.nil_append] | rw [List.take_append, List.take_of_length_le (by omega), hb])
structure RecA.Small (r : RecA) : Prop where
  leaf : r.leaf.length = 32
  root : r.root.length = 32
  prev : r.prev.length = 32
  msg : r.m.Small
  name : r.name.length ≤ 1000000000
  who : r.who.length ≤ 1000000000

/-- A record's facts for reckoning. -/
structure RecF (leaf root prev : List UInt8) : Prop where
  l1 : leaf.length = 32
  l2 : root.length = 32
  l3 : prev.length = 32
theorem recf (leaf root prev : List UInt8) (h1 : leaf.length = 32) (h2 : root.length = 32) (h3 : prev.length = 32) :
    leaf.length = 32 ∧ root.length = 32 ∧ prev.length = 32 ∧ (∀ X, List.take 32 (bytesAV leaf ++ X) = bytesAV leaf) ∧ (∀ X, List.drop 32 (bytesAV leaf ++ X) = X) ∧ (∀ X, List.drop 33 (bytesAV leaf ++ X) = List.drop 1 X) ∧ (∀ X, List.drop 99 (bytesAV leaf ++ X) = List.drop 67 X) ∧
    (∀ X, List.drop 64 (bytesAV root ++ X) = List.drop 32 X) ∧ (∀ X, List.take 64 (bytesAV root ++ X) = bytesAV root ++ List.take 32 X) ∧ (∀ X, List.take 32 (bytesAV prev ++ X) = bytesAV prev) ∧ (∀ X, List.drop 32 (bytesAV prev ++ X) = X) ∧ List.take 32 (bytesAV leaf) = bytesAV leaf := by
  obtain ⟨a1, a2, a3, a4, a5, a6⟩ := app_facts h1
  obtain ⟨b1, b2, b3, b4, b5, b6⟩ := app_facts h2
  obtain ⟨c1, c2, c3, c4, c5, c6⟩ := app_facts h3
  exact ⟨h1, h2, h3, a1, a2, a3, a4, b5, b6, c1, c2, List.take_of_length_le (by rw [bytesAV_len]; omega)⟩
theorem body1_ok [ht : Tab10 n0 w0] (r : RecA) (hr : r.Small) (hk : r.kind = 1) (hE : r.m.EncOk) : AEnter (env n0 w0 gl) 33 [.agg r.av] H (fun y H' => y = .ret (.sl r.bytes.length (bytesAV r.bytes) .ro) ∧ H' = H) := by
  have hb : r.bytes = r.m.enc := by unfold RecA.bytes; rw [if_pos hk]
  rw [hb]
  have hen : ∀ H, Ctr (env n0 w0 gl) 66 [.agg r.m.av] H True (.tup [.sl r.m.enc.length (bytesAV r.m.enc) .ro, .int .i64 0]) H := fun H => .of fun _ => encode_ok r.m hr.msg hE
  have hh := recf _ _ _ hr.leaf hr.root hr.prev
  generalize r.m.enc = en at *
  obtain ⟨kind, ⟨id, cls, fro, to, at_, body⟩, pid, leaf, pat, seg, count, root, prev, name, who⟩ := r
  simp only at hk hh
  subst hk
  simp only [RecA.av, Msg.av, List.cons_append, List.nil_append] at hen ⊢
  refine enter (md := fun t => if t = 1 then 1 else 0) Tryz.func33 (fun hfit hgl => ?_)
  repeat' (first | refine go ?_ | (refine br (fun hc => ?_) (fun hc => ?_) <;> try (exfalso; omega)) | fail)
  exact .now ⟨rfl, rfl⟩
theorem body1_bad [ht : Tab10 n0 w0] (r : RecA) (hr : r.Small) (hk : r.kind = 1) (hE : ¬ r.m.EncOk) : AEnter (env n0 w0 gl) 33 [.agg r.av] H (fun y H' => y = .panic (thrownR 150) ∧ H' = H) := by
  have hen : ∀ H, Ctr (env n0 w0 gl) 66 [.agg r.m.av] H True (.tup [.sl 0 [] .full, .int .i64 150]) H := fun H => .of fun _ => encode_bad r.m hr.msg hE
  have hh := recf _ _ _ hr.leaf hr.root hr.prev
  obtain ⟨kind, ⟨id, cls, fro, to, at_, body⟩, pid, leaf, pat, seg, count, root, prev, name, who⟩ := r
  simp only at hk hh
  subst hk
  simp only [RecA.av, Msg.av, List.cons_append, List.nil_append] at hen ⊢
  refine enter (md := fun t => if t = 1 then 1 else 0) Tryz.func33 (fun hfit hgl => ?_)
  repeat' (first | refine go ?_ | (refine br (fun hc => ?_) (fun hc => ?_) <;> try (exfalso; omega)) | fail)
  exact .now ⟨rfl, rfl⟩
theorem body2_ok (r : RecA) (hr : r.Small) (hk : r.kind = 2) (hE : 1 ≤ r.pid ∧ r.pid ≤ 1099511627776 ∧ 0 ≤ r.pat) : AEnter (env n0 w0 gl) 33 [.agg r.av] H (fun y H' => y = .ret (.sl r.bytes.length (bytesAV r.bytes) .ro) ∧ H' = H) := by
  have hb : r.bytes = be 8 r.pid ++ (be 8 r.pat ++ r.leaf) := by unfold RecA.bytes; rw [if_neg (by omega), if_pos hk]
  have hb48 : r.bytes.length = 48 := by rw [hb]; simp only [List.length_append, be_len, hr.leaf]
  have h8 : ∀ n H, Ctr (env n0 w0 gl) 68 [.int .i64 n] H True (.sl 8 (bytesAV (be 8 n)) .ro) H := fun n H => .of fun _ => eight_e n
  have hcat : catL [(be 8 r.pid, .ro), (be 8 r.pat, .ro), (r.leaf, .ro)] = r.bytes := by rw [hb]; simp [catL]
  have hC : ∀ H tok, Ctr (env n0 w0 gl) 67 [.sl 3 [.sl 8 (bytesAV (be 8 r.pid)) .ro, .sl 8 (bytesAV (be 8 r.pat)) .ro, .sl 32 (bytesAV r.leaf) .ro] tok] H True (.sl 48 (bytesAV r.bytes) .ro) H := fun H tok => .of fun _ => by
    have := concat_e (n0 := n0) (w0 := w0) (gl := gl) (H := H) [(be 8 r.pid, .ro), (be 8 r.pat, .ro), (r.leaf, .ro)] tok (by show 3 ≤ _; decide) (by rw [hcat, hb48]; decide) (by rw [hcat, hb48]; decide)
    rw [hcat, hb48] at this
    simp only [partsAV, List.map_cons, List.map_nil, be_len, hr.leaf, List.length_cons, List.length_nil, Nat.zero_add, Nat.reduceAdd] at this
    exact this
  rw [hb48]
  have hh := recf _ _ _ hr.leaf hr.root hr.prev
  clear hcat hb hb48
  generalize r.bytes = en at *
  obtain ⟨kind, ⟨id, cls, fro, to, at_, body⟩, pid, leaf, pat, seg, count, root, prev, name, who⟩ := r
  simp only at hk hh hE hC
  obtain ⟨e1, e2, e3⟩ := hE
  subst hk
  simp only [RecA.av, Msg.av, List.cons_append, List.nil_append]
  refine enter (md := fun t => if t = 1 then 1 else 0) Tryz.func33 (fun hfit hgl => ?_)
  repeat' (first | refine go ?_ | (refine br (fun hc => ?_) (fun hc => ?_) <;> try (exfalso; omega)) | fail)
  exact .now ⟨rfl, rfl⟩
theorem body2_bad (r : RecA) (hr : r.Small) (hk : r.kind = 2) (hE : ¬ (1 ≤ r.pid ∧ r.pid ≤ 1099511627776 ∧ 0 ≤ r.pat)) : AEnter (env n0 w0 gl) 33 [.agg r.av] H (fun y H' => y = .panic (thrownR 160) ∧ H' = H) := by
  have hh := recf _ _ _ hr.leaf hr.root hr.prev
  obtain ⟨kind, ⟨id, cls, fro, to, at_, body⟩, pid, leaf, pat, seg, count, root, prev, name, who⟩ := r
  simp only at hk hh hE
  subst hk
  simp only [RecA.av, Msg.av, List.cons_append, List.nil_append]
  by_cases e1 : 1 ≤ pid
  · by_cases e2 : pid ≤ 1099511627776
    · have e3 : ¬ 0 ≤ pat := fun h => hE ⟨e1, e2, h⟩
      refine enter (md := fun t => if t = 1 then 1 else 0) Tryz.func33 (fun hfit hgl => ?_)
      repeat' (first | refine go ?_ | (refine br (fun hc => ?_) (fun hc => ?_) <;> try (exfalso; omega)) | fail)
      exact .now ⟨rfl, rfl⟩
    · refine enter (md := fun t => if t = 1 then 1 else 0) Tryz.func33 (fun hfit hgl => ?_)
      repeat' (first | refine go ?_ | (refine br (fun hc => ?_) (fun hc => ?_) <;> try (exfalso; omega)) | fail)
      exact .now ⟨rfl, rfl⟩
  · refine enter (md := fun t => if t = 1 then 1 else 0) Tryz.func33 (fun hfit hgl => ?_)
    repeat' (first | refine go ?_ | (refine br (fun hc => ?_) (fun hc => ?_) <;> try (exfalso; omega)) | fail)
    exact .now ⟨rfl, rfl⟩

def sealS (seg count : Int) (root prev : List UInt8) : List UInt8 := be 4 seg ++ (be 4 count ++ (root ++ prev))
theorem sealS_parts {seg count : Int} {root prev : List UInt8} (h1 : root.length = 32) (h2 : prev.length = 32) :
    (sealS seg count root prev).length = 72 ∧ (sealS seg count root prev).take 4 = be 4 seg ∧ ((sealS seg count root prev).drop 4).take 4 = be 4 count ∧ ((sealS seg count root prev).drop 8).take 32 = root ∧ (sealS seg count root prev).drop 40 = prev := by
  have a := be_len 4 seg
  have b := be_len 4 count
  have d4 : (sealS seg count root prev).drop 4 = be 4 count ++ (root ++ prev) := List.drop_left' a
  have d8 : (sealS seg count root prev).drop 8 = root ++ prev := by rw [show (8 : Nat) = 4 + 4 from rfl, ← List.drop_drop, d4]; exact List.drop_left' b
  refine ⟨by simp only [sealS, List.length_append, a, b, h1, h2], List.take_left' a, ?_, ?_, ?_⟩
  · rw [d4]; exact List.take_left' b
  · rw [d8]; exact List.take_left' h1
  · rw [show (40 : Nat) = 8 + 32 from rfl, ← List.drop_drop, d8]; exact List.drop_left' h1
theorem sealV_of {seg count : Int} {root prev : List UInt8} (h1 : root.length = 32) (h2 : prev.length = 32) : sealV (sealS seg count root prev) = if tf (1 ≤ numF (be 4 seg) ∧ numF (be 4 seg) ≤ 999999) then .tup [.agg (sealAV (numF (be 4 seg)) (numF (be 4 count)) root prev), .int .i64 0] else .tup [.agg (sealAV 0 0 zero32 zero32), .int .i64 60] := by
  obtain ⟨a, b, c, d, e⟩ := sealS_parts (seg := seg) (count := count) h1 h2
  unfold sealV
  rw [b, c, d, e, show tf (SealB (sealS seg count root prev)) = tf (1 ≤ numF (be 4 seg) ∧ numF (be 4 seg) ≤ 999999) from tf_congr ⟨fun h => by rw [← b]; exact h.2, fun h => ⟨a, by rw [b]; exact h⟩⟩]

theorem body3_all (r : RecA) (hr : r.Small) (hk : r.kind = 3) : AEnter (env n0 w0 gl) 33 [.agg r.av] H (fun y H' => y = (if tf (SealOk r.seg r.count) then .ret (.sl 72 (bytesAV (sealS r.seg r.count r.root r.prev)) .ro) else .panic (thrownR 160)) ∧ H' = H) := by
  have hB : ∀ H, Ctr (env n0 w0 gl) 69 [.agg (.int .i64 r.seg :: .int .i64 r.count :: (bytesAV r.root ++ bytesAV r.prev))] H True (.sl 72 (bytesAV (sealS r.seg r.count r.root r.prev)) .ro) H := fun H => .of fun _ => sealBytes_e r.seg r.count r.root r.prev hr.root hr.prev
  have hP : ∀ H, Ctr (env n0 w0 gl) 70 [.sl 72 (bytesAV (sealS r.seg r.count r.root r.prev)) .ro] H True (sealV (sealS r.seg r.count r.root r.prev)) H := fun H => .of fun _ => by
    have := sealParse_e (n0 := n0) (w0 := w0) (gl := gl) (H := H) (sealS r.seg r.count r.root r.prev) (by rw [(sealS_parts hr.root hr.prev).1]; decide)
    rwa [(sealS_parts hr.root hr.prev).1] at this
  rw [sealV_of hr.root hr.prev] at hP
  have hh0 := recf _ _ _ hr.leaf hr.root hr.prev
  have hzl : zero32.length = 32 := rfl
  have hp32 : List.take 32 (bytesAV r.prev) = bytesAV r.prev := List.take_of_length_le (by rw [bytesAV_len, hr.prev]; decide)
  have o1 : (bytesAV r.root ++ bytesAV r.prev).all AV.one = true := by rw [List.all_append]; simp [bytesAV, byteAV, AV.one]
  have o2 : (bytesAV r.root ++ bytesAV r.prev).length = 64 := by rw [List.length_append, bytesAV_len, bytesAV_len, hr.root, hr.prev]
  have o5 : List.take 64 (bytesAV r.root ++ bytesAV r.prev) = bytesAV r.root ++ bytesAV r.prev := List.take_of_length_le (by omega)
  obtain ⟨r1, r2, _, _, _, _⟩ := app_facts hr.root
  have hh := And.intro r1 <| And.intro r2 <| And.intro o1 <| And.intro o2 <| And.intro o5 <| And.intro hp32 <| And.intro hzl hh0
  clear hh0
  unfold SealOk
  unfold sealAV at hP
  generalize numF (be 4 r.seg) = p at *
  generalize numF (be 4 r.count) = q at *
  generalize hS : sealS r.seg r.count r.root r.prev = S at *
  obtain ⟨kind, ⟨id, cls, fro, to, at_, body⟩, pid, leaf, pat, seg, count, root, prev, name, who⟩ := r
  simp only at hk hh hP hB ⊢
  clear o1 o2 o5 hp32 r1 r2
  subst hk
  simp only [RecA.av, Msg.av, List.cons_append, List.nil_append]
  by_cases h1 : 1 ≤ p ∧ p ≤ 999999
  · rw [tf_true h1] at hP
    simp only [if_true] at hP
    by_cases h2 : p = seg
    · by_cases h3 : q = count
      · rw [tf_true ⟨h2, h3, by omega, by omega⟩]
        subst h2; subst h3
        refine enter (md := fun t => if t = 1 then 1 else 0) Tryz.func33 (fun hfit hgl => ?_)
        repeat' (first | refine go ?_ | (refine br (fun hc => ?_) (fun hc => ?_) <;> try (exfalso; omega)) | fail)
        exact .junkd ⟨rfl, rfl⟩
      · rw [tf_false fun h => h3 h.2.1]
        subst h2
        have hh := And.intro h3 hh
        refine enter (md := fun t => if t = 1 then 1 else 0) Tryz.func33 (fun hfit hgl => ?_)
        repeat' (first | refine go ?_ | (refine br (fun hc => ?_) (fun hc => ?_) <;> try (exfalso; omega)) | fail)
        all_goals first
          | exact .junkd ⟨rfl, rfl⟩
          | exact hc.1.elim
    · rw [tf_false fun h => h2 h.1]
      have hh := And.intro h2 hh
      refine enter (md := fun t => if t = 1 then 1 else 0) Tryz.func33 (fun hfit hgl => ?_)
      repeat' (first | refine go ?_ | (refine br (fun hc => ?_) (fun hc => ?_) <;> try (exfalso; omega)) | fail)
      all_goals first
        | exact .junkd ⟨rfl, rfl⟩
        | exact hc.1.elim
  · rw [tf_false h1] at hP
    simp only [Bool.false_eq_true, if_false] at hP
    rw [tf_false fun h => h1 (by obtain ⟨a, b, c, d⟩ := h; omega)]
    have o3 : (bytesAV zero32 ++ bytesAV zero32).all AV.one = true := by rw [List.all_append]; simp [bytesAV, byteAV, AV.one]
    have o4 : (bytesAV zero32 ++ bytesAV zero32).length = 64 := by rw [List.length_append, bytesAV_len]; rfl
    have o6 : List.take 64 (bytesAV zero32 ++ bytesAV zero32) = bytesAV zero32 ++ bytesAV zero32 := List.take_of_length_le (by omega)
    have hh := And.intro o3 <| And.intro o4 <| And.intro o6 hh
    clear o3 o4 o6
    generalize zero32 = Z at *
    refine enter (md := fun t => if t = 1 then 1 else 0) Tryz.func33 (fun hfit hgl => ?_)
    repeat' (first | refine go ?_ | (refine br (fun hc => ?_) (fun hc => ?_) <;> try (exfalso; omega)) | fail)
    all_goals first
      | exact .junkd ⟨rfl, rfl⟩
      | exact hc.1.elim

theorem body4_ok [ht : Tab10 n0 w0] (r : RecA) (hr : r.Small) (hk : r.kind = 4) (hE : HoldOk r.name r.who) : AEnter (env n0 w0 gl) 33 [.agg r.av] H (fun y H' => y = .ret (.sl r.bytes.length (bytesAV r.bytes) .ro) ∧ H' = H) := by
  have hb : r.bytes = putL [r.name, r.who] := by unfold RecA.bytes; rw [if_neg (by omega), if_neg (by omega), if_neg (by omega), if_pos hk]
  have hpl : (putL [r.name, r.who]).length ≤ 140737488350000 := by
    have h1 := hr.name
    have h2 := hr.who
    have d1 := Lib.decDigits_length r.name.length
    have d2 := Lib.decDigits_length r.who.length
    have e1 : Lib.nDigits r.name.length ≤ 19 := nDigits_le (by omega) (by omega)
    have e2 : Lib.nDigits r.who.length ≤ 19 := nDigits_le (by omega) (by omega)
    simp only [putL, List.flatMap_cons, List.flatMap_nil, List.append_nil, List.length_append, putF_len]
    omega
  have hput : ∀ H tok, Ctr (env n0 w0 gl) 72 [.sl 2 [.sl r.name.length (bytesAV r.name) .ro, .sl r.who.length (bytesAV r.who) .ro] tok] H True (.sl (putL [r.name, r.who]).length (bytesAV (putL [r.name, r.who])) .ro) H := fun H tok => ⟨fun _ => by
    have := (put_t (n0 := n0) (w0 := w0) (gl := gl) (H := H) [(r.name, .ro), (r.who, .ro)] tok).call ⟨by show 2 ≤ _; decide, hpl⟩
    exact this⟩
  rw [hb]
  have hh := recf _ _ _ hr.leaf hr.root hr.prev
  have hn := hr.name
  have hw := hr.who
  clear hb hpl
  generalize putL [r.name, r.who] = en at *
  obtain ⟨kind, ⟨id, cls, fro, to, at_, body⟩, pid, leaf, pat, seg, count, root, prev, name, who⟩ := r
  simp only at hk hh hE hput hn hw
  subst hk
  simp only [RecA.av, Msg.av, List.cons_append, List.nil_append]
  refine enter (md := fun t => if t = 1 then 1 else 0) Tryz.func33 (fun hfit hgl => ?_)
  repeat' (first | refine go ?_ | (refine br (fun hc => ?_) (fun hc => ?_) <;> try (exfalso; omega)) | fail)
  all_goals first
    | exact .now ⟨rfl, rfl⟩
    | exact absurd hE (by assumption)
    | exact absurd (by assumption) hE
theorem body4_bad (r : RecA) (hr : r.Small) (hk : r.kind = 4) (hE : ¬ HoldOk r.name r.who) : AEnter (env n0 w0 gl) 33 [.agg r.av] H (fun y H' => y = .panic (thrownR 160) ∧ H' = H) := by
  have hh := recf _ _ _ hr.leaf hr.root hr.prev
  have hn := hr.name
  have hw := hr.who
  obtain ⟨kind, ⟨id, cls, fro, to, at_, body⟩, pid, leaf, pat, seg, count, root, prev, name, who⟩ := r
  simp only at hk hh hE hn hw
  subst hk
  simp only [RecA.av, Msg.av, List.cons_append, List.nil_append]
  refine enter (md := fun t => if t = 1 then 1 else 0) Tryz.func33 (fun hfit hgl => ?_)
  repeat' (first | refine go ?_ | (refine br (fun hc => ?_) (fun hc => ?_) <;> try (exfalso; omega)) | fail)
  all_goals first
    | exact .now ⟨rfl, rfl⟩
    | exact absurd hE (by assumption)
    | exact absurd (by assumption) hE
theorem body5_ok [ht : Tab10 n0 w0] (r : RecA) (hr : r.Small) (hk : r.kind = 5) (hE : HoldOk r.name []) : AEnter (env n0 w0 gl) 33 [.agg r.av] H (fun y H' => y = .ret (.sl r.bytes.length (bytesAV r.bytes) .ro) ∧ H' = H) := by
  have hb : r.bytes = putL [r.name] := by unfold RecA.bytes; rw [if_neg (by omega), if_neg (by omega), if_neg (by omega), if_neg (by omega)]
  have hpl : (putL [r.name]).length ≤ 140737488350000 := by
    have h1 := hr.name
    have d1 := Lib.decDigits_length r.name.length
    have e1 : Lib.nDigits r.name.length ≤ 19 := nDigits_le (by omega) (by omega)
    simp only [putL, List.flatMap_cons, List.flatMap_nil, List.append_nil, List.length_append, putF_len]
    omega
  have hput : ∀ H tok, Ctr (env n0 w0 gl) 72 [.sl 1 [.sl r.name.length (bytesAV r.name) .ro] tok] H True (.sl (putL [r.name]).length (bytesAV (putL [r.name])) .ro) H := fun H tok => ⟨fun _ => by
    have := (put_t (n0 := n0) (w0 := w0) (gl := gl) (H := H) [(r.name, .ro)] tok).call ⟨by show 1 ≤ _; decide, hpl⟩
    exact this⟩
  rw [hb]
  have hh := recf _ _ _ hr.leaf hr.root hr.prev
  have hn := hr.name
  clear hb hpl
  generalize putL [r.name] = en at *
  obtain ⟨kind, ⟨id, cls, fro, to, at_, body⟩, pid, leaf, pat, seg, count, root, prev, name, who⟩ := r
  simp only at hk hh hE hput hn
  subst hk
  simp only [RecA.av, Msg.av, List.cons_append, List.nil_append]
  refine enter (md := fun t => if t = 1 then 1 else 0) Tryz.func33 (fun hfit hgl => ?_)
  repeat' (first | refine go ?_ | (refine br (fun hc => ?_) (fun hc => ?_) <;> try (exfalso; omega)) | fail)
  all_goals first
    | exact .now ⟨rfl, rfl⟩
    | exact absurd hE (by assumption)
theorem body5_bad (r : RecA) (hr : r.Small) (hk : r.kind = 5) (hE : ¬ HoldOk r.name []) : AEnter (env n0 w0 gl) 33 [.agg r.av] H (fun y H' => y = .panic (thrownR 160) ∧ H' = H) := by
  have hh := recf _ _ _ hr.leaf hr.root hr.prev
  have hn := hr.name
  obtain ⟨kind, ⟨id, cls, fro, to, at_, body⟩, pid, leaf, pat, seg, count, root, prev, name, who⟩ := r
  simp only at hk hh hE hn
  subst hk
  simp only [RecA.av, Msg.av, List.cons_append, List.nil_append]
  refine enter (md := fun t => if t = 1 then 1 else 0) Tryz.func33 (fun hfit hgl => ?_)
  repeat' (first | refine go ?_ | (refine br (fun hc => ?_) (fun hc => ?_) <;> try (exfalso; omega)) | fail)
  all_goals first
    | exact .now ⟨rfl, rfl⟩
    | exact absurd (by assumption) hE
theorem body0_bad (r : RecA) (hr : r.Small) (hk : r.kind ≠ 1 ∧ r.kind ≠ 2 ∧ r.kind ≠ 3 ∧ r.kind ≠ 4 ∧ r.kind ≠ 5) : AEnter (env n0 w0 gl) 33 [.agg r.av] H (fun y H' => y = .panic (thrownR 160) ∧ H' = H) := by
  have hh0 := recf _ _ _ hr.leaf hr.root hr.prev
  obtain ⟨kind, ⟨id, cls, fro, to, at_, body⟩, pid, leaf, pat, seg, count, root, prev, name, who⟩ := r
  simp only at hk hh0
  obtain ⟨k1, k2, k3, k4, k5⟩ := hk
  have hh := And.intro k1 <| And.intro k2 <| And.intro k3 <| And.intro k4 <| And.intro k5 hh0
  simp only [RecA.av, Msg.av, List.cons_append, List.nil_append]
  refine enter (md := fun t => if t = 1 then 1 else 0) Tryz.func33 (fun hfit hgl => ?_)
  repeat' (first | refine go ?_ | (refine br (fun hc => ?_) (fun hc => ?_) <;> try (exfalso; omega)) | fail)
  all_goals exact .now ⟨rfl, rfl⟩

end Go.Ab.Tryz

end

section
set_option linter.unusedSimpArgs false
set_option linter.unusedVariables false
set_option maxHeartbeats 8000000
set_option maxRecDepth 10000
namespace Go.Ab.Tryz
open Go Go.Ab Go.Proofs
attribute [local irreducible] W Wl Wop TrA WSeq WLoopS FPost DPost RPost WRound DK onEnd
attribute [local simp] belowL_bytesAV belowL_strsM belowL_appM belowL_fillL belowL_rep
variable {n0 : Nat} {w0 : World} {gl : Nat → List AV} {H : List AO}

theorem recAV_len {r : RecA} (hr : r.Small) : r.av.length = 109 := by
  have h1 := hr.leaf
  have h2 := hr.root
  have h3 := hr.prev
  simp only [RecA.av, Msg.av, List.length_cons, List.length_append, bytesAV_len, List.length_nil, h1, h2, h3]
@[simp] theorem belowL_recAV (n : Nat) (r : RecA) : belowL n r.av = true := by
  simp [RecA.av, Msg.av, belowL, belowL_appM, belowL_bytesAV, AV.within, belowL_strsM]
theorem body_ok [ht : Tab10 n0 w0] (r : RecA) (hr : r.Small) (hE : r.Ok) : AEnter (env n0 w0 gl) 33 [.agg r.av] H (fun y H' => y = .ret (.sl r.bytes.length (bytesAV r.bytes) .ro) ∧ H' = H) := by
  rcases hE with ⟨hk, h⟩ | ⟨hk, h⟩ | ⟨hk, h⟩ | ⟨hk, h⟩ | ⟨hk, h⟩
  · exact body1_ok r hr hk h
  · exact body2_ok r hr hk h
  · have := body3_all (n0 := n0) (w0 := w0) (gl := gl) (H := H) r hr hk
    rw [tf_true h] at this
    have hb : r.bytes = sealS r.seg r.count r.root r.prev := by unfold RecA.bytes sealS; rw [if_neg (by omega), if_neg (by omega), if_pos hk]
    have h72 : r.bytes.length = 72 := by rw [hb]; exact (sealS_parts hr.root hr.prev).1
    rw [h72, hb]; exact this
  · exact body4_ok r hr hk h
  · exact body5_ok r hr hk h
theorem body_bad [ht : Tab10 n0 w0] (r : RecA) (hr : r.Small) (hE : ¬ r.Ok) : AEnter (env n0 w0 gl) 33 [.agg r.av] H (fun y H' => y = .panic (thrownR r.err) ∧ H' = H) := by
  by_cases k1 : r.kind = 1
  · have he : r.err = 150 := by unfold RecA.err; rw [if_pos k1]
    rw [he]
    exact body1_bad r hr k1 fun h => hE (.inl ⟨k1, h⟩)
  · have he : r.err = 160 := by unfold RecA.err; rw [if_neg k1]
    rw [he]
    by_cases k2 : r.kind = 2
    · exact body2_bad r hr k2 fun h => hE (.inr (.inl ⟨k2, h⟩))
    · by_cases k3 : r.kind = 3
      · have := body3_all (n0 := n0) (w0 := w0) (gl := gl) (H := H) r hr k3
        rw [tf_false fun h => hE (.inr (.inr (.inl ⟨k3, h⟩)))] at this
        exact this
      · by_cases k4 : r.kind = 4
        · exact body4_bad r hr k4 fun h => hE (.inr (.inr (.inr (.inl ⟨k4, h⟩))))
        · by_cases k5 : r.kind = 5
          · exact body5_bad r hr k5 fun h => hE (.inr (.inr (.inr (.inr ⟨k5, h⟩))))
          · exact body0_bad r hr ⟨k1, k2, k3, k4, k5⟩

theorem enc_cons {r : RecA} (h : r.Ok) : r.enc.length = 1 + r.bytes.length ∧ bytesAV r.enc = .int .u8 (IntKind.u8.wrap r.kind) :: bytesAV r.bytes := by
  have hk : 1 ≤ r.kind ∧ r.kind ≤ 5 := by
    rcases h with ⟨h, _⟩ | ⟨h, _⟩ | ⟨h, _⟩ | ⟨h, _⟩ | ⟨h, _⟩ <;> omega
  refine ⟨by unfold RecA.enc; rw [List.length_cons]; omega, ?_⟩
  rw [byte_wrap, show r.kind % 256 = r.kind by omega]; rfl
theorem recEnc1_e [ht : Tab10 n0 w0] (r : RecA) (hr : r.Small) (hbl : r.Ok → r.bytes.length ≤ 140737488350000) : AEnter (env n0 w0 gl) 32 [.ref H.length 0, .ref (H.length + 1) 0] (H ++ [.cells r.av, .cells [.sl 0 [] .full], .cells [.int .i64 0]])
    (fun y H' => (r.Ok ∧ y = .ret (.tup []) ∧ H' = H ++ [.cells r.av, .cells [.sl r.enc.length (bytesAV r.enc) (.at (H.length + 3) r.enc.length)], .cells [.int .i64 0], .tail 1 r.enc.length]) ∨ (¬ r.Ok ∧ y = .panic (thrownR r.err) ∧ H' = H ++ [.cells r.av, .cells [.sl 0 [] .full], .cells [.int .i64 0]])) := by
  have h1 := recAV_len hr
  have h2 : List.take 109 r.av = r.av := List.take_of_length_le (by omega)
  have h3 : (List.take 1 r.av).headD .top = .int .i64 r.kind := rfl
  have h4 : r.av.headD .top = .int .i64 r.kind := rfl
  have hh := And.intro h1 (And.intro h2 (And.intro h3 h4))
  by_cases hE : r.Ok
  · have hbl := hbl hE
    have hB : ∀ H, Ctr (env n0 w0 gl) 33 [.agg r.av] H True (.sl r.bytes.length (bytesAV r.bytes) .ro) H := fun H => .of fun _ => body_ok r hr hE
    refine enter (md := fun _ => 0) Tryz.func32 (fun hfit hgl => ?_)
    repeat' (first | refine go ?_ | (refine br (fun hc => ?_) (fun hc => ?_) <;> try (exfalso; omega)) | fail)
    obtain ⟨e1, e2⟩ := enc_cons hE
    rw [e1, e2]
    exact .now (.inl ⟨hE, rfl, rfl⟩)
  · have hB : ∀ H, CtrP (env n0 w0 gl) 33 [.agg r.av] H True (thrownR r.err) H := fun H => .of fun _ => body_bad r hr hE
    refine enter (md := fun _ => 0) Tryz.func32 (fun hfit hgl => ?_)
    repeat' (first | refine go ?_ | (refine br (fun hc => ?_) (fun hc => ?_) <;> try (exfalso; omega)) | fail)
    intro ts
    repeat' (first | refine go ?_ | (refine br (fun hc => ?_) (fun hc => ?_) <;> try (exfalso; omega)) | fail)
    exact .now (.inr ⟨hE, rfl, rfl⟩)

theorem recEncode_ok [ht : Tab10 n0 w0] (r : RecA) (hr : r.Small) (hbl : r.bytes.length ≤ 140737488350000) (hE : r.Ok) : AEnter (env n0 w0 gl) 11 [.agg r.av] H (fun y H' => y = .ret (.tup [.sl r.enc.length (bytesAV r.enc) .ro, .int .i64 0]) ∧ H' = H) := by
  have h1 := recEnc1_e (n0 := n0) (w0 := w0) (gl := gl) (H := H) r hr (fun _ => hbl)
  have hh := recAV_len hr
  have hen : r.enc.length = r.enc.length := rfl
  generalize r.enc = en at *
  refine enter (md := fun _ => 0) Tryz.func11 (fun hfit hgl => ?_)
  repeat' (first | refine go ?_ | (refine br (fun hc => ?_) (fun hc => ?_) <;> try (exfalso; omega)) | fail)
  ((with_reducible apply wop_call); (· rfl); (· rfl); (· (simp only [AAct.ev, List.getD_cons_zero, List.getD_cons_succ, constAV, env_gl]; try exact rfl)); (· (simp only [evCallArgs, List.map_cons, List.map_nil, List.nil_append, List.append_nil, List.cons_append, Array.toList, List.toList_toArray, AAct.ev, List.getD_cons_zero, List.getD_cons_succ, constAV, env_gl]; try exact rfl)))
  refine ((rec_caught_t (R := fun x H' => x = .ret (.int .i64 0) ∧ H' = H ++ [.cells r.av, .cells [.sl en.length (bytesAV en) (.at (H.length + 3) en.length)], .cells [.int .i64 0], .tail 1 en.length]) _ [] _ ?_).call).mono ?_
  · intro hf2
    rw [List.append_assoc]
    refine h1.call.mono ?_
    rintro x H' (⟨_, rfl, rfl⟩ | ⟨h, _⟩)
    · exact ⟨by simp, .inl ⟨rfl, .now ⟨rfl, rfl⟩⟩⟩
    · exact absurd hE h
  · rintro x H' ⟨rfl, rfl⟩
    repeat' (first | refine go ?_ | (refine br (fun hc => ?_) (fun hc => ?_) <;> try (exfalso; omega)) | fail)
    refine .weak (b := .tup [.sl en.length (bytesAV en) .ro, .int .i64 0]) (fun g c h => tupW (ys := [.sl en.length (bytesAV en) .ro, .int .i64 0]) (by rfl) (fun i c h => ?_) h) ?_
    · match i, h with
      | 0, h => exact slRo h
      | 1, h => exact h
      | _ + 2, _ => exact .top _
    · exact .junkd ⟨rfl, rfl⟩

theorem recEncode_bad [ht : Tab10 n0 w0] (r : RecA) (hr : r.Small) (hE : ¬ r.Ok) : AEnter (env n0 w0 gl) 11 [.agg r.av] H (fun y H' => y = .ret (.tup [.sl 0 [] .full, .int .i64 r.err]) ∧ H' = H) := by
  have h1 := recEnc1_e (n0 := n0) (w0 := w0) (gl := gl) (H := H) r hr (fun h => absurd h hE)
  have hh := recAV_len hr
  have he : r.err ≠ 0 := by unfold RecA.err; split <;> decide
  generalize r.err = er at *
  have hh := And.intro he hh
  refine enter (md := fun _ => 0) Tryz.func11 (fun hfit hgl => ?_)
  repeat' (first | refine go ?_ | (refine br (fun hc => ?_) (fun hc => ?_) <;> try (exfalso; omega)) | fail)
  ((with_reducible apply wop_call); (· rfl); (· rfl); (· (simp only [AAct.ev, List.getD_cons_zero, List.getD_cons_succ, constAV, env_gl]; try exact rfl)); (· (simp only [evCallArgs, List.map_cons, List.map_nil, List.nil_append, List.append_nil, List.cons_append, Array.toList, List.toList_toArray, AAct.ev, List.getD_cons_zero, List.getD_cons_succ, constAV, env_gl]; try exact rfl)))
  refine ((rec_caught_t (R := fun x H' => x = .ret (.int .i64 er) ∧ H' = H ++ [.cells r.av, .cells [.sl 0 [] .full], .cells [.int .i64 er]]) _ [] _ ?_).call).mono ?_
  · intro hf2
    rw [List.append_assoc]
    refine h1.call.mono ?_
    rintro x H' (⟨h, _⟩ | ⟨_, rfl, rfl⟩)
    · exact absurd h hE
    · exact ⟨by simp, .inr ⟨er, rfl, .now ⟨rfl, by simp⟩⟩⟩
  · rintro x H' ⟨rfl, rfl⟩
    repeat' (first | refine go ?_ | (refine br (fun hc => ?_) (fun hc => ?_) <;> try (exfalso; omega)) | fail)
    exact .junkd ⟨rfl, rfl⟩

/-- What is known of any record that comes in. -/
structure RecA.Big (r : RecA) : Prop where
  leaf : r.leaf.length = 32
  root : r.root.length = 32
  prev : r.prev.length = 32
  msg : r.m.Small
  body : r.m.body.length ≤ 9223372036854775807
  id0 : -9223372036854775808 ≤ r.m.id
  id1 : r.m.id ≤ 9223372036854775807
  at0 : -9223372036854775808 ≤ r.m.at_
  name : r.name.length ≤ 9223372036854775807
  who : r.who.length ≤ 9223372036854775807
  pid : r.pid ≤ 9223372036854775807
  pat : r.pat ≤ 9223372036854775807

end Go.Ab.Tryz

end
