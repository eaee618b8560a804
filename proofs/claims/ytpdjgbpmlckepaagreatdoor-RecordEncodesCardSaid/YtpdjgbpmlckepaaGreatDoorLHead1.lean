/- Walks: head's ground. -/
import Derived.Test.YtpdjgbpmlckepaaGreatDoorLStr
set_option linter.unusedSimpArgs false
set_option linter.unusedVariables false
set_option maxHeartbeats 2000000
set_option maxRecDepth 4000
namespace Go.Ab.Tryz
open Go Go.Ab Go.Proofs
attribute [local irreducible] W Wl Wop TrA WSeq WLoopS FPost DPost RPost WRound DK onEnd
variable {n0 : Nat} {w0 : World} {gl : Nat → List AV} {H : List AO}

/-- What is thrown. -/
def thrownH (e : Int) : List APanic := [{ v := .iface 177 (.agg [.int .i64 e]) }]

instance head_must_true (e : Int) : Ctr (env n0 w0 gl) 88 [.bool true, .int .i64 e] H True (.tup []) H := .of fun _ => by
  refine enter (md := fun _ => 0) Tryz.func88 (fun hfit hgl => ?_)
  repeat' (first | refine go ?_ | (refine br (fun hc => ?_) (fun hc => ?_) <;> try (exfalso; omega)) | fail)
  exact .now ⟨rfl, rfl⟩
instance head_must_false (e : Int) : CtrP (env n0 w0 gl) 88 [.bool false, .int .i64 e] H True (thrownH e) H := .of fun _ => by
  refine enter (md := fun _ => 0) Tryz.func88 (fun hfit hgl => ?_)
  repeat' (first | refine go ?_ | (refine br (fun hc => ?_) (fun hc => ?_) <;> try (exfalso; omega)) | fail)
  exact .now ⟨rfl, rfl⟩
instance head_must_if (b : Bool) (e : Int) : CtrIf (env n0 w0 gl) 88 [.bool b, .int .i64 e] H True (b = true) (.ret (.tup [])) H (.panic (thrownH e)) H := ⟨fun _ => by
  cases b with
  | true => exact ((head_must_true e).call trivial).mono fun x H' h => .inl ⟨rfl, h⟩
  | false => exact ((head_must_false e).call trivial).mono fun x H' h => .inr ⟨by simp, h⟩⟩

/-- The deferred function: nothing was thrown. -/
theorem head_caught1_none (n : Nat) {R : AE → AMode → List AO → Prop} (h : R (.ret (.tup [])) .returning H) : ACallD (env n0 w0 gl) 137 [.ref n 0] .returning H R := by
  refine ACallD.of_recover (d := none) (fun _ => 0) (fn := Tryz.f137) Tryz.func137 rfl rfl rfl rfl rfl (a2 := ⟨(.ref n 0 :: .nili :: .top :: .top :: .nili :: .top :: .top :: .top :: .top :: .top :: .top :: .top :: .top :: .top :: .top :: .top :: .top :: []), []⟩) rfl ?_
  intro hfit _
  repeat' (first | refine go ?_ | (refine br (fun hc => ?_) (fun hc => ?_) <;> try (exfalso; omega)) | fail)
  exact .now h

theorem head_caught1_some (n : Nat) (e : Int) {R : AE → AMode → List AO → Prop} (hn : H[n]? = some (.cells [.int .i64 0])) (h : R (.ret (.tup [])) (.panicking [{ v := .iface 177 (.agg [.int .i64 e]), recovered := true }]) (H.set n (.cells [.int .i64 e]))) : ACallD (env n0 w0 gl) 137 [.ref n 0] (.panicking (thrownH e)) H R := by
  refine ACallD.of_recover (d := none) (fun _ => 0) (fn := Tryz.f137) Tryz.func137 rfl rfl rfl rfl rfl (a2 := ⟨(.ref n 0 :: .iface 177 (.agg [.int .i64 e]) :: .top :: .top :: .iface 177 (.agg [.int .i64 e]) :: .top :: .top :: .top :: .top :: .top :: .top :: .top :: .top :: .top :: .top :: .top :: .top :: []), []⟩) rfl ?_
  intro hfit _
  have hlt := (List.getElem?_eq_some_iff.1 hn).1
  have hh : (∀ l, (H ++ l)[n]? = some (.cells [.int .i64 0])) ∧ (∀ l x, (H ++ l).set n x = H.set n x ++ l) := ⟨fun l => by rw [List.getElem?_append_left hlt, hn], fun l x => List.set_append_left _ _ hlt⟩
  repeat' (first | refine go ?_ | (refine br (fun hc => ?_) (fun hc => ?_) <;> try (exfalso; omega)) | fail)
  have hl : (H.set n (.cells [.int .i64 e])).length = H.length := List.length_set
  have hf : Fit H.length (H.set n (.cells [.int .i64 e])) := fun o ho => by
    rcases List.mem_or_eq_of_mem_set ho with h | h
    · exact hfit o h
    · subst h; rfl
  exact Out.drop _ (by rw [hl]; exact Nat.le_refl _) (by rw [hl]; exact hf) rfl h

/-- What is thrown in it is caught. -/
theorem head_caught_t (f : FuncId) (first cap : List AV) {R : AE → List AO → Prop} (hdo : Fit H.length H → ACall (env n0 w0 gl) f (first ++ cap) (H ++ [.cells [.int .i64 0]]) (fun x H' => H'[H.length]? = some (.cells [.int .i64 0]) ∧
      ((x = .ret (.tup []) ∧ Out H.length R (.ret (.int .i64 0)) H') ∨ (∃ e, x = .panic (thrownH e) ∧ Out H.length R (.ret (.int .i64 e)) (H'.set H.length (.cells [.int .i64 e])))))) :
    AEnter (env n0 w0 gl) 85 [.fn f first cap] H R := by
  refine enter (md := fun _ => 0) Tryz.func85 (fun hfit hgl => ?_)
  repeat' (first | refine go ?_ | (refine br (fun hc => ?_) (fun hc => ?_) <;> try (exfalso; omega)) | fail)
  ((with_reducible apply wop_call); (· rfl); (· rfl); (· (simp only [AAct.ev, List.getD_cons_zero, List.getD_cons_succ, constAV, env_gl]; try exact rfl)); (· (simp only [evCallArgs, List.map_cons, List.map_nil, List.nil_append, List.append_nil, List.cons_append, Array.toList, List.toList_toArray, AAct.ev, List.getD_cons_zero, List.getD_cons_succ, constAV, env_gl]; try exact rfl)))
  refine (hdo hfit).mono ?_
  rintro x H' ⟨hc, ⟨rfl, hR⟩ | ⟨e, rfl, hR⟩⟩
  · have hsame : H'.set H.length (.cells [.int .i64 0]) = H' := by
      apply List.ext_getElem?
      intro i
      by_cases e : H.length = i
      · subst e; rw [List.getElem?_set_self (List.getElem?_eq_some_iff.1 hc).1, hc]
      · rw [List.getElem?_set_ne e]
    have hh := And.intro hc hsame
    repeat' (first | refine go ?_ | (refine br (fun hc => ?_) (fun hc => ?_) <;> try (exfalso; omega)) | fail)
    with_reducible apply fpost_ret_call
    refine head_caught1_none _ ?_
    refine aleave_ret (v := .int .i64 0) ?_ hR
    simp (disch := omega) only [evResults, evResultsL, evResult, Tryz.results85, hc, go_sem, Int.reduceAdd, Int.reduceEq, Int.reduceLE, Int.reduceLT, Int.reduceNeg, Int.reduceSub, Int.reduceToNat, Nat.reduceAdd, Nat.reduceEqDiff, Nat.reduceLT, Nat.reduceLeDiff, Nat.reduceMul, Nat.reduceSub, reduceCtorEq, reduceIte]
  · repeat' (first | refine go ?_ | (refine br (fun hc => ?_) (fun hc => ?_) <;> try (exfalso; omega)) | fail)
    with_reducible apply fpost_panic_call
    refine head_caught1_some _ e hc ?_
    refine aleave_ret (v := .int .i64 e) ?_ hR
    simp (disch := omega) only [evResults, evResultsL, evResult, Tryz.results85, List.getElem?_set_self (List.getElem?_eq_some_iff.1 hc).1, go_sem, Int.reduceAdd, Int.reduceEq, Int.reduceLE, Int.reduceLT, Int.reduceNeg, Int.reduceSub, Int.reduceToNat, Nat.reduceAdd, Nat.reduceEqDiff, Nat.reduceLT, Nat.reduceLeDiff, Nat.reduceMul, Nat.reduceSub, reduceCtorEq, reduceIte]

/-- A byte that may stand in a name. -/
def nameB (c : UInt8) : Prop := 32 < c.toNat ∧ c.toNat < 127 ∧ c.toNat ≠ 58
/-- Whether a text is a field's name. -/
def NameOk (s : List UInt8) : Prop := (∀ i, i < s.length → nameB (s.getD i 0)) ∧ s.length ≠ 0 ∧ s.length ≤ 100

instance name_t (s : List UInt8) : Ctr (env n0 w0 gl) 109 [.str s] H (s.length ≤ 9223372036854775807) (.bool (tf (NameOk s))) H := .of fun hs => by
  refine enter (md := fun _ => 0) Tryz.func109 (fun hfit hgl => ?_)
  repeat' (first | refine go ?_ | (refine br (fun hc => ?_) (fun hc => ?_) <;> try (exfalso; omega)) | fail)
  refine loop0 (fun i : Nat => (.str s :: .top :: .bool false :: .top :: .top :: .int .i64 s.length :: .int .i64 (i : Int) :: .top :: .top :: .top :: .top :: .top :: .top :: .top :: .top :: .top :: .top :: .top :: .top :: .top :: .top :: .top :: .top :: .top :: .top :: .top :: .top :: .top :: .top :: .top :: .top :: .top :: .top :: [])) (fun i => i ≤ s.length ∧ ∀ k, k < i → nameB (s.getD k 0)) (fun i => s.length - i) 0 ⟨Nat.zero_le _, fun k h => absurd h (Nat.not_lt_zero _)⟩ ?_
  rintro i ⟨hi, hall⟩
  repeat' (first | refine go ?_ | (refine br (fun hc => ?_) (fun hc => ?_) <;> try (exfalso; omega)) | fail)
  all_goals first
    | (refine again (i + 1) ⟨by omega, fun k hk => ?_⟩
       rcases Nat.lt_succ_iff_lt_or_eq.1 hk with h | h
       · exact hall k h
       · subst h; exact ⟨by omega, by omega, by omega⟩)
    | (refine .now ⟨?_, rfl⟩
       rw [tf_false (p := NameOk s) (fun h => by obtain ⟨h1, h2, h3⟩ := h.1 i (by omega); omega)])
    | (refine .now ⟨?_, rfl⟩
       rw [tf_false (p := NameOk s) (fun h => by have := h.2; omega)])
    | (refine .now ⟨?_, rfl⟩
       congr 2
       rw [tf_decide]
       exact tf_congr ⟨fun h => ⟨fun k hk => hall k (by omega), by omega, by omega⟩, fun h => by have := h.2.2; omega⟩)

instance ref08_name_t (s : List UInt8) : Ctr (env n0 w0 gl) 99 [.str s] H (s.length ≤ 9223372036854775807) (.bool (tf (NameOk s))) H := .of fun hs => by
  refine enter (md := fun _ => 0) Tryz.func99 (fun hfit hgl => ?_)
  repeat' (first | refine go ?_ | (refine br (fun hc => ?_) (fun hc => ?_) <;> try (exfalso; omega)) | fail)
  refine loop0 (fun i : Nat => (.str s :: .top :: .bool false :: .int .i64 (i : Int) :: .top :: .top :: .top :: .top :: .top :: .top :: .top :: .top :: .top :: .top :: .top :: .top :: .top :: .top :: .top :: .top :: .top :: .top :: .top :: .top :: .top :: .top :: .top :: .top :: .top :: .top :: .top :: .top :: .top :: .top :: [])) (fun i => i ≤ s.length ∧ ∀ k, k < i → nameB (s.getD k 0)) (fun i => s.length - i) 0 ⟨Nat.zero_le _, fun k h => absurd h (Nat.not_lt_zero _)⟩ ?_
  rintro i ⟨hi, hall⟩
  repeat' (first | refine go ?_ | (refine br (fun hc => ?_) (fun hc => ?_) <;> try (exfalso; omega)) | fail)
  all_goals first
    | (refine again (i + 1) ⟨by omega, fun k hk => ?_⟩
       rcases Nat.lt_succ_iff_lt_or_eq.1 hk with h | h
       · exact hall k h
       · subst h; exact ⟨by omega, by omega, by omega⟩)
    | (refine .now ⟨?_, rfl⟩
       rw [tf_false (p := NameOk s) (fun h => by obtain ⟨h1, h2, h3⟩ := h.1 i (by omega); omega)])
    | (refine .now ⟨?_, rfl⟩
       rw [tf_false (p := NameOk s) (fun h => by have := h.2; omega)])
    | (refine .now ⟨?_, rfl⟩
       congr 2
       rw [tf_decide]
       exact tf_congr ⟨fun h => ⟨fun k hk => hall k (by omega), by omega, by omega⟩, fun h => by have := h.2.2; omega⟩)

/-- A byte made small. -/
def lowB (c : UInt8) : UInt8 := if 65 ≤ c.toNat ∧ c.toNat ≤ 90 then c + 32 else c
/-- A text made small up to a place. -/
def lowTo (s : List UInt8) (i : Nat) : List UInt8 := (s.take i).map lowB ++ s.drop i
theorem lowTo_len (s : List UInt8) (i : Nat) : (lowTo s i).length = s.length := by simp [lowTo]; omega
theorem lowTo_get {s : List UInt8} {i : Nat} (h : i < s.length) : (bytesAV (lowTo s i)).getD i .top = .int .u8 (s.getD i 0).toNat := by
  simp [bytesAV, lowTo, byteAV, List.getD_eq_getElem?_getD, List.getElem?_append_right, h, Nat.min_eq_left (Nat.le_of_lt h)]
theorem lowTo_succ {s : List UInt8} {i : Nat} (h : i < s.length) : lowTo s (i + 1) = (lowTo s i).set i (lowB (s.getD i 0)) := by
  unfold lowTo
  rw [List.set_append_right _ _ (by simp; omega), List.take_add_one, List.map_append, List.append_assoc]
  congr 1
  have e : i - ((s.take i).map lowB).length = 0 := by simp; omega
  rw [e, List.drop_eq_getElem_cons h]
  simp only [List.set_cons_zero]
  simp [h]
theorem lowTo_same {s : List UInt8} {i : Nat} (h : i < s.length) (hc : ¬ (65 ≤ (s.getD i 0).toNat ∧ (s.getD i 0).toNat ≤ 90)) : lowTo s (i + 1) = lowTo s i := by
  rw [lowTo_succ h]
  have : lowB (s.getD i 0) = s.getD i 0 := by unfold lowB; rw [if_neg hc]
  rw [this]
  apply List.ext_getElem?
  intro k
  by_cases e : i = k
  · subst e
    rw [List.getElem?_set_self (by rw [lowTo_len]; exact h)]
    simp [lowTo, List.getElem?_append_right, h, Nat.min_eq_left (Nat.le_of_lt h)]
  · rw [List.getElem?_set_ne e]

theorem bytesAV_set {xs : List UInt8} {i : Nat} {c : UInt8} (h : i < xs.length) : bytesAV (xs.set i c) = (bytesAV xs).take i ++ .int .u8 c.toNat :: (bytesAV xs).drop (i + 1) := by
  unfold bytesAV
  rw [List.map_set, List.set_eq_take_append_cons_drop, if_pos (by simpa using h)]; rfl
theorem lowB_or (c : UInt8) (h1 : 65 ≤ c.toNat) (h2 : c.toNat ≤ 90) : bitsOf BinOp.or .u8 (c.toNat : Int) 32 = ((lowB c).toNat : Int) := by
  have key : ∀ n, n < 256 → 65 ≤ n → n ≤ 90 → bitsOf BinOp.or .u8 ((n : Nat) : Int) 32 = ((UInt8.ofNat n + 32).toNat : Int) := by decide +kernel
  have := key c.toNat (by have := c.toNat_lt; omega) h1 h2
  rw [this]
  unfold lowB
  rw [if_pos ⟨h1, h2⟩, UInt8.ofNat_toNat]

end Go.Ab.Tryz
