/- Walks: a message and its envelope in one. -/
import Derived.Test.YtpdjgbpmlckepaaDoorLMime1
import Derived.Test.YtpdjgbpmlckepaaDoorLRound
import Derived.Test.YtpdjgbpmlckepaaDoorLMail
import Derived.Test.YtpdjgbpmlckepaaDoorLRefCheck
import Derived.Test.YtpdjgbpmlckepaaDoorFrE
set_option linter.unusedSimpArgs false
set_option linter.unusedVariables false
set_option maxHeartbeats 4000000
set_option maxRecDepth 4000
namespace Go.Ab.Tryd
open Go Go.Ab Go.Proofs
attribute [local irreducible] W Wl Wop TrA WSeq WLoopS FPost DPost RPost WRound DK onEnd
variable {n0 : Nat} {w0 : World} {gl : Nat → List AV} {H : List AO}
attribute [local simp] belowL_bytesAV

/-- What stands ahead of the recipients; a recipient's line; what stands behind them. -/
def aheadA (fro : List UInt8) (a : Int) (n : List UInt8) : List (List UInt8) := [[77, 73, 77, 69, 45, 86, 101, 114, 115, 105, 111, 110, 58, 32, 49, 46, 48], 67 :: 111 :: 110 :: 116 :: 101 :: 110 :: 116 :: 45 :: 84 :: 121 :: 112 :: 101 :: 58 :: 32 :: 109 :: 117 :: 108 :: 116 :: 105 :: 112 :: 97 :: 114 :: 116 :: 47 :: 109 :: 105 :: 120 :: 101 :: 100 :: 59 :: 32 :: 98 :: 111 :: 117 :: 110 :: 100 :: 97 :: 114 :: 121 :: 61 :: n, [], 45 :: 45 :: n, [67, 111, 110, 116, 101, 110, 116, 45, 84, 121, 112, 101, 58, 32, 116, 101, 120, 116, 47, 112, 108, 97, 105, 110], [], 83 :: 101 :: 110 :: 100 :: 101 :: 114 :: 58 :: 32 :: fro, 82 :: 101 :: 99 :: 101 :: 105 :: 118 :: 101 :: 100 :: 58 :: 32 :: Lib.itoa a]
def rcptL (s : List UInt8) : List UInt8 := 82 :: 101 :: 99 :: 105 :: 112 :: 105 :: 101 :: 110 :: 116 :: 58 :: 32 :: s
def aheadB (n : List UInt8) : List (List UInt8) := [45 :: 45 :: n, [67, 111, 110, 116, 101, 110, 116, 45, 84, 121, 112, 101, 58, 32, 109, 101, 115, 115, 97, 103, 101, 47, 114, 102, 99, 56, 50, 50], []]
def aheadL (fro : List UInt8) (to : List (List UInt8)) (a : Int) (n : List UInt8) : List (List UInt8) := aheadA fro a n ++ (to.map rcptL ++ aheadB n)
/-- All that stands ahead of a message. -/
def aheadS (fro : List UInt8) (to : List (List UInt8)) (a : Int) (n : List UInt8) : List UInt8 := linesB (aheadL fro to a n)
attribute [local simp] belowL_strsM
theorem linesB_app (a b : List (List UInt8)) : linesB (a ++ b) = linesB a ++ linesB b := by simp [linesB]
theorem linesB_sum {B : Nat} : ∀ l : List (List UInt8), (∀ x ∈ l, x.length ≤ B) → (linesB l).length ≤ l.length * (B + 2)
  | [], _ => by simp [linesB]
  | x :: l, h => by
    have := linesB_sum l (fun y hy => h y (by simp [hy]))
    have h1 := h x (by simp)
    simp only [linesB, List.flatMap_cons, List.length_append, List.length_cons, List.length_nil] at this ⊢
    rw [Nat.succ_mul]; omega
/-- What an envelope's parts are bounded by. -/
def EnvSmall (fro : List UInt8) (to : List (List UInt8)) (a : Int) : Prop := fro.length ≤ 100000 ∧ to.length ≤ 100000 ∧ (∀ x ∈ to, x.length ≤ 100000) ∧ -9223372036854775808 ≤ a ∧ a ≤ 9223372036854775807
theorem aheadS_len {fro : List UInt8} {to : List (List UInt8)} {a : Int} {n : List UInt8} (h : EnvSmall fro to a) (hn : n.length ≤ 100000) : (aheadS fro to a n).length ≤ 100011 * 100102 := by
  obtain ⟨h1, h2, h3, h4, h5⟩ := h
  have hit : (Lib.itoa a).length ≤ 21 := Lib.itoa_length_le _ (by omega) (by omega)
  have := linesB_sum (B := 100100) (aheadL fro to a n) (fun x hx => by
    simp only [aheadL, aheadA, aheadB, List.mem_append, List.mem_cons, List.not_mem_nil, or_false, List.mem_map] at hx
    rcases hx with (rfl | rfl | rfl | rfl | rfl | rfl | rfl | rfl) | ⟨y, hy, rfl⟩ | (rfl | rfl | rfl)
    all_goals first
      | (simp only [List.length_cons, List.length_nil]; omega)
      | (have := h3 y hy; simp only [rcptL, List.length_cons]; omega))
  have hl : (aheadL fro to a n).length = 8 + (to.length + 3) := by simp [aheadL, aheadA, aheadB]; omega
  rw [hl] at this
  exact Nat.le_trans this (Nat.mul_le_mul (by omega) (by omega))

theorem ahead_e [ht : Tab10 n0 w0] (fro : List UInt8) (to : List (List UInt8)) (a : Int) (n : List UInt8) (tok : Tok) (hs : EnvSmall fro to a) (hn : n.length ≤ 100000) (htok : tok = .ro ∨ tok = .full) :
    AEnter (env n0 w0 gl) 53 [.agg [.str fro, .sl to.length (to.map .str) tok, .int .i64 a], .str n] H (fun y H' => y = .ret (.str (aheadS fro to a n)) ∧ H' = H) := by
  have hal := aheadS_len hs hn
  obtain ⟨h1, h2, h3, h4, h5⟩ := hs
  have hit : (Lib.itoa a).length ≤ 21 := Lib.itoa_length_le _ (by omega) (by omega)
  have hh := hit
  refine enter (md := fun _ => 0) Tryd.func53 (fun hfit hgl => ?_)
  repeat' (first | refine go ?_ | (refine br (fun hc => ?_) (fun hc => ?_) <;> try (exfalso; omega)) | fail)
  refine loop (fun i : Nat => (.top :: .str n :: .ref H.length 0 :: .top :: .str [] :: .sl (8 + i) ((aheadA fro a n ++ (to.take i).map rcptL).map .str) (.at (H.length + 1) (8 + i)) :: .top :: .top :: .top :: .top :: .top :: .top :: .top :: .top :: .top :: .top :: .top :: .top :: .top :: .top :: .top :: .sl to.length (to.map .str) tok :: .int .i64 to.length :: .int .i64 (i : Int) :: .top :: .top :: .top :: .top :: .top :: .top :: .top :: .top :: .top :: .top :: .top :: .top :: .top :: .top :: .top :: []))
    (fun i => H ++ [.cells [.str fro, .sl to.length (to.map .str) tok, .int .i64 a], .tail 1 (8 + i)]) (fun i => i ≤ to.length) (fun i => to.length - i) 0 (Nat.zero_le _) ?_ ((Shift.tail 1 5 8 rfl).trans ?_)
  · intro i hi
    by_cases hlt : i < to.length
    · have hat : (to.map AV.str).getD i .top = .str (to.getD i []) := by simp [List.getD_eq_getElem?_getD, hlt]
      have hti : (to.getD i []).length ≤ 100000 := h3 _ (by rw [List.getD_eq_getElem?_getD, List.getElem?_eq_getElem hlt]; exact List.getElem_mem _)
      have hst : (to.take (i + 1)).map rcptL = (to.take i).map rcptL ++ [rcptL (to.getD i [])] := by
        rw [List.take_succ_eq_append_getElem hlt, List.map_append]
        simp [List.getD_eq_getElem?_getD, hlt]
      have hlen : ((aheadA fro a n ++ (to.take i).map rcptL).map AV.str).length = 8 + i := by simp [aheadA]; omega
      have hh := hlen
      repeat' (first | refine go ?_ | (refine br (fun hc => ?_) (fun hc => ?_) <;> try (exfalso; omega)) | fail)
      rw [show (aheadA fro a n ++ (to.take i).map rcptL).map AV.str ++ [.str (82 :: 101 :: 99 :: 105 :: 112 :: 105 :: 101 :: 110 :: 116 :: 58 :: 32 :: to.getD i [])] = (aheadA fro a n ++ (to.take (i + 1)).map rcptL).map AV.str from by rw [hst]; simp [rcptL]]
      exact again (i + 1) (by omega)
    · obtain rfl : i = to.length := by omega
      rw [List.take_length]
      have hlen : ((aheadA fro a n ++ to.map rcptL).map AV.str).length = 8 + to.length := by simp [aheadA]; omega
      have hl : ∀ H tok, Ctr (env n0 w0 gl) 54 [.sl (8 + (to.length + 3)) ((aheadA fro a n ++ to.map rcptL).map AV.str ++ [.str (45 :: 45 :: n), .str [67, 111, 110, 116, 101, 110, 116, 45, 84, 121, 112, 101, 58, 32, 109, 101, 115, 115, 97, 103, 101, 47, 114, 102, 99, 56, 50, 50], .str []]) tok] H True (.str (aheadS fro to a n)) H := fun H tok => ⟨fun _ => by
        have := (lines11_t (n0 := n0) (w0 := w0) (gl := gl) (H := H) (aheadL fro to a n) (8 + (to.length + 3)) tok).call ⟨by simp [aheadL, aheadA, aheadB]; omega, by omega, by omega, Nat.le_trans hal (by decide)⟩
        rw [show (aheadL fro to a n).map AV.str = (aheadA fro a n ++ to.map rcptL).map AV.str ++ [.str (45 :: 45 :: n), .str [67, 111, 110, 116, 101, 110, 116, 45, 84, 121, 112, 101, 58, 32, 109, 101, 115, 115, 97, 103, 101, 47, 114, 102, 99, 56, 50, 50], .str []] from by
          simp only [aheadL, aheadB, List.map_append, List.append_assoc]; rfl] at this
        exact this⟩
      have hh := hlen
      repeat' (first | refine go ?_ | (refine br (fun hc => ?_) (fun hc => ?_) <;> try (exfalso; omega)) | fail)
      exact .junkd ⟨rfl, rfl⟩
  · simp only [List.set_cons_succ, List.set_cons_zero, List.append_assoc, List.cons_append, List.nil_append, List.length_append, List.length_cons, List.length_nil, Nat.zero_add, Nat.reduceAdd]
    exact Shift.auto

instance ahead_t [ht : Tab10 n0 w0] (fro : List UInt8) (to : List (List UInt8)) (a : Int) (n : List UInt8) : Ctr (env n0 w0 gl) 53 [.agg [.str fro, .sl to.length (to.map .str) .ro, .int .i64 a], .str n] H (EnvSmall fro to a ∧ n.length ≤ 100000) (.str (aheadS fro to a n)) H := .of fun ⟨h1, h2⟩ => ahead_e fro to a n .ro h1 h2 (.inl rfl)

/-- The text ahead of the recipients. -/
def headA (fro : List UInt8) (a : Int) (n : List UInt8) : List UInt8 := linesB (aheadA fro a n)
theorem linesB_snoc (l : List (List UInt8)) (x : List UInt8) : linesB (l ++ [x]) = linesB l ++ (x ++ [13, 10]) := by simp [linesB]

theorem head11_e [ht : Tab10 n0 w0] (fro : List UInt8) (to : List (List UInt8)) (a : Int) (n : List UInt8) (tok : Tok) (hs : EnvSmall fro to a) (hn : n.length ≤ 100000) (htok : tok = .ro ∨ tok = .full) :
    AEnter (env n0 w0 gl) 57 [.agg [.str fro, .sl to.length (to.map .str) tok, .int .i64 a], .str n] H (fun y H' => y = .ret (.str (aheadS fro to a n)) ∧ H' = H) := by
  obtain ⟨h1, h2, h3, h4, h5⟩ := hs
  have hit : (Lib.itoa a).length ≤ 21 := Lib.itoa_length_le _ (by omega) (by omega)
  have hA : (linesB (aheadA fro a n)).length ≤ 400000 := by simp [linesB, aheadA]; omega
  have hsum := fun i => linesB_sum (B := 100100) ((to.take i).map rcptL) (fun x hx => by
    obtain ⟨y, hy, rfl⟩ := List.mem_map.1 hx
    have := h3 y (List.mem_of_mem_take hy); simp only [rcptL, List.length_cons]; omega)
  have hsum2 : ∀ i, (linesB ((to.take i).map rcptL)).length ≤ 100000 * 100102 := fun i => Nat.le_trans (hsum i) (Nat.mul_le_mul (by rw [List.length_map, List.length_take]; omega) (by omega))
  have hh := hit
  refine enter (md := fun _ => 0) Tryd.func57 (fun hfit hgl => ?_)
  repeat' (first | refine go ?_ | (refine br (fun hc => ?_) (fun hc => ?_) <;> try (exfalso; omega)) | fail)
  refine loop (fun i : Nat => (.top :: .str n :: .top :: .top :: .str [] :: .str (linesB (aheadA fro a n) ++ linesB ((to.take i).map rcptL)) :: .top :: .top :: .top :: .top :: .top :: .top :: .top :: .top :: .top :: .top :: .top :: .top :: .top :: .top :: .top :: .top :: .top :: .top :: .top :: .top :: .sl to.length (to.map .str) tok :: .int .i64 to.length :: .int .i64 (i : Int) :: .top :: .top :: .top :: .top :: .top :: .top :: .top :: .top :: .top :: .top :: .top :: .top :: .top :: .top :: []))
    (fun i => H ++ [.cells [.str fro, .sl to.length (to.map .str) tok, .int .i64 a]]) (fun i => i ≤ to.length) (fun i => to.length - i) 0 (Nat.zero_le _) ?_ (.fgt (by repeat (first | exact fgt_nil | refine fgt_top ?_ | refine fgt_same rfl ?_ | refine fgt_same (by simp [linesB, aheadA]) ?_)))
  intro i hi
  have hs1 := hsum2 i
  by_cases hlt : i < to.length
  · have hti : (to.getD i []).length ≤ 100000 := h3 _ (by rw [List.getD_eq_getElem?_getD, List.getElem?_eq_getElem hlt]; exact List.getElem_mem _)
    have hst : linesB ((to.take (i + 1)).map rcptL) = linesB ((to.take i).map rcptL) ++ (rcptL (to.getD i []) ++ [13, 10]) := by
      rw [List.take_succ_eq_append_getElem hlt, List.map_append, linesB_app]
      simp [List.getD_eq_getElem?_getD, hlt, linesB]
    repeat' (first | refine go ?_ | (refine br (fun hc => ?_) (fun hc => ?_) <;> try (exfalso; omega)) | fail)
    refine again (i + 1) (by omega) (by omega) (.fgt (by repeat (first | exact fgt_nil | refine fgt_top ?_ | refine fgt_same rfl ?_ | refine fgt_same (by rw [hst]; simp [rcptL]) ?_)))
  · obtain rfl : i = to.length := by omega
    rw [List.take_length] at hs1 ⊢
    repeat' (first | refine go ?_ | (refine br (fun hc => ?_) (fun hc => ?_) <;> try (exfalso; omega)) | fail)
    refine .junkd ⟨?_, rfl⟩
    simp [aheadS, aheadL, aheadB, linesB, List.flatMap_append]
instance head11_t [ht : Tab10 n0 w0] (fro : List UInt8) (to : List (List UInt8)) (a : Int) (n : List UInt8) : Ctr (env n0 w0 gl) 57 [.agg [.str fro, .sl to.length (to.map .str) .ro, .int .i64 a], .str n] H (EnvSmall fro to a ∧ n.length ≤ 100000) (.str (aheadS fro to a n)) H := .of fun ⟨h1, h2⟩ => head11_e fro to a n .ro h1 h2 (.inl rfl)

/-- What is thrown. -/
def thrown11 (e : Int) : List APanic := [{ v := .iface 130 (.agg [.int .i64 e]) }]

instance mime_must_true (e : Int) : Ctr (env n0 w0 gl) 50 [.bool true, .int .i64 e] H True (.tup []) H := .of fun _ => by
  refine enter (md := fun _ => 0) Tryd.func50 (fun hfit hgl => ?_)
  repeat' (first | refine go ?_ | (refine br (fun hc => ?_) (fun hc => ?_) <;> try (exfalso; omega)) | fail)
  exact .now ⟨rfl, rfl⟩
instance mime_must_false (e : Int) : CtrP (env n0 w0 gl) 50 [.bool false, .int .i64 e] H True (thrown11 e) H := .of fun _ => by
  refine enter (md := fun _ => 0) Tryd.func50 (fun hfit hgl => ?_)
  repeat' (first | refine go ?_ | (refine br (fun hc => ?_) (fun hc => ?_) <;> try (exfalso; omega)) | fail)
  exact .now ⟨rfl, rfl⟩
instance mime_must_if (b : Bool) (e : Int) : CtrIf (env n0 w0 gl) 50 [.bool b, .int .i64 e] H True (b = true) (.ret (.tup [])) H (.panic (thrown11 e)) H := ⟨fun _ => by
  cases b with
  | true => exact ((mime_must_true e).call trivial).mono fun x H' h => .inl ⟨rfl, h⟩
  | false => exact ((mime_must_false e).call trivial).mono fun x H' h => .inr ⟨by simp, h⟩⟩

/-- The deferred function: nothing was thrown. -/
theorem mime_caught1_none (n : Nat) {R : AE → AMode → List AO → Prop} (h : R (.ret (.tup [])) .returning H) : ACallD (env n0 w0 gl) 98 [.ref n 0] .returning H R := by
  refine ACallD.of_recover (d := none) (fun _ => 0) (fn := Tryd.f98) Tryd.func98 rfl rfl rfl rfl rfl (a2 := ⟨(.ref n 0 :: .nili :: .top :: .top :: .nili :: .top :: .top :: .top :: .top :: .top :: .top :: .top :: .top :: .top :: .top :: .top :: .top :: []), []⟩) rfl ?_
  intro hfit _
  repeat' (first | refine go ?_ | (refine br (fun hc => ?_) (fun hc => ?_) <;> try (exfalso; omega)) | fail)
  exact .now h

theorem mime_caught1_some (n : Nat) (e : Int) {R : AE → AMode → List AO → Prop} (hn : H[n]? = some (.cells [.int .i64 0])) (h : R (.ret (.tup [])) (.panicking [{ v := .iface 130 (.agg [.int .i64 e]), recovered := true }]) (H.set n (.cells [.int .i64 e]))) : ACallD (env n0 w0 gl) 98 [.ref n 0] (.panicking (thrown11 e)) H R := by
  refine ACallD.of_recover (d := none) (fun _ => 0) (fn := Tryd.f98) Tryd.func98 rfl rfl rfl rfl rfl (a2 := ⟨(.ref n 0 :: .iface 130 (.agg [.int .i64 e]) :: .top :: .top :: .iface 130 (.agg [.int .i64 e]) :: .top :: .top :: .top :: .top :: .top :: .top :: .top :: .top :: .top :: .top :: .top :: .top :: []), []⟩) rfl ?_
  intro hfit _
  have hlt := (List.getElem?_eq_some_iff.1 hn).1
  have hh : (∀ l, (H ++ l)[n]? = some (.cells [.int .i64 0])) ∧ (∀ l x, (H ++ l).set n x = H.set n x ++ l) := ⟨fun l => by rw [List.getElem?_append_left hlt, hn], fun l x => List.set_append_left _ _ hlt⟩
  repeat' (first | refine go ?_ | (refine br (fun hc => ?_) (fun hc => ?_) <;> try (exfalso; omega)) | fail)
  have hl : (H.set n (.cells [.int .i64 e])).length = H.length := List.length_set
  have hf : Fit H.length (H.set n (.cells [.int .i64 e])) := fun o ho => by
    rcases List.mem_or_eq_of_mem_set ho with h | h
    · exact hfit o h
    · subst h; rfl
  exact Out.drop _ (by rw [hl]; exact Nat.le_refl _) (by rw [hl]; exact hf) rfl h

/-- What is thrown in it is caught. -/
theorem mime_caught_t (f : FuncId) (first cap : List AV) {R : AE → List AO → Prop} (hdo : Fit H.length H → ACall (env n0 w0 gl) f (first ++ cap) (H ++ [.cells [.int .i64 0]]) (fun x H' => H'[H.length]? = some (.cells [.int .i64 0]) ∧
      ((x = .ret (.tup []) ∧ Out H.length R (.ret (.int .i64 0)) H') ∨ (∃ e, x = .panic (thrown11 e) ∧ Out H.length R (.ret (.int .i64 e)) (H'.set H.length (.cells [.int .i64 e])))))) :
    AEnter (env n0 w0 gl) 46 [.fn f first cap] H R := by
  refine enter (md := fun _ => 0) Tryd.func46 (fun hfit hgl => ?_)
  repeat' (first | refine go ?_ | (refine br (fun hc => ?_) (fun hc => ?_) <;> try (exfalso; omega)) | fail)
  ((with_reducible apply wop_call); (· rfl); (· rfl); (· (simp only [AAct.ev, List.getD_cons_zero, List.getD_cons_succ, constAV, env_gl]; try exact rfl)); (· (simp only [evCallArgs, List.map_cons, List.map_nil, List.nil_append, List.append_nil, List.cons_append, Array.toList, List.toList_toArray, AAct.ev, List.getD_cons_zero, List.getD_cons_succ, constAV, env_gl]; try exact rfl)))
  refine (hdo hfit).mono ?_
  rintro x H' ⟨hc, ⟨rfl, hR⟩ | ⟨e, rfl, hR⟩⟩
  · have hsame : H'.set H.length (.cells [.int .i64 0]) = H' := by
      apply List.ext_getElem?
      intro i
      by_cases e : H.length = i
      · subst e; rw [List.getElem?_set_self (List.getElem?_eq_some_iff.1 hc).1, hc]
      · rw [List.getElem?_set_ne e]
    have hh := And.intro hc hsame
    repeat' (first | refine go ?_ | (refine br (fun hc => ?_) (fun hc => ?_) <;> try (exfalso; omega)) | fail)
    with_reducible apply fpost_ret_call
    refine mime_caught1_none _ ?_
    refine aleave_ret (v := .int .i64 0) ?_ hR
    simp (disch := omega) only [evResults, evResultsL, evResult, Tryd.results46, hc, go_sem, Int.reduceAdd, Int.reduceEq, Int.reduceLE, Int.reduceLT, Int.reduceNeg, Int.reduceSub, Int.reduceToNat, Nat.reduceAdd, Nat.reduceEqDiff, Nat.reduceLT, Nat.reduceLeDiff, Nat.reduceMul, Nat.reduceSub, reduceCtorEq, reduceIte]
  · repeat' (first | refine go ?_ | (refine br (fun hc => ?_) (fun hc => ?_) <;> try (exfalso; omega)) | fail)
    with_reducible apply fpost_panic_call
    refine mime_caught1_some _ e hc ?_
    refine aleave_ret (v := .int .i64 e) ?_ hR
    simp (disch := omega) only [evResults, evResultsL, evResult, Tryd.results46, List.getElem?_set_self (List.getElem?_eq_some_iff.1 hc).1, go_sem, Int.reduceAdd, Int.reduceEq, Int.reduceLE, Int.reduceLT, Int.reduceNeg, Int.reduceSub, Int.reduceToNat, Nat.reduceAdd, Nat.reduceEqDiff, Nat.reduceLT, Nat.reduceLeDiff, Nat.reduceMul, Nat.reduceSub, reduceCtorEq, reduceIte]


/-- What is thrown, 0 if nothing. -/
noncomputable def chkE (fro : List UInt8) (to : List (List UInt8)) (a : Int) (n : Nat) : Int := if tf (EnvOk fro to a) then (if to.length ≤ 100 ∧ n ≤ 1000000 then 0 else 2) else 110

theorem check11_e (fro : List UInt8) (to : List (List UInt8)) (a : Int) (body : List AV) (n : Nat) (tok tok2 : Tok) (h1 : fro.length ≤ 9223372036854775807) (h2 : to.length ≤ 9223372036854775807) (h3 : ∀ i, i < to.length → (to.getD i []).length ≤ 9223372036854775807) (hn : n ≤ 9223372036854775807) :
    AEnter (env n0 w0 gl) 60 [.agg [.str fro, .sl to.length (to.map .str) tok, .int .i64 a], .sl n body tok2] H (fun y H' => H' = H ∧ ((chkE fro to a n = 0 ∧ y = .ret (.tup [])) ∨ (chkE fro to a n ≠ 0 ∧ y = .panic (thrown11 (chkE fro to a n))))) := by
  have hbad : ∀ e, chkE fro to a n = e → e ≠ 0 → ((chkE fro to a n = 0 ∧ AE.panic (thrown11 e) = .ret (.tup [])) ∨ (chkE fro to a n ≠ 0 ∧ AE.panic (thrown11 e) = .panic (thrown11 (chkE fro to a n)))) := fun e h h0 => .inr ⟨by rw [h]; exact h0, by rw [h]⟩
  have hno : ¬ EnvOk fro to a → chkE fro to a n = 110 := fun h => by unfold chkE; rw [tf_false h]; rfl
  refine enter (md := fun _ => 0) Tryd.func60 (fun hfit hgl => ?_)
  repeat' (first | refine go ?_ | (refine br (fun hc => ?_) (fun hc => ?_) <;> try (exfalso; omega)) | fail)
  all_goals try (exact .junkd ⟨rfl, hbad 110 (hno (by rintro ⟨g1, g2, g3, g4⟩; first | omega | exact g1.elim (fun h => by omega) (fun h => tf_not_iff.1 (by assumption) h))) (by decide)⟩)
  all_goals
    have hF : fro.length = 0 ∨ MailboxOk fro := by first | (left; omega) | (right; exact tf_iff.1 (by assumption))
    refine loop (fun i : Nat => (.top :: .sl n body tok2 :: .ref H.length 0 :: .top :: .top :: .top :: .top :: .top :: .top :: .top :: .top :: .top :: .top :: .top :: .top :: .top :: .top :: .top :: .top :: .top :: .top :: .top :: .top :: .top :: .top :: .top :: .sl to.length (to.map .str) tok :: .int .i64 to.length :: .int .i64 (i : Int) :: .top :: .top :: .top :: .top :: .top :: .top :: .top :: .top :: .top :: .top :: .top :: .top :: .top :: .top :: .top :: .top :: .top :: [])) (fun i => H ++ [.cells [.str fro, .sl to.length (to.map .str) tok, .int .i64 a]]) (fun i => i ≤ to.length ∧ ∀ k, k < i → MailboxOk (to.getD k [])) (fun i => to.length - i) 0 ⟨Nat.zero_le _, fun k h => absurd h (Nat.not_lt_zero _)⟩ ?_
    rintro i ⟨hi, hall⟩
    have hti := h3 i
    have hok : i = to.length → EnvOk fro to a := fun e => ⟨hF, by omega, by omega, fun k hk => hall k (by omega)⟩
    repeat' (first | refine go ?_ | (refine br (fun hc => ?_) (fun hc => ?_) <;> try (exfalso; omega)) | fail)
    all_goals first
      | (refine again (i + 1) ⟨by omega, fun k hk => ?_⟩
         rcases Nat.lt_succ_iff_lt_or_eq.1 hk with h | h
         · exact hall k h
         · subst h; exact tf_iff.1 (by assumption))
      | exact .junkd ⟨rfl, hbad 110 (hno (by rintro ⟨g1, g2, g3, g4⟩; exact tf_not_iff.1 (by assumption) (g4 i (by omega)))) (by decide)⟩
      | exact .junkd ⟨rfl, hbad 2 (by unfold chkE; rw [tf_true (hok (by omega)), if_pos rfl, if_neg (by omega)]) (by decide)⟩
      | exact .junkd ⟨rfl, .inl ⟨by unfold chkE; rw [tf_true (hok (by omega)), if_pos rfl, if_pos (by omega)], rfl⟩⟩

end Go.Ab.Tryd
