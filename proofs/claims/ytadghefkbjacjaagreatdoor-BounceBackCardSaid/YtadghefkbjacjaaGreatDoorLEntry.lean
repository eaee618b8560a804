/- Walks: entry's ground. -/
import Derived.Test.YtadghefkbjacjaaGreatDoorLRefA
set_option linter.unusedSimpArgs false
set_option linter.unusedVariables false
set_option maxHeartbeats 2000000
set_option maxRecDepth 4000
namespace Go.Ab.Tryz
open Go Go.Ab Go.Proofs
attribute [local irreducible] W Wl Wop TrA WSeq WLoopS FPost DPost RPost WRound DK onEnd
variable {n0 : Nat} {w0 : World} {gl : Nat → List AV} {H : List AO}

/-- What is thrown. -/
def thrown : List APanic := [{ v := .iface 302 (.agg []) }]

instance must_true : Ctr (env n0 w0 gl) 213 [.bool true] H True (.tup []) H := .of fun _ => by
  refine enter (md := fun _ => 0) Tryz.func213 (fun hfit hgl => ?_)
  repeat' (first | refine go ?_ | (refine br (fun hc => ?_) (fun hc => ?_) <;> try (exfalso; omega)) | fail)
  exact .now ⟨rfl, rfl⟩
instance must_false : CtrP (env n0 w0 gl) 213 [.bool false] H True thrown H := .of fun _ => by
  refine enter (md := fun _ => 0) Tryz.func213 (fun hfit hgl => ?_)
  repeat' (first | refine go ?_ | (refine br (fun hc => ?_) (fun hc => ?_) <;> try (exfalso; omega)) | fail)
  exact .now ⟨rfl, rfl⟩
instance must_if (b : Bool) : CtrIf (env n0 w0 gl) 213 [.bool b] H True (b = true) (.ret (.tup [])) H (.panic thrown) H := ⟨fun _ => by
  cases b with
  | true => exact (must_true.call trivial).mono fun x H' h => .inl ⟨rfl, h⟩
  | false => exact (must_false.call trivial).mono fun x H' h => .inr ⟨by simp, h⟩⟩

/-- The deferred function: nothing was thrown. -/
theorem caught1_none (n : Nat) {R : AE → AMode → List AO → Prop} (h : R (.ret (.tup [])) .returning H) : ACallD (env n0 w0 gl) 282 [.ref n 0] .returning H R := by
  refine ACallD.of_recover (d := none) (fun _ => 0) (fn := Tryz.f282) Tryz.func282 rfl rfl rfl rfl rfl (a2 := ⟨(.ref n 0 :: .nili :: .top :: .top :: .nili :: .top :: .top :: .top :: .top :: .top :: .top :: .top :: .top :: .top :: .top :: []), []⟩) rfl ?_
  intro hfit _
  repeat' (first | refine go ?_ | (refine br (fun hc => ?_) (fun hc => ?_) <;> try (exfalso; omega)) | fail)
  exact .now h

theorem caught1_some (n : Nat) {R : AE → AMode → List AO → Prop} (hn : H[n]? = some (.cells [.int .i64 0])) (h : R (.ret (.tup [])) (.panicking [{ v := .iface 302 (.agg []), recovered := true }]) (H.set n (.cells [.int .i64 150]))) : ACallD (env n0 w0 gl) 282 [.ref n 0] (.panicking thrown) H R := by
  refine ACallD.of_recover (d := none) (fun _ => 0) (fn := Tryz.f282) Tryz.func282 rfl rfl rfl rfl rfl (a2 := ⟨(.ref n 0 :: .iface 302 (.agg []) :: .top :: .top :: .iface 302 (.agg []) :: .top :: .top :: .top :: .top :: .top :: .top :: .top :: .top :: .top :: .top :: []), []⟩) rfl ?_
  intro hfit _
  have hlt := (List.getElem?_eq_some_iff.1 hn).1
  have hh : (∀ l, (H ++ l)[n]? = some (.cells [.int .i64 0])) ∧ (∀ l x, (H ++ l).set n x = H.set n x ++ l) := ⟨fun l => by rw [List.getElem?_append_left hlt, hn], fun l x => List.set_append_left _ _ hlt⟩
  repeat' (first | refine go ?_ | (refine br (fun hc => ?_) (fun hc => ?_) <;> try (exfalso; omega)) | fail)
  have hl : (H.set n (.cells [.int .i64 150])).length = H.length := List.length_set
  have hf : Fit H.length (H.set n (.cells [.int .i64 150])) := fun o ho => by
    rcases List.mem_or_eq_of_mem_set ho with h | h
    · exact hfit o h
    · subst h; rfl
  exact Out.drop _ (by rw [hl]; exact Nat.le_refl _) (by rw [hl]; exact hf) rfl h

/-- What is thrown in it is caught. -/
theorem caught_t (f : FuncId) (first cap : List AV) {R : AE → List AO → Prop} (hdo : Fit H.length H → ACall (env n0 w0 gl) f (first ++ cap) (H ++ [.cells [.int .i64 0]]) (fun x H' => H'[H.length]? = some (.cells [.int .i64 0]) ∧
      ((x = .ret (.tup []) ∧ Out H.length R (.ret (.int .i64 0)) H') ∨ (x = .panic thrown ∧ Out H.length R (.ret (.int .i64 150)) (H'.set H.length (.cells [.int .i64 150])))))) :
    AEnter (env n0 w0 gl) 209 [.fn f first cap] H R := by
  refine enter (md := fun _ => 0) Tryz.func209 (fun hfit hgl => ?_)
  repeat' (first | refine go ?_ | (refine br (fun hc => ?_) (fun hc => ?_) <;> try (exfalso; omega)) | fail)
  ((with_reducible apply wop_call); (· rfl); (· rfl); (· (simp only [AAct.ev, List.getD_cons_zero, List.getD_cons_succ, constAV, env_gl]; try exact rfl)); (· (simp only [evCallArgs, List.map_cons, List.map_nil, List.nil_append, List.append_nil, List.cons_append, Array.toList, List.toList_toArray, AAct.ev, List.getD_cons_zero, List.getD_cons_succ, constAV, env_gl]; try exact rfl)))
  refine (hdo hfit).mono ?_
  rintro x H' ⟨hc, ⟨rfl, hR⟩ | ⟨rfl, hR⟩⟩
  · have hsame : H'.set H.length (.cells [.int .i64 0]) = H' := by
      apply List.ext_getElem?
      intro i
      by_cases e : H.length = i
      · subst e; rw [List.getElem?_set_self (List.getElem?_eq_some_iff.1 hc).1, hc]
      · rw [List.getElem?_set_ne e]
    have hh := And.intro hc hsame
    repeat' (first | refine go ?_ | (refine br (fun hc => ?_) (fun hc => ?_) <;> try (exfalso; omega)) | fail)
    with_reducible apply fpost_ret_call
    refine caught1_none _ ?_
    refine aleave_ret (v := .int .i64 0) ?_ hR
    simp (disch := omega) only [evResults, evResultsL, evResult, Tryz.results209, hc, go_sem, Int.reduceAdd, Int.reduceEq, Int.reduceLE, Int.reduceLT, Int.reduceNeg, Int.reduceSub, Int.reduceToNat, Nat.reduceAdd, Nat.reduceEqDiff, Nat.reduceLT, Nat.reduceLeDiff, Nat.reduceMul, Nat.reduceSub, reduceCtorEq, reduceIte]
  · repeat' (first | refine go ?_ | (refine br (fun hc => ?_) (fun hc => ?_) <;> try (exfalso; omega)) | fail)
    with_reducible apply fpost_panic_call
    refine caught1_some _ hc ?_
    refine aleave_ret (v := .int .i64 150) ?_ hR
    simp (disch := omega) only [evResults, evResultsL, evResult, Tryz.results209, List.getElem?_set_self (List.getElem?_eq_some_iff.1 hc).1, go_sem, Int.reduceAdd, Int.reduceEq, Int.reduceLE, Int.reduceLT, Int.reduceNeg, Int.reduceSub, Int.reduceToNat, Nat.reduceAdd, Nat.reduceEqDiff, Nat.reduceLT, Nat.reduceLeDiff, Nat.reduceMul, Nat.reduceSub, reduceCtorEq, reduceIte]

/-- Whether a message may be. -/
def CheckOk (fro : List UInt8) (to : List (List UInt8)) (at_ : Int) (n : Nat) : Prop := (fro.length = 0 ∨ MailboxOk fro) ∧ 0 < to.length ∧ to.length ≤ 100 ∧ 0 ≤ at_ ∧ n ≤ 500000 ∧ ∀ i, i < to.length → MailboxOk (to.getD i [])

theorem check1_t (a b : Nat) (fro : List UInt8) (to : List (List UInt8)) (at_ : Int) (body : List AV) (n : Nat) (tok tok2 : Tok) (ha : H[a]? = some (.cells [.str fro, .sl to.length (to.map .str) tok, .int .i64 at_])) (hb : H[b]? = some (.cells [.sl n body tok2])) (hfro : fro.length ≤ 9223372036854775807)
    (hto : ∀ i, i < to.length → (to.getD i []).length ≤ 9223372036854775807) (hl : to.length ≤ 9223372036854775807) : AEnter (env n0 w0 gl) 284 [.ref a 0, .ref b 0] H (fun x H' => H' = H ∧ ((x = .ret (.tup []) ∧ CheckOk fro to at_ n) ∨ (x = .panic thrown ∧ ¬ CheckOk fro to at_ n))) := by
  have hh := And.intro ha hb
  refine enter (md := fun _ => 0) Tryz.func284 (fun hfit hgl => ?_)
  repeat' (first | refine go ?_ | (refine br (fun hc => ?_) (fun hc => ?_) <;> try (exfalso; omega)) | fail)
  all_goals try (exact .now ⟨rfl, .inr ⟨rfl, by rintro ⟨h1, h2, h3, h4, h5, h6⟩; first | omega | exact h1.elim (fun h => by omega) (fun h => tf_not_iff.1 (by assumption) h)⟩⟩)
  all_goals
    have hF : fro.length = 0 ∨ MailboxOk fro := by first | (left; omega) | (right; exact tf_iff.1 (by assumption))
    refine loop0 (fun i : Nat => (.ref a 0 :: .ref b 0 :: .top :: .top :: .top :: .top :: .top :: .top :: .top :: .top :: .top :: .top :: .top :: .top :: .top :: .top :: .top :: .top :: .top :: .top :: .top :: .top :: .top :: .top :: .top :: .top :: .top :: .top :: .top :: .top :: .top :: .top :: .top :: .top :: .top :: .sl to.length (to.map .str) tok :: .int .i64 to.length :: .int .i64 (i : Int) :: .top :: .top :: .top :: .top :: .top :: .top :: .top :: [])) (fun i => i ≤ to.length ∧ ∀ k, k < i → MailboxOk (to.getD k [])) (fun i => to.length - i) 0 ⟨Nat.zero_le _, fun k h => absurd h (Nat.not_lt_zero _)⟩ ?_
    rintro i ⟨hi, hall⟩
    have hti := hto i
    repeat' (first | refine go ?_ | (refine br (fun hc => ?_) (fun hc => ?_) <;> try (exfalso; omega)) | fail)
    all_goals first
      | (refine again (i + 1) ⟨by omega, fun k hk => ?_⟩
         rcases Nat.lt_succ_iff_lt_or_eq.1 hk with h | h
         · exact hall k h
         · subst h; exact tf_iff.1 (by assumption))
      | exact .now ⟨rfl, .inr ⟨rfl, by rintro ⟨h1, h2, h3, h4, h5, h6⟩; exact tf_not_iff.1 (by assumption) (h6 i (by omega))⟩⟩
      | exact .now ⟨rfl, .inl ⟨rfl, hF, by omega, by omega, by omega, by omega, fun k hk => hall k (by omega)⟩⟩

instance check_t (fro : List UInt8) (to : List (List UInt8)) (at_ : Int) (body : List AV) (n : Nat) (tok tok2 : Tok) : Ctr (env n0 w0 gl) 217 [.agg [.str fro, .sl to.length (to.map .str) tok, .int .i64 at_], .sl n body tok2] H (fro.length ≤ 9223372036854775807 ∧
    (∀ i, i < to.length → (to.getD i []).length ≤ 9223372036854775807) ∧ to.length ≤ 9223372036854775807) (.int .i64 (if tf (CheckOk fro to at_ n) then 0 else 150)) H := .of fun ⟨hfro, hto, hl⟩ => by
  refine enter (md := fun _ => 0) Tryz.func217 (fun hfit hgl => ?_)
  repeat' (first | refine go ?_ | (refine br (fun hc => ?_) (fun hc => ?_) <;> try (exfalso; omega)) | fail)
  ((with_reducible apply wop_call); (· rfl); (· rfl); (· (simp only [AAct.ev, List.getD_cons_zero, List.getD_cons_succ, constAV, env_gl]; try exact rfl)); (· (simp only [evCallArgs, List.map_cons, List.map_nil, List.nil_append, List.append_nil, List.cons_append, Array.toList, List.toList_toArray, AAct.ev, List.getD_cons_zero, List.getD_cons_succ, constAV, env_gl]; try exact rfl)))
  refine ((caught_t (R := fun x H' => x = .ret (.int .i64 (if tf (CheckOk fro to at_ n) then 0 else 150)) ∧ H' = H ++ [AO.cells [AV.str fro, AV.sl to.length (to.map .str) tok, AV.int .i64 at_], AO.cells [AV.sl n body tok2]]) _ [] _ fun hf2 => (check1_t _ _ fro to at_ body n tok tok2 (by simp) (by simp) hfro hto hl).call.mono ?_).call).mono ?_
  · rintro x H' ⟨rfl, ⟨rfl, h⟩ | ⟨rfl, h⟩⟩
    · exact ⟨getE0 _ _, .inl ⟨rfl, Out.junk _ hf2 rfl ⟨by rw [if_pos (tf_true h)], rfl⟩⟩⟩
    · refine ⟨getE0 _ _, .inr ⟨rfl, ?_⟩⟩
      rw [setE0]
      exact Out.junk _ hf2 rfl ⟨by rw [tf_false h]; rfl, rfl⟩
  · rintro x H' ⟨rfl, rfl⟩
    repeat' (first | refine go ?_ | (refine br (fun hc => ?_) (fun hc => ?_) <;> try (exfalso; omega)) | fail)
    exact .junkd ⟨rfl, rfl⟩

end Go.Ab.Tryz
