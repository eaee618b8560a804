/- Walks: letters as a mailbox file. -/
import Derived.Test.YtpdjgbpmlckepaaDoorLMail
import Derived.Test.YtpdjgbpmlckepaaDoorLMbox2
import Derived.Test.YtpdjgbpmlckepaaDoorLRound
import Derived.Test.YtpdjgbpmlckepaaDoorLMbox3
import Derived.Test.YtpdjgbpmlckepaaDoorLRef07
import Derived.Lib.ItoaLen
set_option linter.unusedSimpArgs false
set_option linter.unusedVariables false
set_option maxHeartbeats 4000000
set_option maxRecDepth 4000
namespace Go.Ab.Tryd
open Go Go.Ab Go.Proofs
attribute [local simp] belowL_bytesAV
attribute [local irreducible] W Wl Wop TrA WSeq WLoopS FPost DPost RPost WRound DK onEnd
variable {n0 : Nat} {w0 : World} {gl : Nat → List AV} {H : List AO}

/-- What is thrownM. -/
def thrownM : List APanic := [{ v := .iface 139 (.agg []) }]

instance mmust_true : Ctr (env n0 w0 gl) 65 [.bool true] H True (.tup []) H := .of fun _ => by
  refine enter (md := fun _ => 0) Tryd.func65 (fun hfit hgl => ?_)
  repeat' (first | refine go ?_ | (refine br (fun hc => ?_) (fun hc => ?_) <;> try (exfalso; omega)) | fail)
  exact .now ⟨rfl, rfl⟩
instance mmust_false : CtrP (env n0 w0 gl) 65 [.bool false] H True thrownM H := .of fun _ => by
  refine enter (md := fun _ => 0) Tryd.func65 (fun hfit hgl => ?_)
  repeat' (first | refine go ?_ | (refine br (fun hc => ?_) (fun hc => ?_) <;> try (exfalso; omega)) | fail)
  exact .now ⟨rfl, rfl⟩
instance mmust_if (b : Bool) : CtrIf (env n0 w0 gl) 65 [.bool b] H True (b = true) (.ret (.tup [])) H (.panic thrownM) H := ⟨fun _ => by
  cases b with
  | true => exact (mmust_true.call trivial).mono fun x H' h => .inl ⟨rfl, h⟩
  | false => exact (mmust_false.call trivial).mono fun x H' h => .inr ⟨by simp, h⟩⟩

/-- The deferred function: nothing was thrownM. -/
theorem mcaught1_none (n : Nat) {R : AE → AMode → List AO → Prop} (h : R (.ret (.tup [])) .returning H) : ACallD (env n0 w0 gl) 106 [.ref n 0] .returning H R := by
  refine ACallD.of_recover (d := none) (fun _ => 0) (fn := Tryd.f106) Tryd.func106 rfl rfl rfl rfl rfl (a2 := ⟨(.ref n 0 :: .nili :: .top :: .top :: .nili :: .top :: .top :: .top :: .top :: .top :: .top :: .top :: .top :: .top :: .top :: []), []⟩) rfl ?_
  intro hfit _
  repeat' (first | refine go ?_ | (refine br (fun hc => ?_) (fun hc => ?_) <;> try (exfalso; omega)) | fail)
  exact .now h

theorem mcaught1_some (n : Nat) {R : AE → AMode → List AO → Prop} (hn : H[n]? = some (.cells [.int .i64 0])) (h : R (.ret (.tup [])) (.panicking [{ v := .iface 139 (.agg []), recovered := true }]) (H.set n (.cells [.int .i64 100]))) : ACallD (env n0 w0 gl) 106 [.ref n 0] (.panicking thrownM) H R := by
  refine ACallD.of_recover (d := none) (fun _ => 0) (fn := Tryd.f106) Tryd.func106 rfl rfl rfl rfl rfl (a2 := ⟨(.ref n 0 :: .iface 139 (.agg []) :: .top :: .top :: .iface 139 (.agg []) :: .top :: .top :: .top :: .top :: .top :: .top :: .top :: .top :: .top :: .top :: []), []⟩) rfl ?_
  intro hfit _
  have hlt := (List.getElem?_eq_some_iff.1 hn).1
  have hh : (∀ l, (H ++ l)[n]? = some (.cells [.int .i64 0])) ∧ (∀ l x, (H ++ l).set n x = H.set n x ++ l) := ⟨fun l => by rw [List.getElem?_append_left hlt, hn], fun l x => List.set_append_left _ _ hlt⟩
  repeat' (first | refine go ?_ | (refine br (fun hc => ?_) (fun hc => ?_) <;> try (exfalso; omega)) | fail)
  have hl : (H.set n (.cells [.int .i64 100])).length = H.length := List.length_set
  have hf : Fit H.length (H.set n (.cells [.int .i64 100])) := fun o ho => by
    rcases List.mem_or_eq_of_mem_set ho with h | h
    · exact hfit o h
    · subst h; rfl
  exact Out.drop _ (by rw [hl]; exact Nat.le_refl _) (by rw [hl]; exact hf) rfl h

/-- What is thrownM in it is caught. -/
theorem mcaught_t (f : FuncId) (first cap : List AV) {R : AE → List AO → Prop} (hdo : Fit H.length H → ACall (env n0 w0 gl) f (first ++ cap) (H ++ [.cells [.int .i64 0]]) (fun x H' => H'[H.length]? = some (.cells [.int .i64 0]) ∧
      ((x = .ret (.tup []) ∧ Out H.length R (.ret (.int .i64 0)) H') ∨ (x = .panic thrownM ∧ Out H.length R (.ret (.int .i64 100)) (H'.set H.length (.cells [.int .i64 100])))))) :
    AEnter (env n0 w0 gl) 61 [.fn f first cap] H R := by
  refine enter (md := fun _ => 0) Tryd.func61 (fun hfit hgl => ?_)
  repeat' (first | refine go ?_ | (refine br (fun hc => ?_) (fun hc => ?_) <;> try (exfalso; omega)) | fail)
  ((with_reducible apply wop_call); (· rfl); (· rfl); (· (simp only [AAct.ev, List.getD_cons_zero, List.getD_cons_succ, constAV, env_gl]; try exact rfl)); (· (simp only [evCallArgs, List.map_cons, List.map_nil, List.nil_append, List.append_nil, List.cons_append, Array.toList, List.toList_toArray, AAct.ev, List.getD_cons_zero, List.getD_cons_succ, constAV, env_gl]; try exact rfl)))
  refine (hdo hfit).mono ?_
  rintro x H' ⟨hc, ⟨rfl, hR⟩ | ⟨rfl, hR⟩⟩
  · have hsame : H'.set H.length (.cells [.int .i64 0]) = H' := by
      apply List.ext_getElem?
      intro i
      by_cases e : H.length = i
      · subst e; rw [List.getElem?_set_self (List.getElem?_eq_some_iff.1 hc).1, hc]
      · rw [List.getElem?_set_ne e]
    have hh := And.intro hc hsame
    repeat' (first | refine go ?_ | (refine br (fun hc => ?_) (fun hc => ?_) <;> try (exfalso; omega)) | fail)
    with_reducible apply fpost_ret_call
    refine mcaught1_none _ ?_
    refine aleave_ret (v := .int .i64 0) ?_ hR
    simp (disch := omega) only [evResults, evResultsL, evResult, Tryd.results61, hc, go_sem, Int.reduceAdd, Int.reduceEq, Int.reduceLE, Int.reduceLT, Int.reduceNeg, Int.reduceSub, Int.reduceToNat, Nat.reduceAdd, Nat.reduceEqDiff, Nat.reduceLT, Nat.reduceLeDiff, Nat.reduceMul, Nat.reduceSub, reduceCtorEq, reduceIte]
  · repeat' (first | refine go ?_ | (refine br (fun hc => ?_) (fun hc => ?_) <;> try (exfalso; omega)) | fail)
    with_reducible apply fpost_panic_call
    refine mcaught1_some _ hc ?_
    refine aleave_ret (v := .int .i64 100) ?_ hR
    simp (disch := omega) only [evResults, evResultsL, evResult, Tryd.results61, List.getElem?_set_self (List.getElem?_eq_some_iff.1 hc).1, go_sem, Int.reduceAdd, Int.reduceEq, Int.reduceLE, Int.reduceLT, Int.reduceNeg, Int.reduceSub, Int.reduceToNat, Nat.reduceAdd, Nat.reduceEqDiff, Nat.reduceLT, Nat.reduceLeDiff, Nat.reduceMul, Nat.reduceSub, reduceCtorEq, reduceIte]

/-- A letter. -/
structure Ltr where
  fro : List UInt8
  at_ : Int
  body : List UInt8
def Ltr.cells (x : Ltr) : List AV := [.str x.fro, .int .i64 x.at_, .sl x.body.length (bytesAV x.body) .ro]
def ltrAV (l : List Ltr) : List AV := l.flatMap Ltr.cells
/-- What a letter's parts are bounded by. -/
def Ltr.Small (x : Ltr) : Prop := x.fro.length ≤ 100000 ∧ x.body.length ≤ 1000000 ∧ x.at_ ≤ 9223372036854775807
def Ltr.Ok (x : Ltr) : Prop := (x.fro.length = 0 ∨ MailboxOk x.fro) ∧ 0 ≤ x.at_ ∧ (x.body.length = 0 ∨ (x.body.getD (x.body.length - 1) 0).toNat = 10)
def whoS (s : List UInt8) : List UInt8 := if s.length = 0 then [45] else s
/-- A letter, shown. -/
def Ltr.show (x : Ltr) : List UInt8 := fromB ++ (whoS x.fro ++ (32 :: (Lib.itoa x.at_ ++ (10 :: (quoteS x.body ++ [10])))))
def showM (l : List Ltr) : List UInt8 := l.flatMap Ltr.show
theorem ltrAV_len (l : List Ltr) : (ltrAV l).length = l.length * 3 := by
  induction l with
  | nil => rfl
  | cons f l ih => simp only [ltrAV, List.flatMap_cons, List.length_append, Ltr.cells, List.length_cons, List.length_nil] at ih ⊢; rw [ih]; omega
@[simp] theorem belowL_ltrAV (n : Nat) (l : List Ltr) : belowL n (ltrAV l) = true := by
  induction l with
  | nil => rfl
  | cons f l ih => simpa [ltrAV, Ltr.cells, belowL, AV.within, belowL_bytesAV] using ih
theorem ltrAV_drop : ∀ (i : Nat) (l : List Ltr), (ltrAV l).drop (i * 3) = ltrAV (l.drop i)
  | 0, l => rfl
  | i + 1, [] => by simp [ltrAV]
  | i + 1, f :: l => by
    rw [show (i + 1) * 3 = i * 3 + 1 + 1 + 1 by omega]
    have := ltrAV_drop i l
    simpa [ltrAV, Ltr.cells] using this
instance : Inhabited Ltr := ⟨⟨[], 0, []⟩⟩
theorem ltrAV_at {i : Nat} {l : List Ltr} (h : i < l.length) : ((ltrAV l).drop (i * 3)).take 3 = (l.getD i default).cells := by
  rw [ltrAV_drop, List.drop_eq_getElem_cons h]
  simp only [ltrAV, List.flatMap_cons]
  rw [List.take_append_of_le_length (by simp [Ltr.cells]), List.take_of_length_le (by simp [Ltr.cells])]
  simp [List.getD_eq_getElem?_getD, h]
theorem showM_take {l : List Ltr} {i : Nat} (h : i < l.length) : showM (l.take (i + 1)) = showM (l.take i) ++ (l.getD i default).show := by
  unfold showM
  rw [List.take_succ_eq_append_getElem h, List.flatMap_append]
  simp [List.getD_eq_getElem?_getD, h]
theorem itoa_len {n : Int} (h0 : 0 ≤ n) (h : n ≤ 9223372036854775807) : (Lib.itoa n).length ≤ 21 := Lib.itoa_length_le n (by omega) h
theorem show_len {x : Ltr} (h : x.Small) (h0 : 0 ≤ x.at_) : x.show.length ≤ 2200000 := by
  have h1 := itoa_len h0 h.2.2
  have h2 := quoteS_len x.body
  have h3 : (whoS x.fro).length ≤ 100001 := by unfold whoS; have := h.1; split <;> simp <;> omega
  have := h.1; have := h.2.1
  simp only [Ltr.show, List.length_append, List.length_cons, List.length_nil, show fromB.length = 5 from rfl]
  omega
theorem showM_len {l : List Ltr} (h : ∀ x ∈ l, x.Small ∧ 0 ≤ x.at_) : (showM l).length ≤ l.length * 2200000 := by
  induction l with
  | nil => simp [showM]
  | cons x l ih =>
    have := ih (fun y hy => h y (by simp [hy]))
    have := show_len (h x (by simp)).1 (h x (by simp)).2
    simp only [showM, List.flatMap_cons, List.length_append, List.length_cons] at *
    omega

theorem export1_t [ht : Tab10 n0 w0] (l : List Ltr) (hl : l.length ≤ 1000000) (hs : ∀ x ∈ l, x.Small) : AEnter (env n0 w0 gl) 73 [.ref H.length 0, .ref (H.length + 1) 0] (H ++ [.cells [.sl l.length (ltrAV l) .ro], .cells [.sl 0 [] .full], .cells [.int .i64 0]])
    (fun y H' => ((∀ x ∈ l, x.Ok) ∧ y = .ret (.tup []) ∧ H' = H ++ [.cells [.sl l.length (ltrAV l) .ro], .cells [.vsl (H.length + 3) (showM l).length], .cells [.int .i64 0], .vec 1 (showM l).length (bytesAV (showM l))]) ∨
      (¬ (∀ x ∈ l, x.Ok) ∧ y = .panic thrownM ∧ ∃ x z, H' = H ++ .cells [.sl l.length (ltrAV l) .ro] :: .cells [x] :: .cells [.int .i64 0] :: z)) := by
  have hfl := ltrAV_len l
  refine enter (md := fun _ => 0) Tryd.func73 (fun hfit hgl => ?_)
  have hgl2 : ∀ i, belowL (H.length + 3) ((env n0 w0 gl).gl i) = true := by simpa using hgl
  have hfit2 : Fit (H.length + 3) H := fun o ho => by have := hfit o (List.mem_append_left _ ho); simpa using this
  refine gos ?_
  refine wseq_shift (Shift.cellVec 1 (H.length + 1) 0 (xs := [.sl 0 [] .full]) (by simp [getE]) (by simp) rfl rfl) ?_
  simp only [List.append_assoc, List.cons_append, List.nil_append, setE, List.set_cons_succ, List.set_cons_zero, List.length_append, List.length_cons, List.length_nil, Nat.zero_add, Nat.reduceAdd]
  repeat' (first | refine go ?_ | (refine br (fun hc => ?_) (fun hc => ?_) <;> try (exfalso; omega)) | fail)
  refine loop (fun i : Nat => (.ref H.length 0 :: .ref (H.length + 1) 0 :: .top :: .top :: .top :: .sl l.length (ltrAV l) .ro :: .int .i64 l.length :: .int .i64 (i : Int) :: .top :: .top :: .top :: .top :: .top :: .top :: .top :: .top :: .top :: .top :: .top :: .top :: .top :: .top :: .top :: .top :: .top :: .top :: .top :: .top :: .top :: .top :: .top :: .top :: .top :: .top :: .top :: .top :: .top :: .top :: .top :: .top :: .top :: .top :: .top :: .top :: .top :: .top :: .top :: .top :: .top :: .top :: .top :: .top :: .top :: .top :: .top :: .top :: .top :: .top :: .top :: .top :: .top :: .top :: .top :: [])) (fun i => H ++ [.cells [.sl l.length (ltrAV l) .ro], .cells [.vsl (H.length + 3) (showM (l.take i)).length], .cells [.int .i64 0], .vec 1 (showM (l.take i)).length (bytesAV (showM (l.take i)))])
    (fun i => i ≤ l.length ∧ ∀ k, k < i → (l.getD k default).Ok) (fun i => l.length - i) 0 ⟨Nat.zero_le _, fun k h => absurd h (Nat.not_lt_zero _)⟩ ?_
  rintro i ⟨hi, hall⟩
  by_cases hlt : i < l.length
  · have hat := ltrAV_at hlt
    have hmem : l.getD i default ∈ l := by rw [List.getD_eq_getElem?_getD, List.getElem?_eq_getElem hlt]; exact List.getElem_mem _
    obtain ⟨hx1, hx2, hx3⟩ := hs _ hmem
    have hst := showM_take hlt
    have hbd : (showM (l.take i)).length ≤ 1000000 * 2200000 := Nat.le_trans (showM_len fun x hx => ⟨hs x (List.mem_of_mem_take hx), by
      obtain ⟨k, hk, rfl⟩ := List.getElem_of_mem hx
      simp only [List.length_take] at hk
      have := (hall k (by omega)).2.1
      rw [List.getD_eq_getElem?_getD, List.getElem?_eq_getElem (by omega)] at this
      rw [List.getElem_take]; exact this⟩) (by rw [List.length_take]; exact Nat.mul_le_mul_right _ (by omega))
    have hno : ¬ (l.getD i default).Ok → ¬ ∀ x ∈ l, x.Ok := fun h hh => h (hh _ hmem)
    have hyes : (l.getD i default).Ok → ∀ k, k < i + 1 → (l.getD k default).Ok := fun h k hk => by
      rcases Nat.lt_succ_iff_lt_or_eq.1 hk with h1 | h1
      · exact hall k h1
      · subst h1; exact h
    generalize l.getD i default = x at *
    obtain ⟨fro, a, body⟩ := x
    simp only [Ltr.cells] at hat
    simp only at hx1 hx2 hx3
    by_cases hok : (Ltr.mk fro a body).Ok
    · obtain ⟨hF, ha, hB⟩ := hok
      simp only at hF ha hB
      have hit := itoa_len ha hx3
      have hql := quoteS_len body
      have hh := And.intro hfl (And.intro hat hit)
      repeat' (first | refine go ?_ | (refine br (fun hc => ?_) (fun hc => ?_) <;> try (exfalso; omega)) | fail)
      all_goals try (exfalso; rcases hF with h | h; · exact absurd h (by assumption)
                     rw [tf_true h] at *; contradiction)
      all_goals
        refine againJ (i + 1) ⟨by omega, hyes ⟨hF, ha, hB⟩⟩ (by omega) [.cells [.str fro, .int .i64 a, .sl body.length (bytesAV body) .ro]] ?_
        have hc0 := hc
        simp [hst, Ltr.show, whoS, hc0, fromB, bytesAV, byteAV]
        omega
    · by_cases hF : fro.length = 0 ∨ MailboxOk fro
      · by_cases ha : 0 ≤ a
        · have hB : ¬ (body.length = 0 ∨ (body.getD (body.length - 1) 0).toNat = 10) := fun h => hok ⟨hF, ha, h⟩
          rcases hF with hF | hF
          · have hh := And.intro hfl hat
            repeat' (first | refine go ?_ | (refine br (fun hc => ?_) (fun hc => ?_) <;> try (exfalso; omega)) | fail)
            all_goals exact .now (.inr ⟨hno hok, rfl, _, _, rfl⟩)
          · have hh := And.intro hfl (And.intro hat (tf_true hF))
            repeat' (first | refine go ?_ | (refine br (fun hc => ?_) (fun hc => ?_) <;> try (exfalso; omega)) | fail)
            all_goals exact .now (.inr ⟨hno hok, rfl, _, _, rfl⟩)
        · rcases hF with hF | hF
          · have hh := And.intro hfl hat
            repeat' (first | refine go ?_ | (refine br (fun hc => ?_) (fun hc => ?_) <;> try (exfalso; omega)) | fail)
            all_goals exact .now (.inr ⟨hno hok, rfl, _, _, rfl⟩)
          · have hh := And.intro hfl (And.intro hat (tf_true hF))
            repeat' (first | refine go ?_ | (refine br (fun hc => ?_) (fun hc => ?_) <;> try (exfalso; omega)) | fail)
            all_goals exact .now (.inr ⟨hno hok, rfl, _, _, rfl⟩)
      · have h1 : fro.length ≠ 0 := fun h => hF (.inl h)
        have hh := And.intro hfl (And.intro hat (tf_false (p := MailboxOk fro) fun h => hF (.inr h)))
        repeat' (first | refine go ?_ | (refine br (fun hc => ?_) (fun hc => ?_) <;> try (exfalso; omega)) | fail)
        all_goals exact .now (.inr ⟨hno hok, rfl, _, _, rfl⟩)
  · obtain rfl : i = l.length := by omega
    rw [List.take_length]
    have hA : ∀ x ∈ l, x.Ok := fun x hx => by
      obtain ⟨k, hk, rfl⟩ := List.getElem_of_mem hx
      have := hall k hk
      rwa [List.getD_eq_getElem?_getD, List.getElem?_eq_getElem hk] at this
    repeat' (first | refine go ?_ | (refine br (fun hc => ?_) (fun hc => ?_) <;> try (exfalso; omega)) | fail)
    exact .now (.inl ⟨hA, rfl, rfl⟩)

/-- What is exported, or an error's number. -/
noncomputable def exportV (l : List Ltr) : AV := if tf (∀ x ∈ l, x.Ok) then .tup [.sl (showM l).length (bytesAV (showM l)) .ro, .int .i64 0] else .tup [.sl 0 [] .full, .int .i64 100]

instance export_t [ht : Tab10 n0 w0] (l : List Ltr) : Ctr (env n0 w0 gl) 26 [.sl l.length (ltrAV l) .ro] H (l.length ≤ 1000000 ∧ ∀ x ∈ l, x.Small) (exportV l) H := .of fun ⟨hl, hs⟩ => by
  have hp := export1_t (n0 := n0) (w0 := w0) (gl := gl) (H := H) l hl hs
  unfold exportV
  refine enter (md := fun _ => 0) Tryd.func26 (fun hfit hgl => ?_)
  repeat' (first | refine go ?_ | (refine br (fun hc => ?_) (fun hc => ?_) <;> try (exfalso; omega)) | fail)
  ((with_reducible apply wop_call); (· rfl); (· rfl); (· (simp only [AAct.ev, List.getD_cons_zero, List.getD_cons_succ, constAV, env_gl]; try exact rfl)); (· (simp only [evCallArgs, List.map_cons, List.map_nil, List.nil_append, List.append_nil, List.cons_append, Array.toList, List.toList_toArray, AAct.ev, List.getD_cons_zero, List.getD_cons_succ, constAV, env_gl]; try exact rfl)))
  by_cases hok : ∀ x ∈ l, x.Ok
  · rw [tf_true hok]
    refine (mcaught_t (R := fun x H' => x = .ret (.int .i64 0) ∧ H' = H ++ [.cells [.sl l.length (ltrAV l) .ro], .cells [.vsl (H.length + 3) (showM l).length], .cells [.int .i64 0], .vec 1 (showM l).length (bytesAV (showM l))]) _ [] _ fun hf2 => ?_).call.mono ?_
    · simp only [List.append_assoc, List.cons_append, List.nil_append]
      refine hp.call.mono ?_
      rintro x H' (⟨_, rfl, rfl⟩ | ⟨h, _⟩)
      · exact ⟨by simp, .inl ⟨rfl, .now ⟨rfl, by simp⟩⟩⟩
      · exact absurd hok h
    · rintro x H' ⟨rfl, rfl⟩
      refine gos ?_
      refine wseq_normal ?_
      refine gos ?_
      refine wseq_normal ?_
      refine gos ?_
      refine wseq_shift (Shift.cellKnow (H.length + 1) 0 (H.length + 3) (xs := [.vsl (H.length + 3) (showM l).length]) (sz := 1) (n := (showM l).length) (ys := bytesAV (showM l)) (by simp [getE]) rfl (by simp) (by simp [getE]) rfl) ?_
      simp only [getE, setE, List.set_cons_succ, List.set_cons_zero]
      repeat' (first | refine go ?_ | (refine br (fun hc => ?_) (fun hc => ?_) <;> try (exfalso; omega)) | fail)
      exact .junkd ⟨rfl, rfl⟩
  · rw [tf_false hok]
    refine (mcaught_t (R := fun x H' => x = .ret (.int .i64 100) ∧ ∃ x z, H' = H ++ .cells [.sl l.length (ltrAV l) .ro] :: .cells [x] :: .cells [.int .i64 100] :: z) _ [] _ fun hf2 => ?_).call.mono ?_
    · simp only [List.append_assoc, List.cons_append, List.nil_append]
      refine hp.call.mono ?_
      rintro x H' (⟨h, _⟩ | ⟨_, rfl, y, z, rfl⟩)
      · exact absurd h hok
      · exact ⟨by simp, .inr ⟨rfl, .now ⟨rfl, y, z, by simp⟩⟩⟩
    · rintro x H' ⟨rfl, y, z, rfl⟩
      repeat' (first | refine go ?_ | (refine br (fun hc => ?_) (fun hc => ?_) <;> try (exfalso; omega)) | fail)
      exact .junkd ⟨rfl, rfl⟩

end Go.Ab.Tryd
