/- Walks: the law on who is told. -/
import Derived.Test.YtbncpinpfmfjiaaDoorLBnc2
import Derived.Test.YtbncpinpfmfjiaaDoorLLaw11
set_option linter.unusedSimpArgs false
set_option linter.unusedVariables false
set_option maxHeartbeats 4000000
set_option maxRecDepth 4000
namespace Go.Ab.Tryd
open Go Go.Ab Go.Proofs
attribute [local irreducible] W Wl Wop TrA WSeq WLoopS FPost DPost RPost WRound DK onEnd
variable {n0 : Nat} {w0 : World} {gl : Nat → List AV} {H : List AO}
attribute [local simp] belowL_bytesAV belowL_strsM

instance mailbox23_t (s : List UInt8) : Ctr (env n0 w0 gl) 30 [.str s] H (s.length ≤ 9223372036854775807) (.bool (tf (MailboxOk s))) H := .of fun hs => by
  refine enter (md := fun _ => 0) Tryd.func30 (fun hfit hgl => ?_)
  repeat' (first | refine go ?_ | (refine br (fun hc => ?_) (fun hc => ?_) <;> try (exfalso; omega)) | fail)
  exact .now ⟨rfl, rfl⟩
instance domain23_t (s : List UInt8) : Ctr (env n0 w0 gl) 31 [.str s] H (s.length ≤ 9223372036854775807) (.bool (tf (DomainOk s))) H := .of fun hs => by
  refine enter (md := fun _ => 0) Tryd.func31 (fun hfit hgl => ?_)
  repeat' (first | refine go ?_ | (refine br (fun hc => ?_) (fun hc => ?_) <;> try (exfalso; omega)) | fail)
  exact .now ⟨rfl, rfl⟩

theorem mailbox_nil : ¬ MailboxOk [] := by
  rintro ⟨k, h, _⟩
  simp [lastAt] at h
theorem mail_cd : MailboxOk [99, 64, 100] := by
  refine ⟨1, rfl, by omega, by omega, ⟨?_, by simp⟩, ?_⟩
  · intro p hp
    simp [parts] at hp
    subst hp
    refine ⟨by simp, by simp, by simp, by simp, fun i hi => ?_⟩
    obtain rfl : i = 0 := by simp at hi; omega
    left; decide
  · intro p hp
    simp [parts] at hp
    subst hp
    refine ⟨fun i hi => ?_, by simp⟩
    obtain rfl : i = 0 := by simp at hi; omega
    decide
theorem domain_h : DomainOk [104] := by
  refine ⟨?_, by simp⟩
  intro p hp
  simp [parts] at hp
  subst hp
  refine ⟨by simp, by simp, by simp, by simp, fun i hi => ?_⟩
  obtain rfl : i = 0 := by simp at hi; omega
  left; decide

theorem rels_make {g : Ghost} {host fro : List UInt8} {now : Int} {n m : Nat} {xs ys : List AV} {a : AV} {tok tok2 : Tok} {cs : Array Value} (h : VRels g [.str host, .int .i64 now, .agg [.str fro, .sl n xs tok, a], .sl m ys tok2] cs) : VRels g [.str host, .int .i64 now, .agg [.str fro, .sl n xs .ro, a], .sl m ys .ro] cs := ⟨h.1, fun i => match i with
  | 0 => h.2 0
  | 1 => h.2 1
  | 2 => by
    have := h.2 2
    simp only [List.getD_cons_zero, List.getD_cons_succ] at this ⊢
    generalize cs.getD 2 undef = c at this
    cases this with
    | agg _ cs2 hl hv => exact .agg _ _ hl (fun j => match j with
      | 0 => hv 0
      | 1 => sl_ro g _ (hv 1)
      | 2 => hv 2
      | j + 3 => .top _)
  | 3 => sl_ro g _ (h.2 3)
  | i + 4 => .top _⟩

theorem bnc_len : 20 < (bncH [104] [97, 64, 98] ++ toldS [⟨0, [99, 64, 100], 3, 0, 0, 550⟩]).length := by
  have : 20 < (bncH [104] [97, 64, 98]).length := by decide +kernel
  rw [List.length_append]; omega
theorem told_cd : toldS [⟨0, [99, 64, 100], 3, 0, 0, 550⟩] ≠ [] := by
  intro h
  have := congrArg List.length h
  simp only [toldS, List.flatMap_cons, List.flatMap_nil, List.append_nil, JobA.told] at this
  rw [tf_true (p := JobA.Told ⟨0, [99, 64, 100], 3, 0, 0, 550⟩) ⟨rfl, mail_cd⟩] at this
  simp at this

theorem awake23_e [ht : Tab10 n0 w0] : AEnter (env n0 w0 gl) 27 [] H (fun y H' => y = .ret (.bool true) ∧ H' = H) := by
  have hA : ∀ H tok tok2, Ctr (env n0 w0 gl) 29 [.str [104], .int .i64 0, .agg [.str [], .sl 0 [] tok, .int .i64 0], .sl 0 [] tok2] H True (.tup [.agg [.str [], .sl 0 [] .full, .int .i64 0], .sl 0 [] .full, .bool false]) H := fun H tok tok2 => ⟨fun _ => by
    have := (make_e (n0 := n0) (w0 := w0) (gl := gl) (H := H) [104] 0 [] [] 0 [] (by decide) (by decide) (by decide) (by simp)).call
    rw [show makeV [104] 0 [] [] = .tup [.agg [.str [], .sl 0 [] .full, .int .i64 0], .sl 0 [] .full, .bool false] from by
      unfold makeV; rw [tf_false (fun h => mailbox_nil h.1.1)]; rfl] at this
    exact this.weaker fun g cs h => rels_make h⟩
  have hB : ∀ H tok tok2, Ctr (env n0 w0 gl) 29 [.str [104], .int .i64 5, .agg [.str [97, 64, 98], .sl 0 [] tok, .int .i64 0], .sl 1 [.int .i64 0, .str [99, 64, 100], .int .i64 3, .int .i64 0, .int .i64 0, .int .i64 550] tok2] H True
      (.tup [.agg [.str [], .sl 1 [.str [97, 64, 98]] .full, .int .i64 5], .sl (bncH [104] [97, 64, 98] ++ toldS [⟨0, [99, 64, 100], 3, 0, 0, 550⟩]).length (bytesAV (bncH [104] [97, 64, 98] ++ toldS [⟨0, [99, 64, 100], 3, 0, 0, 550⟩])) .ro, .bool true]) H := fun H tok tok2 => ⟨fun _ => by
    have := (make_e (n0 := n0) (w0 := w0) (gl := gl) (H := H) [104] 5 [97, 64, 98] [] 0 [⟨0, [99, 64, 100], 3, 0, 0, 550⟩] (by decide) (by decide) (by decide) (by
      intro x hx
      simp only [List.mem_singleton] at hx; subst hx
      exact ⟨⟨by decide, by decide, by decide⟩, by decide⟩)).call
    rw [show makeV [104] 5 [97, 64, 98] [⟨0, [99, 64, 100], 3, 0, 0, 550⟩] = .tup [.agg [.str [], .sl 1 [.str [97, 64, 98]] .full, .int .i64 5], .sl (bncH [104] [97, 64, 98] ++ toldS [⟨0, [99, 64, 100], 3, 0, 0, 550⟩]).length (bytesAV (bncH [104] [97, 64, 98] ++ toldS [⟨0, [99, 64, 100], 3, 0, 0, 550⟩])) .ro, .bool true] from by
      unfold makeV; rw [tf_true ⟨⟨mail_ab, domain_h, by decide⟩, told_cd⟩]; rfl] at this
    exact this.weaker fun g cs h => rels_make h⟩
  have hlen := bnc_len
  generalize bncH [104] [97, 64, 98] ++ toldS [⟨0, [99, 64, 100], 3, 0, 0, 550⟩] = r at *
  refine enter (md := fun _ => 0) Tryd.func27 (fun hfit hgl => ?_)
  repeat' (first | refine go ?_ | (refine br (fun hc => ?_) (fun hc => ?_) <;> try (exfalso; omega)) | fail)
  rw [decide_eq_true (by omega)]
  exact .junkd ⟨rfl, rfl⟩
instance awake23_t [ht : Tab10 n0 w0] : Ctr (env n0 w0 gl) 27 [] H True (.bool true) H := .of fun _ => awake23_e

/-- Few jobs, and short texts. -/
def JFew (host fro : List UInt8) (to : List (List UInt8)) (l : List JobA) : Prop := l.length ≤ 20 ∧ host.length ≤ 300 ∧ fro.length ≤ 300 ∧ to.length ≤ 20 ∧ ∀ k, k < l.length → (l.getD k default).rcpt.length ≤ 300
theorem few23_e (host fro : List UInt8) (to : List (List UInt8)) (a : Int) (l : List JobA) (h1 : host.length ≤ 9223372036854775807) (h : EnvBig fro to a) (hl : l.length ≤ 9223372036854775807) (hb : ∀ x ∈ l, x.Big) :
    AEnter (env n0 w0 gl) 28 [.str host, .agg [.str fro, .sl to.length (to.map .str) .ro, .int .i64 a], .sl l.length (jobAV l) .ro] H (fun y H' => y = .ret (.bool (tf (JFew host fro to l))) ∧ H' = H) := by
  obtain ⟨h2, h3, h4, h5⟩ := h
  have hfl := jobAV_len l
  refine enter (md := fun _ => 0) Tryd.func28 (fun hfit hgl => ?_)
  repeat' (first | refine go ?_ | (refine br (fun hc => ?_) (fun hc => ?_) <;> try (exfalso; omega)) | fail)
  all_goals try (rw [tf_false (p := JFew host fro to l) (by rintro ⟨q1, q2, q3, q4, q5⟩; omega)]; exact .junkd ⟨rfl, rfl⟩)
  refine loop (fun i : Nat => (.top :: .top :: .sl l.length (jobAV l) .ro :: .top :: .ref H.length 0 :: .top :: .bool false :: .top :: .top :: .top :: .top :: .top :: .top :: .top :: .top :: .top :: .top :: .top :: .top :: .top :: .top :: .top :: .top :: .top :: .top :: .top :: .top :: .top :: .top :: .sl l.length (jobAV l) .ro :: .int .i64 l.length :: .int .i64 (i : Int) :: .top :: .top :: .top :: .top :: .top :: .top :: .top :: .top :: [])) (fun i => H ++ [.cells [.str fro, .sl to.length (to.map .str) .ro, .int .i64 a]]) (fun i => i ≤ l.length ∧ ∀ k, k < i → (l.getD k default).rcpt.length ≤ 300) (fun i => l.length - i) 0 ⟨Nat.zero_le _, fun k h => absurd h (Nat.not_lt_zero _)⟩ ?_
  rintro i ⟨hi, hall⟩
  by_cases hlt : i < l.length
  · have hat := jobAV_at hlt
    have hmem : l.getD i default ∈ l := by rw [List.getD_eq_getElem?_getD, List.getElem?_eq_getElem hlt]; exact List.getElem_mem _
    have hbx := hb _ hmem
    have hno : ¬ (l.getD i default).rcpt.length ≤ 300 → ¬ JFew host fro to l := fun h hh => h (hh.2.2.2.2 i hlt)
    have hyes : (l.getD i default).rcpt.length ≤ 300 → ∀ k, k < i + 1 → (l.getD k default).rcpt.length ≤ 300 := fun h k hk => by
      rcases Nat.lt_succ_iff_lt_or_eq.1 hk with h1 | h1
      · exact hall k h1
      · subst h1; exact h
    generalize l.getD i default = x at *
    obtain ⟨id, rc, st, tr, nx, co⟩ := x
    obtain ⟨b1, b2, b3⟩ := hbx
    simp only [JobA.cells] at hat
    simp only at hno hyes b1
    have hh := And.intro hfl hat
    repeat' (first | refine go ?_ | (refine br (fun hc => ?_) (fun hc => ?_) <;> try (exfalso; omega)) | fail)
    all_goals first
      | (rw [tf_false (hno (by omega))]; exact .junkd ⟨rfl, rfl⟩)
      | exact againJ (i + 1) ⟨by omega, hyes (by omega)⟩ (by omega) [.cells [.int .i64 id, .str rc, .int .i64 st, .int .i64 tr, .int .i64 nx, .int .i64 co]] (by simp)
  · obtain rfl : i = l.length := by omega
    rw [tf_true (p := JFew host fro to l) ⟨by omega, by omega, by omega, by omega, hall⟩]
    repeat' (first | refine go ?_ | (refine br (fun hc => ?_) (fun hc => ?_) <;> try (exfalso; omega)) | fail)
    exact .junkd ⟨rfl, rfl⟩

/-- How many are told. -/
noncomputable def cntT (l : List JobA) : Nat := (l.filter fun x => tf x.Told).length
theorem cntT_take {l : List JobA} {i : Nat} (h : i < l.length) : cntT (l.take (i + 1)) = cntT (l.take i) + (if tf (l.getD i default).Told then 1 else 0) := by
  unfold cntT
  rw [List.take_succ_eq_append_getElem h, List.filter_append, List.length_append]
  simp only [List.getD_eq_getElem?_getD, List.getElem?_eq_getElem h, Option.getD_some]
  congr 1
  rw [List.filter_cons, List.filter_nil]
  split <;> simp
theorem cntT_le (l : List JobA) : cntT l ≤ l.length := List.length_filter_le ..
theorem told_iff (l : List JobA) : toldS l ≠ [] ↔ 0 < cntT l := by
  induction l with
  | nil => simp [toldS, cntT]
  | cons x l ih =>
    by_cases h : x.Told
    · have h1 : toldS (x :: l) ≠ [] := by
        simp only [toldS, List.flatMap_cons, JobA.told]
        rw [tf_true h]; simp
      have h2 : 0 < cntT (x :: l) := by unfold cntT; rw [List.filter_cons, if_pos (tf_true h)]; simp
      exact ⟨fun _ => h2, fun _ => h1⟩
    · have h1 : toldS (x :: l) = toldS l := by simp only [toldS, List.flatMap_cons, JobA.told]; rw [tf_false h]; simp
      have h2 : cntT (x :: l) = cntT l := by unfold cntT; rw [List.filter_cons, if_neg (by rw [tf_false h]; simp)]
      rw [h1, h2]; exact ih

theorem bounceTells_t [ht : Tab10 n0 w0] (host : List UInt8) (now : Int) (fro : List UInt8) (to : List (List UInt8)) (a : Int) (l : List JobA) (h1 : host.length ≤ 9223372036854775807) (hn : -9223372036854775808 ≤ now ∧ now ≤ 9223372036854775807) (h : EnvBig fro to a) (hl : l.length ≤ 9223372036854775807) (hb : ∀ x ∈ l, x.Big) :
    AEnter (env n0 w0 gl) 8 [.str host, .int .i64 now, .agg [.str fro, .sl to.length (to.map .str) .ro, .int .i64 a], .sl l.length (jobAV l) .ro] H (fun y H' => y = .ret (.bool true) ∧ H' = H) := by
  have hf : ∀ H, Ctr (env n0 w0 gl) 28 [.str host, .agg [.str fro, .sl to.length (to.map .str) .ro, .int .i64 a], .sl l.length (jobAV l) .ro] H True (.bool (tf (JFew host fro to l))) H := fun H => .of fun _ => few23_e host fro to a l h1 h hl hb
  by_cases hF : JFew host fro to l
  · rw [tf_true hF] at hf
    obtain ⟨q1, q2, q3, q4, q5⟩ := hF
    obtain ⟨h2, h3, h4, h5⟩ := h
    have hjs : ∀ x ∈ l, x.Big ∧ x.rcpt.length ≤ 1000 := fun x hx => ⟨hb x hx, by
      obtain ⟨k, hk, rfl⟩ := List.getElem_of_mem hx
      have := q5 k hk
      rw [List.getD_eq_getElem?_getD, List.getElem?_eq_getElem hk] at this
      simp only [Option.getD_some] at this; omega⟩
    have hV : ∃ env2 x tok, makeV host now fro l = .tup [.agg env2, .sl (List.length x) (bytesAV x) tok, .bool (tf (MakeOk host now fro ∧ 0 < cntT l))] ∧ (∃ e0 e1 e2, env2 = [.str e0, e1, .int .i64 e2] ∧ ∃ (n : Nat) (xs : List (List UInt8)), e1 = .sl n (xs.map .str) .full) ∧ (tok = .ro ∨ tok = .full) ∧ (0 < x.length ↔ MakeOk host now fro ∧ 0 < cntT l) := by
      unfold makeV
      by_cases hm : MakeOk host now fro ∧ toldS l ≠ []
      · have hm2 : MakeOk host now fro ∧ 0 < cntT l := ⟨hm.1, (told_iff l).1 hm.2⟩
        rw [tf_true hm, tf_true hm2]
        exact ⟨_, _, _, rfl, ⟨_, _, _, rfl, 1, [fro], rfl⟩, .inl rfl, ⟨fun _ => hm2, fun _ => by
          rw [List.length_append]
          have : 0 < (toldS l).length := List.length_pos_iff.2 hm.2
          omega⟩⟩
      · have hm2 : ¬ (MakeOk host now fro ∧ 0 < cntT l) := fun h => hm ⟨h.1, (told_iff l).2 h.2⟩
        rw [tf_false hm, tf_false hm2]
        exact ⟨_, [], _, rfl, ⟨_, _, _, rfl, 0, [], rfl⟩, .inr rfl, ⟨fun h => absurd h (Nat.lt_irrefl _), fun h => absurd h hm2⟩⟩
    obtain ⟨env2, x, tok, hx, ⟨e0, e1, e2, rfl, en, exs, rfl⟩, htok, hxl⟩ := hV
    have hM : ∀ H, Ctr (env n0 w0 gl) 29 [.str host, .int .i64 now, .agg [.str fro, .sl to.length (to.map .str) .ro, .int .i64 a], .sl l.length (jobAV l) .ro] H True (.tup [.agg [.str e0, .sl en (exs.map .str) .full, .int .i64 e2], .sl x.length (bytesAV x) tok, .bool (tf (MakeOk host now fro ∧ 0 < cntT l))]) H := fun H => .of fun _ => by
      have := make_e (n0 := n0) (w0 := w0) (gl := gl) (H := H) host now fro to a l h1 h2 (by omega) hjs
      rwa [hx] at this
    have hfl := jobAV_len l
    have hcl := cntT_le l
    have htw : tf (MakeOk host now fro ∧ 0 < cntT l) = true ↔ 0 < x.length := ⟨fun h => hxl.2 (tf_iff.1 h), fun h => tf_true (hxl.1 h)⟩
    generalize htw2 : tf (MakeOk host now fro ∧ 0 < cntT l) = tw at *
    rcases htok with rfl | rfl
    · refine enter (md := fun _ => 0) Tryd.func8 (fun hfit hgl => ?_)
      repeat' (first | refine go ?_ | (refine br (fun hc => ?_) (fun hc => ?_) <;> try (exfalso; omega)) | fail)
      refine loop (fun i : Nat => (.str host :: .int .i64 now :: .top :: .sl l.length (jobAV l) .ro :: .top :: .top :: .ref H.length 0 :: .top :: .bool false :: .ref (H.length + 1) 0 :: .sl x.length (bytesAV x) .ro :: .bool tw :: .int .i64 (cntT (l.take i) : Nat) :: .top :: .top :: .top :: .top :: .top :: .top :: .top :: .top :: .top :: .top :: .top :: .top :: .top :: .top :: .top :: .top :: .top :: .top :: .top :: .sl l.length (jobAV l) .ro :: .int .i64 l.length :: .int .i64 (i : Int) :: .top :: .top :: .top :: .top :: .top :: .top :: .top :: .top :: .top :: .top :: .top :: .top :: .top :: .top :: .top :: .top :: .top :: .top :: .top :: .top :: .top :: .top :: .top :: .top :: .top :: .top :: .top :: .top :: .top :: .top :: .top :: .top :: .top :: .top :: .top :: .top :: .top :: .top :: .top :: []))
        (fun i => H ++ [.cells [.str fro, .sl to.length (to.map .str) .ro, .int .i64 a], .cells [.str e0, .sl en (exs.map .str) .full, .int .i64 e2]]) (fun i => i ≤ l.length) (fun i => l.length - i) 0 (Nat.zero_le _) ?_
      intro i hi
      by_cases hlt : i < l.length
      · have hat := jobAV_at hlt
        have hmem : l.getD i default ∈ l := by rw [List.getD_eq_getElem?_getD, List.getElem?_eq_getElem hlt]; exact List.getElem_mem _
        obtain ⟨hxb, hxl9⟩ := hjs _ hmem
        have htk := cntT_take hlt
        have hci := cntT_le (l.take i)
        rw [List.length_take] at hci
        generalize l.getD i default = y at *
        have htd : y.Told ∨ ¬ y.Told := Classical.em _
        obtain ⟨id, rc, st, tr, nx, co⟩ := y
        simp only [JobA.cells] at hat
        simp only at hxl9
        rcases htd with htd | htd
        · rw [tf_true htd, if_pos rfl] at htk
          obtain ⟨w1, w2⟩ := htd
          simp only at w1 w2
          subst w1
          have e5 : ((cntT (l.take i) : Nat) : Int) + 1 = ((cntT (l.take (i + 1)) : Nat) : Int) := by rw [htk]; omega
          have hh := And.intro (tf_true w2) (And.intro hfl hat)
          repeat' (first | refine go ?_ | (refine br (fun hc => ?_) (fun hc => ?_) <;> try (exfalso; omega)) | fail)
          rw [e5]
          exact againJ (i + 1) (by omega) (by omega) [.cells [.int .i64 id, .str rc, .int .i64 3, .int .i64 tr, .int .i64 nx, .int .i64 co]] (by simp)
        · rw [tf_false htd] at htk
          simp only [Bool.false_eq_true, if_false, Nat.add_zero] at htk
          by_cases w1 : st = 3
          · have w2 : ¬ MailboxOk rc := fun h => htd ⟨w1, h⟩
            subst w1
            have hh := And.intro (tf_false w2) (And.intro hfl hat)
            repeat' (first | refine go ?_ | (refine br (fun hc => ?_) (fun hc => ?_) <;> try (exfalso; omega)) | fail)
            rw [← htk]
            exact againJ (i + 1) (by omega) (by omega) [.cells [.int .i64 id, .str rc, .int .i64 3, .int .i64 tr, .int .i64 nx, .int .i64 co]] (by simp)
          · have hh := And.intro hfl hat
            repeat' (first | refine go ?_ | (refine br (fun hc => ?_) (fun hc => ?_) <;> try (exfalso; omega)) | fail)
            rw [← htk]
            exact againJ (i + 1) (by omega) (by omega) [.cells [.int .i64 id, .str rc, .int .i64 st, .int .i64 tr, .int .i64 nx, .int .i64 co]] (by simp)
      · obtain rfl : i = l.length := by omega
        rw [List.take_length]
        have hw : tw = true ↔ (MailboxOk fro ∧ DomainOk host ∧ 0 ≤ now) ∧ 0 < cntT l := by rw [← htw2]; exact ⟨fun h => tf_iff.1 h, fun h => tf_true h⟩
        cases tw with
        | true =>
          obtain ⟨⟨m1, m2, m3⟩, m4⟩ := hw.1 rfl
          have m5 := htw.1 rfl
          have hh := And.intro (tf_true m1) (tf_true m2)
          repeat' (first | refine go ?_ | (refine br (fun hc => ?_) (fun hc => ?_) <;> try (exfalso; omega)) | fail)
          all_goals first
            | exact .junkd ⟨rfl, rfl⟩
            | (refine .junkd ⟨?_, rfl⟩
               congr 2
               simp only [decide_eq_true_eq, decide_eq_true (show (0 : Int) < (x.length : Int) by omega)])
        | false =>
          have m5 : ¬ 0 < x.length := fun h => by have := htw.2 h; contradiction
          have m6 : ¬ ((MailboxOk fro ∧ DomainOk host ∧ 0 ≤ now) ∧ 0 < cntT l) := fun h => by have := hw.2 h; contradiction
          by_cases m1 : MailboxOk fro
          · by_cases m2 : DomainOk host
            · have m7 : ¬ (0 ≤ now ∧ 0 < cntT l) := fun h => m6 ⟨⟨m1, m2, h.1⟩, h.2⟩
              have hh := And.intro (tf_true m1) (tf_true m2)
              repeat' (first | refine go ?_ | (refine br (fun hc => ?_) (fun hc => ?_) <;> try (exfalso; omega)) | fail)
              all_goals first
                | exact .junkd ⟨rfl, rfl⟩
                | (refine .junkd ⟨?_, rfl⟩
                   congr 2
                   simp only [decide_eq_true_eq, decide_eq_false (show ¬ (0 : Int) < (x.length : Int) by omega)])
            · have hh := And.intro (tf_true m1) (tf_false m2)
              repeat' (first | refine go ?_ | (refine br (fun hc => ?_) (fun hc => ?_) <;> try (exfalso; omega)) | fail)
              all_goals first
                | exact .junkd ⟨rfl, rfl⟩
                | (refine .junkd ⟨?_, rfl⟩
                   congr 2
                   simp only [decide_eq_true_eq, decide_eq_false (show ¬ (0 : Int) < (x.length : Int) by omega)])
          · have hh := tf_false m1
            repeat' (first | refine go ?_ | (refine br (fun hc => ?_) (fun hc => ?_) <;> try (exfalso; omega)) | fail)
            all_goals first
              | exact .junkd ⟨rfl, rfl⟩
              | (refine .junkd ⟨?_, rfl⟩
                 congr 2
                 simp only [decide_eq_true_eq, decide_eq_false (show ¬ (0 : Int) < (x.length : Int) by omega)])
    · refine enter (md := fun _ => 0) Tryd.func8 (fun hfit hgl => ?_)
      repeat' (first | refine go ?_ | (refine br (fun hc => ?_) (fun hc => ?_) <;> try (exfalso; omega)) | fail)
      refine loop (fun i : Nat => (.str host :: .int .i64 now :: .top :: .sl l.length (jobAV l) .ro :: .top :: .top :: .ref H.length 0 :: .top :: .bool false :: .ref (H.length + 1) 0 :: .sl x.length (bytesAV x) .full :: .bool tw :: .int .i64 (cntT (l.take i) : Nat) :: .top :: .top :: .top :: .top :: .top :: .top :: .top :: .top :: .top :: .top :: .top :: .top :: .top :: .top :: .top :: .top :: .top :: .top :: .top :: .sl l.length (jobAV l) .ro :: .int .i64 l.length :: .int .i64 (i : Int) :: .top :: .top :: .top :: .top :: .top :: .top :: .top :: .top :: .top :: .top :: .top :: .top :: .top :: .top :: .top :: .top :: .top :: .top :: .top :: .top :: .top :: .top :: .top :: .top :: .top :: .top :: .top :: .top :: .top :: .top :: .top :: .top :: .top :: .top :: .top :: .top :: .top :: .top :: .top :: []))
        (fun i => H ++ [.cells [.str fro, .sl to.length (to.map .str) .ro, .int .i64 a], .cells [.str e0, .sl en (exs.map .str) .full, .int .i64 e2]]) (fun i => i ≤ l.length) (fun i => l.length - i) 0 (Nat.zero_le _) ?_
      intro i hi
      by_cases hlt : i < l.length
      · have hat := jobAV_at hlt
        have hmem : l.getD i default ∈ l := by rw [List.getD_eq_getElem?_getD, List.getElem?_eq_getElem hlt]; exact List.getElem_mem _
        obtain ⟨hxb, hxl9⟩ := hjs _ hmem
        have htk := cntT_take hlt
        have hci := cntT_le (l.take i)
        rw [List.length_take] at hci
        generalize l.getD i default = y at *
        have htd : y.Told ∨ ¬ y.Told := Classical.em _
        obtain ⟨id, rc, st, tr, nx, co⟩ := y
        simp only [JobA.cells] at hat
        simp only at hxl9
        rcases htd with htd | htd
        · rw [tf_true htd, if_pos rfl] at htk
          obtain ⟨w1, w2⟩ := htd
          simp only at w1 w2
          subst w1
          have e5 : ((cntT (l.take i) : Nat) : Int) + 1 = ((cntT (l.take (i + 1)) : Nat) : Int) := by rw [htk]; omega
          have hh := And.intro (tf_true w2) (And.intro hfl hat)
          repeat' (first | refine go ?_ | (refine br (fun hc => ?_) (fun hc => ?_) <;> try (exfalso; omega)) | fail)
          rw [e5]
          exact againJ (i + 1) (by omega) (by omega) [.cells [.int .i64 id, .str rc, .int .i64 3, .int .i64 tr, .int .i64 nx, .int .i64 co]] (by simp)
        · rw [tf_false htd] at htk
          simp only [Bool.false_eq_true, if_false, Nat.add_zero] at htk
          by_cases w1 : st = 3
          · have w2 : ¬ MailboxOk rc := fun h => htd ⟨w1, h⟩
            subst w1
            have hh := And.intro (tf_false w2) (And.intro hfl hat)
            repeat' (first | refine go ?_ | (refine br (fun hc => ?_) (fun hc => ?_) <;> try (exfalso; omega)) | fail)
            rw [← htk]
            exact againJ (i + 1) (by omega) (by omega) [.cells [.int .i64 id, .str rc, .int .i64 3, .int .i64 tr, .int .i64 nx, .int .i64 co]] (by simp)
          · have hh := And.intro hfl hat
            repeat' (first | refine go ?_ | (refine br (fun hc => ?_) (fun hc => ?_) <;> try (exfalso; omega)) | fail)
            rw [← htk]
            exact againJ (i + 1) (by omega) (by omega) [.cells [.int .i64 id, .str rc, .int .i64 st, .int .i64 tr, .int .i64 nx, .int .i64 co]] (by simp)
      · obtain rfl : i = l.length := by omega
        rw [List.take_length]
        have hw : tw = true ↔ (MailboxOk fro ∧ DomainOk host ∧ 0 ≤ now) ∧ 0 < cntT l := by rw [← htw2]; exact ⟨fun h => tf_iff.1 h, fun h => tf_true h⟩
        cases tw with
        | true =>
          obtain ⟨⟨m1, m2, m3⟩, m4⟩ := hw.1 rfl
          have m5 := htw.1 rfl
          have hh := And.intro (tf_true m1) (tf_true m2)
          repeat' (first | refine go ?_ | (refine br (fun hc => ?_) (fun hc => ?_) <;> try (exfalso; omega)) | fail)
          all_goals first
            | exact .junkd ⟨rfl, rfl⟩
            | (refine .junkd ⟨?_, rfl⟩
               congr 2
               simp only [decide_eq_true_eq, decide_eq_true (show (0 : Int) < (x.length : Int) by omega)])
        | false =>
          have m5 : ¬ 0 < x.length := fun h => by have := htw.2 h; contradiction
          have m6 : ¬ ((MailboxOk fro ∧ DomainOk host ∧ 0 ≤ now) ∧ 0 < cntT l) := fun h => by have := hw.2 h; contradiction
          by_cases m1 : MailboxOk fro
          · by_cases m2 : DomainOk host
            · have m7 : ¬ (0 ≤ now ∧ 0 < cntT l) := fun h => m6 ⟨⟨m1, m2, h.1⟩, h.2⟩
              have hh := And.intro (tf_true m1) (tf_true m2)
              repeat' (first | refine go ?_ | (refine br (fun hc => ?_) (fun hc => ?_) <;> try (exfalso; omega)) | fail)
              all_goals first
                | exact .junkd ⟨rfl, rfl⟩
                | (refine .junkd ⟨?_, rfl⟩
                   congr 2
                   simp only [decide_eq_true_eq, decide_eq_false (show ¬ (0 : Int) < (x.length : Int) by omega)])
            · have hh := And.intro (tf_true m1) (tf_false m2)
              repeat' (first | refine go ?_ | (refine br (fun hc => ?_) (fun hc => ?_) <;> try (exfalso; omega)) | fail)
              all_goals first
                | exact .junkd ⟨rfl, rfl⟩
                | (refine .junkd ⟨?_, rfl⟩
                   congr 2
                   simp only [decide_eq_true_eq, decide_eq_false (show ¬ (0 : Int) < (x.length : Int) by omega)])
          · have hh := tf_false m1
            repeat' (first | refine go ?_ | (refine br (fun hc => ?_) (fun hc => ?_) <;> try (exfalso; omega)) | fail)
            all_goals first
              | exact .junkd ⟨rfl, rfl⟩
              | (refine .junkd ⟨?_, rfl⟩
                 congr 2
                 simp only [decide_eq_true_eq, decide_eq_false (show ¬ (0 : Int) < (x.length : Int) by omega)])
  · rw [tf_false hF] at hf
    refine enter (md := fun _ => 0) Tryd.func8 (fun hfit hgl => ?_)
    repeat' (first | refine go ?_ | (refine br (fun hc => ?_) (fun hc => ?_) <;> try (exfalso; omega)) | fail)
    exact .junkd ⟨rfl, rfl⟩

end Go.Ab.Tryd
