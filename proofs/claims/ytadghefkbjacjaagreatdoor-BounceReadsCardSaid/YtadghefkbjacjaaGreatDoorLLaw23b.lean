/- Walks: the laws on bounces that are read. -/
import Derived.Test.YtadghefkbjacjaaGreatDoorLBncE
import Derived.Test.YtadghefkbjacjaaGreatDoorLLaw23
set_option linter.unusedSimpArgs false
set_option linter.unusedVariables false
set_option maxHeartbeats 8000000
set_option maxRecDepth 10000
namespace Go.Ab.Tryz
open Go Go.Ab Go.Proofs
attribute [local irreducible] W Wl Wop TrA WSeq WLoopS FPost DPost RPost WRound DK onEnd
attribute [local simp] belowL_bytesAV belowL_strsM
variable {n0 : Nat} {w0 : World} {gl : Nat → List AV} {H : List AO}

theorem same21_e (J : List JobA) (tok tok2 : Tok) (hl : J.length ≤ 1000000) : AEnter (env n0 w0 gl) 36 [.sl J.length (jobAV J) tok, .sl J.length (jobAV J) tok2] H (fun y H' => y = .ret (.bool true) ∧ H' = H) := by
  have hfl := jobAV_len J
  have hh := hfl
  refine enter (md := fun _ => 0) Tryz.func36 (fun hfit hgl => ?_)
  repeat' (first | refine go ?_ | (refine br (fun hc => ?_) (fun hc => ?_) <;> try (exfalso; omega)) | fail)
  refine loop0 (fun i : Nat => (.sl J.length (jobAV J) tok :: .sl J.length (jobAV J) tok2 :: .top :: .top :: .bool false :: .top :: .top :: .top :: .top :: .top :: .top :: .top :: .int .i64 J.length :: .int .i64 (i : Int) :: .top :: .top :: .top :: .top :: .top :: .top :: .top :: .top :: .top :: .top :: .top :: .top :: [])) (fun i => i ≤ J.length) (fun i => J.length - i) 0 (Nat.zero_le _) ?_
  intro i hi
  by_cases hlt : i < J.length
  · have hat := jobAV_at hlt
    generalize J.getD i default = x at *
    obtain ⟨id, rc, st, tr, nx, co⟩ := x
    simp only [JobA.cells] at hat
    have hh := And.intro hfl hat
    repeat' (first | refine go ?_ | (refine br (fun hc => ?_) (fun hc => ?_) <;> try (exfalso; omega)) | fail)
    exact again (i + 1) (by omega)
  · obtain rfl : i = J.length := by omega
    repeat' (first | refine go ?_ | (refine br (fun hc => ?_) (fun hc => ?_) <;> try (exfalso; omega)) | fail)
    exact .now ⟨rfl, rfl⟩

theorem bncM_is {b : List UInt8} {J : List JobA} (h : bncM b = some J) : BncIs b J := by
  unfold bncM at h
  split at h
  · rename_i hx
    injection h with h
    rw [← h]; exact hx.choose_spec
  · simp at h
theorem toldS_ge : ∀ {J : List JobA}, (∀ x ∈ J, x.Line) → J.length ≤ (toldS J).length
  | [], _ => by simp
  | x :: J, h => by
    have ih := toldS_ge (J := J) fun y hy => h y (by simp [hy])
    have hx := (h x (by simp)).2.2.2.1
    simp only [toldS, List.flatMap_cons, List.length_append, List.length_cons] at ih ⊢
    rw [told_of hx]
    simp only [List.length_append, List.length_cons]
    omega
theorem bnc_count {b : List UInt8} {J : List JobA} (h : BncIs b J) : J.length ≤ b.length := by
  obtain ⟨host, fro, h1, h2, h3, h4⟩ := h
  have := toldS_ge h3
  rw [← h4, List.length_append]; omega

theorem bounceReads_t [hml : GLInt gl 0] [ht : Tab10 n0 w0] [he : Errs n0 w0] (b : List UInt8) (hb : b.length ≤ 9223372036854775807) : AEnter (env n0 w0 gl) 7 [.sl b.length (bytesAV b) .ro] H (fun y H' => y = .ret (.bool true) ∧ H' = H) := by
  by_cases h2 : b.length ≤ 2000
  · have h1 : ∀ H, Ctr (env n0 w0 gl) 34 [.sl b.length (bytesAV b) .ro] H True (bncV b) H := fun H => .of fun _ => bread_e b (by omega)
    have h3 : ∀ H, Ctr (env n0 w0 gl) 35 [.sl b.length (bytesAV b) .ro] H True (bncV b) H := fun H => .of fun _ => ref_read_e b (by omega)
    unfold bncV at h1 h3
    rcases hm : bncM b with _ | J
    · rw [hm] at h1 h3
      simp only at h1 h3
      have hS : ∀ H, Ctr (env n0 w0 gl) 36 [.sl 0 [] .full, .sl 0 [] .full] H True (.bool true) H := fun H => .of fun _ => same21_e [] .full .full (by decide)
      refine enter (md := fun _ => 0) Tryz.func7 (fun hfit hgl => ?_)
      repeat' (first | refine go ?_ | (refine br (fun hc => ?_) (fun hc => ?_) <;> try (exfalso; omega)) | fail)
      all_goals exact .now ⟨rfl, rfl⟩
    · rw [hm] at h1 h3
      simp only at h1 h3
      have hcount := bnc_count (bncM_is hm)
      have hS : ∀ H, Ctr (env n0 w0 gl) 36 [.sl J.length (jobAV J) .ro, .sl J.length (jobAV J) .ro] H True (.bool true) H := fun H => .of fun _ => same21_e J .ro .ro (by omega)
      refine enter (md := fun _ => 0) Tryz.func7 (fun hfit hgl => ?_)
      repeat' (first | refine go ?_ | (refine br (fun hc => ?_) (fun hc => ?_) <;> try (exfalso; omega)) | fail)
      all_goals exact .now ⟨rfl, rfl⟩
  · refine enter (md := fun _ => 0) Tryz.func7 (fun hfit hgl => ?_)
    repeat' (first | refine go ?_ | (refine br (fun hc => ?_) (fun hc => ?_) <;> try (exfalso; omega)) | fail)
    all_goals exact .now ⟨rfl, rfl⟩

/-- The jobs that are told, as they are read. -/
noncomputable def wantL (l : List JobA) : List JobA := (l.filter fun x => tf x.Told).map fun x => ⟨0, x.rcpt, 3, 0, 0, x.code⟩
theorem wantL_take {l : List JobA} {i : Nat} (h : i < l.length) : wantL (l.take (i + 1)) = wantL (l.take i) ++ (if tf (l.getD i default).Told then [⟨0, (l.getD i default).rcpt, 3, 0, 0, (l.getD i default).code⟩] else []) := by
  unfold wantL
  rw [List.take_succ_eq_append_getElem h, List.filter_append, List.map_append]
  have e : l.getD i default = l[i] := by simp [List.getD_eq_getElem?_getD, h]
  rw [e]
  by_cases ht : l[i].Told
  · simp [tf_true ht]
  · simp [tf_false ht]
theorem wantL_told : ∀ l : List JobA, toldS (wantL l) = toldS l
  | [] => rfl
  | x :: l => by
    have ih := wantL_told l
    by_cases h : x.Told
    · have e : wantL (x :: l) = ⟨0, x.rcpt, 3, 0, 0, x.code⟩ :: wantL l := by simp [wantL, tf_true h]
      have h2 : JobA.Told ⟨0, x.rcpt, 3, 0, 0, x.code⟩ := ⟨rfl, h.2⟩
      rw [e]
      simp only [toldS, List.flatMap_cons] at ih ⊢
      rw [ih, told_of h, told_of h2]
    · have e : wantL (x :: l) = wantL l := by simp [wantL, tf_false h]
      rw [e]
      simp only [toldS, List.flatMap_cons] at ih ⊢
      rw [ih, told_no h]; rfl
theorem wantL_le (l : List JobA) : (wantL l).length ≤ l.length := by unfold wantL; rw [List.length_map]; exact List.length_filter_le ..
theorem wantL_line {l : List JobA} (h : ∀ x ∈ l, 0 ≤ x.code ∧ x.code ≤ 999) : ∀ x ∈ wantL l, x.Line := by
  intro x hx
  unfold wantL at hx
  obtain ⟨y, hy, rfl⟩ := List.mem_map.1 hx
  obtain ⟨hm, ht⟩ := List.mem_filter.1 hy
  have ht := tf_iff.1 ht
  exact ⟨rfl, rfl, rfl, ⟨rfl, ht.2⟩, (h y hm).1, (h y hm).2⟩
theorem bnc_made {host fro : List UInt8} {now : Int} {l : List JobA} (h : MakeOk host now fro) (ht : toldS l ≠ []) (hc : ∀ x ∈ l, 0 ≤ x.code ∧ x.code ≤ 999) : bncV (bncH host fro ++ toldS l) = .tup [.sl (wantL l).length (jobAV (wantL l)) .ro, .bool true] := by
  have : BncIs (bncH host fro ++ toldS l) (wantL l) := ⟨host, fro, ⟨h.1, h.2.1, Int.le_refl _⟩, fun e => ht (by rw [← wantL_told, e]; rfl), wantL_line hc, by rw [wantL_told]⟩
  unfold bncV
  rw [bncM_some this]
theorem bnc_empty : bncV [] = .tup [.sl 0 [] .full, .bool false] := bncV_none fun J h => by
  obtain ⟨host, fro, h1, h2, h3, h4⟩ := h
  have := toldS_ge h3
  have h5 := congrArg List.length h4
  rw [List.length_append, List.length_nil] at h5
  exact h2 (List.length_eq_zero_iff.1 (by omega))

theorem bounceBack_t [hml : GLInt gl 0] [ht : Tab10 n0 w0] [he : Errs n0 w0] (host : List UInt8) (now : Int) (fro : List UInt8) (to : List (List UInt8)) (a : Int) (l : List JobA) (h1 : host.length ≤ 9223372036854775807) (hn : -9223372036854775808 ≤ now ∧ now ≤ 9223372036854775807) (h : EnvBig fro to a) (hl : l.length ≤ 9223372036854775807) (hb : ∀ x ∈ l, x.Big) :
    AEnter (env n0 w0 gl) 8 [.str host, .int .i64 now, .agg [.str fro, .sl to.length (to.map .str) .ro, .int .i64 a], .sl l.length (jobAV l) .ro] H (fun y H' => y = .ret (.bool true) ∧ H' = H) := by
  have hf : ∀ H, Ctr (env n0 w0 gl) 37 [.str host, .agg [.str fro, .sl to.length (to.map .str) .ro, .int .i64 a], .sl l.length (jobAV l) .ro] H True (.bool (tf (JFew host fro to l))) H := fun H => .of fun _ => few23_e host fro to a l h1 h hl hb
  by_cases hF : JFew host fro to l
  · rw [tf_true hF] at hf
    obtain ⟨q1, q2, q3, q4, q5⟩ := hF
    obtain ⟨h2, h3, h4, h5⟩ := h
    have hjs : ∀ x ∈ l, x.Big ∧ x.rcpt.length ≤ 1000 := fun x hx => ⟨hb x hx, by
      obtain ⟨k, hk, rfl⟩ := List.getElem_of_mem hx
      have := q5 k hk
      rw [List.getD_eq_getElem?_getD, List.getElem?_eq_getElem hk] at this
      simp only [Option.getD_some] at this; omega⟩
    have hfl := jobAV_len l
    have hM : ∀ H, Ctr (env n0 w0 gl) 38 [.str host, .int .i64 now, .agg [.str fro, .sl to.length (to.map .str) .ro, .int .i64 a], .sl l.length (jobAV l) .ro] H True (makeV host now fro l) H := fun H => .of fun _ => make_e host now fro to a l h1 h2 (by omega) (fun x hx => ⟨(hjs x hx).1, by have := (hjs x hx).2; omega⟩)
    obtain ⟨en, exs, e2, own, tok, is, hx, hown, htok, hR⟩ : ∃ (en : Nat) (exs : List (List UInt8)) (e2 : Int) (own : List UInt8) (tok : Tok) (is : Bool), makeV host now fro l = .tup [.agg [.str [], .sl en (exs.map .str) .full, .int .i64 e2], .sl own.length (bytesAV own) tok, .bool is] ∧ own.length ≤ 100000 ∧ (tok = .ro ∨ tok = .full) ∧ ((∀ x ∈ l, 0 ≤ x.code ∧ x.code ≤ 999) → (is = true ∧ bncV own = .tup [.sl (wantL l).length (jobAV (wantL l)) .ro, .bool true]) ∨ (is = false ∧ bncV own = .tup [.sl 0 [] .full, .bool false])) := by
      unfold makeV
      by_cases hm : MakeOk host now fro ∧ toldS l ≠ []
      · rw [tf_true hm]
        have hH := bncH_len hm.1.2.1 hm.1.1
        have hT : (toldS l).length ≤ l.length * 1024 := toldS_len fun x hx => ⟨(hjs x hx).1, by have := (hjs x hx).2; omega⟩
        exact ⟨1, [fro], now, _, _, _, rfl, by rw [List.length_append]; omega, .inl rfl, fun hc => .inl ⟨rfl, bnc_made hm.1 hm.2 hc⟩⟩
      · rw [tf_false hm]
        exact ⟨0, [], 0, [], .full, _, rfl, by simp, .inr rfl, fun hc => .inr ⟨rfl, bnc_empty⟩⟩
    rcases htok with rfl | rfl
    · rw [hx] at hM
      refine enter (md := fun _ => 0) Tryz.func8 (fun hfit hgl => ?_)
      refine gos ?_
      refine wseq_normal ?_
      refine gos ?_
      refine wseq_normal ?_
      refine gos ?_
      refine wseq_normal ?_
      refine gos ?_
      refine wseq_normal ?_
      refine gos ?_
      refine wseq_normal ?_
      refine gos ?_
      refine wseq_normal ?_
      refine gos ?_
      refine wseq_shift (Shift.vec 6 12 rfl) ?_
      simp only [List.set_cons_succ, List.set_cons_zero, List.append_assoc, List.cons_append, List.nil_append, List.length_append, List.length_cons, List.length_nil, Nat.zero_add, Nat.reduceAdd]
      repeat' (first | refine go ?_ | (refine br (fun hc => ?_) (fun hc => ?_) <;> try (exfalso; omega)) | fail)
      refine loop (fun i : Nat => (.top :: .top :: .top :: .top :: .top :: .top :: .top :: .top :: .bool false :: .top :: .sl own.length (bytesAV own) .ro :: .bool is :: .vsl (H.length + 2) (wantL (l.take i)).length :: .top :: .top :: .top :: .top :: .top :: .top :: .top :: .top :: .top :: .top :: .top :: .top :: .top :: .top :: .top :: .top :: .top :: .top :: .top :: .top :: .sl l.length (jobAV l) .ro :: .int .i64 l.length :: .int .i64 (i : Int) :: .top :: .top :: .top :: .top :: .top :: .top :: .top :: .top :: .top :: .top :: .top :: .top :: .top :: .top :: .top :: .top :: .top :: .top :: .top :: .top :: .top :: .top :: .top :: .top :: .top :: .top :: .top :: .top :: .top :: .top :: .top :: .top :: .top :: .top :: .top :: .top :: .top :: .top :: .top :: .top :: .top :: .top :: .top :: .top :: .top :: []))
        (fun i => H ++ [.cells [.str fro, .sl to.length (to.map .str) .ro, .int .i64 a], .cells [.str [], .sl en (exs.map .str) .full, .int .i64 e2], .vec 6 (wantL (l.take i)).length (jobAV (wantL (l.take i)))])
        (fun i => i ≤ l.length ∧ ∀ k, k < i → 0 ≤ (l.getD k default).code ∧ (l.getD k default).code ≤ 999) (fun i => l.length - i) 0 ⟨Nat.zero_le _, fun k hk => absurd hk (Nat.not_lt_zero _)⟩ ?_
      rintro i ⟨hi, hall⟩
      have hwl := wantL_le (l.take i)
      have hwj := jobAV_len (wantL (l.take i))
      rw [List.length_take] at hwl
      by_cases hlt : i < l.length
      · have hat := jobAV_at hlt
        have hwt := wantL_take hlt
        have hmem : l.getD i default ∈ l := by rw [List.getD_eq_getElem?_getD, List.getElem?_eq_getElem hlt]; exact List.getElem_mem _
        obtain ⟨hxb, hxl⟩ := hjs _ hmem
        have hyes : (0 ≤ (l.getD i default).code ∧ (l.getD i default).code ≤ 999) → ∀ k, k < i + 1 → 0 ≤ (l.getD k default).code ∧ (l.getD k default).code ≤ 999 := fun h k hk => by
          rcases Nat.lt_succ_iff_lt_or_eq.1 hk with h1 | h1
          · exact hall k h1
          · subst h1; exact h
        generalize l.getD i default = x at *
        have htd : x.Told ∨ ¬ x.Told := Classical.em _
        obtain ⟨id, rc, st, tr, nx, co⟩ := x
        obtain ⟨hb1, hb2, hb3⟩ := hxb
        simp only [JobA.cells] at hat
        simp only at hxl hb1 hb2 hb3 hyes
        rcases htd with htd | htd
        · rw [tf_true htd, if_pos rfl] at hwt
          obtain ⟨w1, w2⟩ := htd
          simp only at w1 w2
          subst w1
          have e1 : (wantL (l.take i)).length + 1 = (wantL (l.take (i + 1))).length := by rw [hwt]; simp
          have e9 : jobAV (wantL (l.take i)) ++ [.int .i64 0, .str rc, .int .i64 3, .int .i64 0, .int .i64 0, .int .i64 co] = jobAV (wantL (l.take (i + 1))) := by rw [hwt]; simp [jobAV, JobA.cells]
          have hh := And.intro (tf_true w2) (And.intro hfl (And.intro hat hwj))
          repeat' (first | refine go ?_ | (refine br (fun hc => ?_) (fun hc => ?_) <;> try (exfalso; omega)) | fail)
          all_goals (try (exact .junkd ⟨rfl, rfl⟩))
          all_goals (rw [e1, e9]; exact againJ (i + 1) ⟨by omega, hyes ⟨by omega, by omega⟩⟩ (by omega) [.cells [.int .i64 id, .str rc, .int .i64 3, .int .i64 tr, .int .i64 nx, .int .i64 co]] (by simp))
        · rw [tf_false htd] at hwt
          simp only [Bool.false_eq_true, if_false, List.append_nil] at hwt
          by_cases w1 : st = 3
          · have w2 : ¬ MailboxOk rc := fun h => htd ⟨w1, h⟩
            subst w1
            have hh := And.intro (tf_false w2) (And.intro hfl (And.intro hat hwj))
            repeat' (first | refine go ?_ | (refine br (fun hc => ?_) (fun hc => ?_) <;> try (exfalso; omega)) | fail)
            all_goals (try (exact .junkd ⟨rfl, rfl⟩))
            all_goals (rw [← hwt]; exact againJ (i + 1) ⟨by omega, hyes ⟨by omega, by omega⟩⟩ (by omega) [.cells [.int .i64 id, .str rc, .int .i64 3, .int .i64 tr, .int .i64 nx, .int .i64 co]] (by simp))
          · have hh := And.intro hfl (And.intro hat hwj)
            repeat' (first | refine go ?_ | (refine br (fun hc => ?_) (fun hc => ?_) <;> try (exfalso; omega)) | fail)
            all_goals (try (exact .junkd ⟨rfl, rfl⟩))
            all_goals (rw [← hwt]; exact againJ (i + 1) ⟨by omega, hyes ⟨by omega, by omega⟩⟩ (by omega) [.cells [.int .i64 id, .str rc, .int .i64 st, .int .i64 tr, .int .i64 nx, .int .i64 co]] (by simp))
      · obtain rfl : i = l.length := by omega
        rw [List.take_length] at hwl hwj ⊢
        have hcs : ∀ x ∈ l, 0 ≤ x.code ∧ x.code ≤ 999 := fun x hx => by
          obtain ⟨k, hk, rfl⟩ := List.getElem_of_mem hx
          have := hall k hk
          rw [List.getD_eq_getElem?_getD, List.getElem?_eq_getElem hk] at this
          exact this
        have hRd : ∀ H, Ctr (env n0 w0 gl) 34 [.sl own.length (bytesAV own) .ro] H True (bncV own) H := fun H => ⟨fun _ => by
          have := (bread_e (n0 := n0) (w0 := w0) (gl := gl) (H := H) own hown).call
          exact fun g w cs hr hv => this g w cs hr ⟨hv.1, fun i => match i with
            | 0 => sl_ro g _ (hv.2 0)
            | i + 1 => .top _⟩⟩
        repeat' (first | refine gos ?_ | (refine br (fun hc => ?_) (fun hc => ?_) <;> try (exfalso; omega)) | fail)
        refine wseq_normal ?_
        repeat' (first | refine gos ?_ | (refine br (fun hc => ?_) (fun hc => ?_) <;> try (exfalso; omega)) | fail)
        refine wseq_shift (Shift.know 12 (id := H.length + 2) (sz := 6) (n := (wantL l).length) (xs := jobAV (wantL l)) rfl (by simp [getE])) ?_
        simp only [List.set_cons_succ, List.set_cons_zero, setE0, setE]
        rcases hR hcs with ⟨r1, r2⟩ | ⟨r1, r2⟩
        · rw [r2] at hRd
          subst r1
          have hS : ∀ H, Ctr (env n0 w0 gl) 36 [.sl (wantL l).length (jobAV (wantL l)) .ro, .sl (wantL l).length (jobAV (wantL l)) .ro] H True (.bool true) H := fun H => .of fun _ => same21_e (wantL l) .ro .ro (by omega)
          repeat' (first | refine go ?_ | (refine br (fun hc => ?_) (fun hc => ?_) <;> try (exfalso; omega)) | fail)
          exact .junkd ⟨rfl, rfl⟩
        · rw [r2] at hRd
          subst r1
          repeat' (first | refine go ?_ | (refine br (fun hc => ?_) (fun hc => ?_) <;> try (exfalso; omega)) | fail)
          exact .junkd ⟨rfl, rfl⟩
    · rw [hx] at hM
      refine enter (md := fun _ => 0) Tryz.func8 (fun hfit hgl => ?_)
      refine gos ?_
      refine wseq_normal ?_
      refine gos ?_
      refine wseq_normal ?_
      refine gos ?_
      refine wseq_normal ?_
      refine gos ?_
      refine wseq_normal ?_
      refine gos ?_
      refine wseq_normal ?_
      refine gos ?_
      refine wseq_normal ?_
      refine gos ?_
      refine wseq_shift (Shift.vec 6 12 rfl) ?_
      simp only [List.set_cons_succ, List.set_cons_zero, List.append_assoc, List.cons_append, List.nil_append, List.length_append, List.length_cons, List.length_nil, Nat.zero_add, Nat.reduceAdd]
      repeat' (first | refine go ?_ | (refine br (fun hc => ?_) (fun hc => ?_) <;> try (exfalso; omega)) | fail)
      refine loop (fun i : Nat => (.top :: .top :: .top :: .top :: .top :: .top :: .top :: .top :: .bool false :: .top :: .sl own.length (bytesAV own) .full :: .bool is :: .vsl (H.length + 2) (wantL (l.take i)).length :: .top :: .top :: .top :: .top :: .top :: .top :: .top :: .top :: .top :: .top :: .top :: .top :: .top :: .top :: .top :: .top :: .top :: .top :: .top :: .top :: .sl l.length (jobAV l) .ro :: .int .i64 l.length :: .int .i64 (i : Int) :: .top :: .top :: .top :: .top :: .top :: .top :: .top :: .top :: .top :: .top :: .top :: .top :: .top :: .top :: .top :: .top :: .top :: .top :: .top :: .top :: .top :: .top :: .top :: .top :: .top :: .top :: .top :: .top :: .top :: .top :: .top :: .top :: .top :: .top :: .top :: .top :: .top :: .top :: .top :: .top :: .top :: .top :: .top :: .top :: .top :: []))
        (fun i => H ++ [.cells [.str fro, .sl to.length (to.map .str) .ro, .int .i64 a], .cells [.str [], .sl en (exs.map .str) .full, .int .i64 e2], .vec 6 (wantL (l.take i)).length (jobAV (wantL (l.take i)))])
        (fun i => i ≤ l.length ∧ ∀ k, k < i → 0 ≤ (l.getD k default).code ∧ (l.getD k default).code ≤ 999) (fun i => l.length - i) 0 ⟨Nat.zero_le _, fun k hk => absurd hk (Nat.not_lt_zero _)⟩ ?_
      rintro i ⟨hi, hall⟩
      have hwl := wantL_le (l.take i)
      have hwj := jobAV_len (wantL (l.take i))
      rw [List.length_take] at hwl
      by_cases hlt : i < l.length
      · have hat := jobAV_at hlt
        have hwt := wantL_take hlt
        have hmem : l.getD i default ∈ l := by rw [List.getD_eq_getElem?_getD, List.getElem?_eq_getElem hlt]; exact List.getElem_mem _
        obtain ⟨hxb, hxl⟩ := hjs _ hmem
        have hyes : (0 ≤ (l.getD i default).code ∧ (l.getD i default).code ≤ 999) → ∀ k, k < i + 1 → 0 ≤ (l.getD k default).code ∧ (l.getD k default).code ≤ 999 := fun h k hk => by
          rcases Nat.lt_succ_iff_lt_or_eq.1 hk with h1 | h1
          · exact hall k h1
          · subst h1; exact h
        generalize l.getD i default = x at *
        have htd : x.Told ∨ ¬ x.Told := Classical.em _
        obtain ⟨id, rc, st, tr, nx, co⟩ := x
        obtain ⟨hb1, hb2, hb3⟩ := hxb
        simp only [JobA.cells] at hat
        simp only at hxl hb1 hb2 hb3 hyes
        rcases htd with htd | htd
        · rw [tf_true htd, if_pos rfl] at hwt
          obtain ⟨w1, w2⟩ := htd
          simp only at w1 w2
          subst w1
          have e1 : (wantL (l.take i)).length + 1 = (wantL (l.take (i + 1))).length := by rw [hwt]; simp
          have e9 : jobAV (wantL (l.take i)) ++ [.int .i64 0, .str rc, .int .i64 3, .int .i64 0, .int .i64 0, .int .i64 co] = jobAV (wantL (l.take (i + 1))) := by rw [hwt]; simp [jobAV, JobA.cells]
          have hh := And.intro (tf_true w2) (And.intro hfl (And.intro hat hwj))
          repeat' (first | refine go ?_ | (refine br (fun hc => ?_) (fun hc => ?_) <;> try (exfalso; omega)) | fail)
          all_goals (try (exact .junkd ⟨rfl, rfl⟩))
          all_goals (rw [e1, e9]; exact againJ (i + 1) ⟨by omega, hyes ⟨by omega, by omega⟩⟩ (by omega) [.cells [.int .i64 id, .str rc, .int .i64 3, .int .i64 tr, .int .i64 nx, .int .i64 co]] (by simp))
        · rw [tf_false htd] at hwt
          simp only [Bool.false_eq_true, if_false, List.append_nil] at hwt
          by_cases w1 : st = 3
          · have w2 : ¬ MailboxOk rc := fun h => htd ⟨w1, h⟩
            subst w1
            have hh := And.intro (tf_false w2) (And.intro hfl (And.intro hat hwj))
            repeat' (first | refine go ?_ | (refine br (fun hc => ?_) (fun hc => ?_) <;> try (exfalso; omega)) | fail)
            all_goals (try (exact .junkd ⟨rfl, rfl⟩))
            all_goals (rw [← hwt]; exact againJ (i + 1) ⟨by omega, hyes ⟨by omega, by omega⟩⟩ (by omega) [.cells [.int .i64 id, .str rc, .int .i64 3, .int .i64 tr, .int .i64 nx, .int .i64 co]] (by simp))
          · have hh := And.intro hfl (And.intro hat hwj)
            repeat' (first | refine go ?_ | (refine br (fun hc => ?_) (fun hc => ?_) <;> try (exfalso; omega)) | fail)
            all_goals (try (exact .junkd ⟨rfl, rfl⟩))
            all_goals (rw [← hwt]; exact againJ (i + 1) ⟨by omega, hyes ⟨by omega, by omega⟩⟩ (by omega) [.cells [.int .i64 id, .str rc, .int .i64 st, .int .i64 tr, .int .i64 nx, .int .i64 co]] (by simp))
      · obtain rfl : i = l.length := by omega
        rw [List.take_length] at hwl hwj ⊢
        have hcs : ∀ x ∈ l, 0 ≤ x.code ∧ x.code ≤ 999 := fun x hx => by
          obtain ⟨k, hk, rfl⟩ := List.getElem_of_mem hx
          have := hall k hk
          rw [List.getD_eq_getElem?_getD, List.getElem?_eq_getElem hk] at this
          exact this
        have hRd : ∀ H, Ctr (env n0 w0 gl) 34 [.sl own.length (bytesAV own) .full] H True (bncV own) H := fun H => ⟨fun _ => by
          have := (bread_e (n0 := n0) (w0 := w0) (gl := gl) (H := H) own hown).call
          exact fun g w cs hr hv => this g w cs hr ⟨hv.1, fun i => match i with
            | 0 => sl_ro g _ (hv.2 0)
            | i + 1 => .top _⟩⟩
        repeat' (first | refine gos ?_ | (refine br (fun hc => ?_) (fun hc => ?_) <;> try (exfalso; omega)) | fail)
        refine wseq_normal ?_
        repeat' (first | refine gos ?_ | (refine br (fun hc => ?_) (fun hc => ?_) <;> try (exfalso; omega)) | fail)
        refine wseq_shift (Shift.know 12 (id := H.length + 2) (sz := 6) (n := (wantL l).length) (xs := jobAV (wantL l)) rfl (by simp [getE])) ?_
        simp only [List.set_cons_succ, List.set_cons_zero, setE0, setE]
        rcases hR hcs with ⟨r1, r2⟩ | ⟨r1, r2⟩
        · rw [r2] at hRd
          subst r1
          have hS : ∀ H, Ctr (env n0 w0 gl) 36 [.sl (wantL l).length (jobAV (wantL l)) .ro, .sl (wantL l).length (jobAV (wantL l)) .ro] H True (.bool true) H := fun H => .of fun _ => same21_e (wantL l) .ro .ro (by omega)
          repeat' (first | refine go ?_ | (refine br (fun hc => ?_) (fun hc => ?_) <;> try (exfalso; omega)) | fail)
          exact .junkd ⟨rfl, rfl⟩
        · rw [r2] at hRd
          subst r1
          repeat' (first | refine go ?_ | (refine br (fun hc => ?_) (fun hc => ?_) <;> try (exfalso; omega)) | fail)
          exact .junkd ⟨rfl, rfl⟩
  · rw [tf_false hF] at hf
    refine enter (md := fun _ => 0) Tryz.func8 (fun hfit hgl => ?_)
    repeat' (first | refine go ?_ | (refine br (fun hc => ?_) (fun hc => ?_) <;> try (exfalso; omega)) | fail)
    exact .junkd ⟨rfl, rfl⟩

end Go.Ab.Tryz
