/- Walks: a bounce, read: whole. -/
import Derived.Test.YtadghefkbjacjaaGreatDoorLBncC
import Derived.Test.YtadghefkbjacjaaGreatDoorAbX
set_option linter.unusedSimpArgs false
set_option linter.unusedVariables false
set_option maxHeartbeats 8000000
set_option maxRecDepth 10000
namespace Go.Ab.Tryz
open Go Go.Ab Go.Proofs
attribute [local irreducible] W Wl Wop TrA WSeq WLoopS FPost DPost RPost WRound DK onEnd
attribute [local simp] belowL_bytesAV belowL_fldAV belowL_strsM
variable {n0 : Nat} {w0 : World} {gl : Nat → List AV} {H : List AO}

noncomputable def bncV (b : List UInt8) : AV := match bncM b with
  | some J => .tup [.sl J.length (jobAV J) .ro, .bool true]
  | none => .tup [.sl 0 [] .full, .bool false]
theorem bncV_none {b : List UInt8} (h : ∀ J, ¬ BncIs b J) : bncV b = .tup [.sl 0 [] .full, .bool false] := by unfold bncV; rw [bncM_none h]

theorem rels_make2 {g : Ghost} {host fro : List UInt8} {now : Int} {n m : Nat} {xs ys : List AV} {a : AV} {tok tok2 : Tok} {cs : Array Value} (h : VRels g [.str host, .int .i64 now, .agg [.str fro, .sl n xs tok, a], .sl m ys tok2] cs) : VRels g [.str host, .int .i64 now, .agg [.str fro, .sl n xs .ro, a], .sl m ys .ro] cs := ⟨h.1, fun i => match i with
  | 0 => h.2 0
  | 1 => h.2 1
  | 2 => by
    have := h.2 2
    simp only [List.getD_cons_zero, List.getD_cons_succ] at this ⊢
    generalize cs.getD 2 undef = c at this
    cases this with
    | agg _ cs2 hl hv => exact .agg _ _ hl (fun j => match j with
      | 0 => hv 0
      | 1 => sl_ro g _ (hv 1)
      | 2 => hv 2
      | j + 3 => .top _)
  | 3 => sl_ro g _ (h.2 3)
  | i + 4 => .top _⟩

theorem Ent.agreeL2 {E : Env} {md : Nat → Nat} {ops : Array Oper} {ds : List ADef} {o : Oper} {ts ts2 : List AV} {H H2 : List AO} {v : AV} {L : List Nat} (h : Ent E md ops ds o ts H v H2) (ht : tmpsOf ops o = L) (he : L.map (ts.getD · .top) = L.map (ts2.getD · .top)) : Ent E md ops ds o ts2 H v H2 :=
  h.agree fun t h => by
    rw [ht] at h
    obtain ⟨i, hi, rfl⟩ := List.getElem_of_mem h
    have := congrArg (·[i]?) he
    simpa [hi] using this
theorem bnc_yes {b : List UInt8} {host fro : List UInt8} {J : List JobA} {u : Nat} {r0 : List UInt8} {l : Flds} (hP : headP b = (l, u, 0)) (hr0 : b.drop u = r0) (hJ : jobsL (lns2 r0) = some J) (hM : MakeOk host 0 fro) (ht : toldS J ≠ []) (he : bncH host fro ++ toldS J = b) : bncM b = some J := by
  have k := bnc_head hM (toldS J)
  rw [he, hP] at k
  injection k with _ k
  injection k with k _
  have hd : toldS J = r0 := by rw [← hr0, ← he, k, List.drop_left]
  obtain ⟨a1, a2, a3, a4⟩ := jobsL_of _ _ hJ
  rw [lns2_join] at a4
  have hT := a4 (by rw [hd])
  refine bncM_some ⟨host, fro, hM, ?_, fun x hx => ?_, he⟩
  · rintro rfl; exact ht rfl
  · obtain ⟨c1, c2, c3, c4, c5, c6, _⟩ := a1 x hx
    exact ⟨c1, c2, c3, hT x hx, c5, c6⟩
theorem bnc_no {b : List UInt8} {J : List JobA} {u : Nat} {r0 n1 b1 n2 b2 n3 b3 : List UInt8} (hP : headP b = ([(n1, b1), (n2, b2), (n3, b3)], u, 0)) (hr0 : b.drop u = r0) (hJ : jobsL (lns2 r0) = some J) {K : List JobA} (hK : BncIs b K) :
    MakeOk (b1.drop 14) 0 b2 ∧ toldS J ≠ [] ∧ bncH (b1.drop 14) b2 ++ toldS J = b := by
  obtain ⟨host, fro, k1, k2, k3, k4, k5, k6⟩ := bnc_jobs hK
  rw [hP] at k2
  simp only [bncF, Prod.mk.injEq, List.cons.injEq] at k2
  obtain ⟨⟨⟨_, e1⟩, ⟨_, e2⟩, _⟩, eu, _⟩ := k2
  have eh : b1.drop 14 = host := by rw [e1]; rfl
  rw [← eu, hr0, hJ] at k3
  injection k3 with k3
  subst k3
  rw [eh, e2]
  refine ⟨k1, ?_, k6⟩
  cases J with
  | nil => exact absurd rfl k5
  | cons x J =>
    have hx := (k4 x (by simp)).2.2.2.1
    simp only [toldS, List.flatMap_cons]
    rw [told_of hx]; simp
theorem headP_used {b : List UInt8} {l : Flds} {u : Nat} {e : Int} (h : headP b = (l, u, e)) : u ≤ b.length := by
  unfold headP at h
  cases hR : headR b with
  | none => rw [hR] at h; injection h with h1 h2; injection h2 with h2 h3; omega
  | some j =>
    obtain ⟨l', u'⟩ := j
    rw [hR] at h
    have := headR_inv hR
    by_cases hc : l'.length ≤ 1000 ∧ u' ≤ 100000
    · simp only [if_pos hc] at h
      injection h with h1 h2; injection h2 with h2 h3; omega
    · simp only [if_neg hc] at h
      injection h with h1 h2; injection h2 with h2 h3; omega
theorem bread_e [hml : GLInt gl 0] [ht : Tab10 n0 w0] [he : Errs n0 w0] (b : List UInt8) (hb : b.length ≤ 100000) : AEnter (env n0 w0 gl) 34 [.sl b.length (bytesAV b) .ro] H (fun y H' => y = .ret (bncV b) ∧ H' = H) := by
  rcases hP : headP b with ⟨l, u, e⟩
  have hpa : ∀ H, Ctr (env n0 w0 gl) 82 [.sl b.length (bytesAV b) .ro] H True (.tup [.sl l.length (fldAV l) (tokP e), .int .i64 u, .int .i64 e]) H := fun H => ⟨fun _ => by
    have := (parse_head_t (n0 := n0) (w0 := w0) (gl := gl) (H := H) b).call (by omega)
    rw [hP] at this; exact this⟩
  have hu1 := headP_used hP
  have hfs := headP_fields hP
  have hno : (∀ J, BncIs b J → False) → bncV b = .tup [.sl 0 [] .full, .bool false] := fun h => bncV_none h
  by_cases h0 : e = 0
  · by_cases h3 : l.length = 3
    · obtain ⟨f0, f1, f2, rfl⟩ : ∃ f0 f1 f2, l = [f0, f1, f2] := by
        match l, h3 with
        | [a, b, c], _ => exact ⟨a, b, c, rfl⟩
      obtain ⟨n1, b1⟩ := f0
      obtain ⟨n2, b2⟩ := f1
      obtain ⟨n3, b3⟩ := f2
      have hb1 := hfs (n1, b1) (by simp)
      have hb2 := hfs (n2, b2) (by simp)
      simp only at hb1 hb2
      have hcm : ∀ H, Ctr (env n0 w0 gl) 83 [.str b1, .str mailer] H True (cpmV b1) H := fun H => .of fun _ => cutMailer_e b1 (by omega)
      unfold mailer at hcm
      simp only [fldAV, List.flatMap_cons, List.flatMap_nil, List.cons_append, List.nil_append, List.append_nil, List.length_cons, List.length_nil, Nat.zero_add, Nat.reduceAdd] at hpa
      subst h0
      simp only [show tokP 0 = Tok.ro from rfl] at hpa
      by_cases hm : b1.take 14 = mailer
      · unfold cpmV at hcm
        rw [if_pos hm] at hcm
        obtain ⟨r0, hr0⟩ : ∃ r0, b.drop u = r0 := ⟨_, rfl⟩
        have hdu : List.drop u (List.take b.length (bytesAV b)) = bytesAV r0 := by rw [← hr0]; rw [List.take_of_length_le (by rw [bytesAV_len]; exact Nat.le_refl _)]; simp [bytesAV]
        have hlu : b.length - u = r0.length := by rw [← hr0, List.length_drop]
        have hlb : r0.length ≤ 100000 := by rw [← hr0, List.length_drop]; omega
        have hat : ∀ s H, Ctr (env n0 w0 gl) 86 [.str s] H (s.length ≤ 281474976710656) (atoiV s) H := fun s H => atoi_any s
        have hh := And.intro hdu hlu
        refine enter (md := fun _ => 0) Tryz.func34 (fun hfit hgl => ?_)
        refine gos ?_
        refine wseq_normal ?_
        refine gos ?_
        refine wseq_normal ?_
        refine gos ?_
        refine wseq_normal ?_
        refine gos ?_
        refine wseq_normal ?_
        refine gos ?_
        refine wseq_normal ?_
        refine gos ?_
        refine wseq_normal ?_
        refine gos ?_
        refine wseq_normal ?_
        refine gos ?_
        refine wseq_shift (Shift.cellVec 6 (H.length + 2) 0 (xs := [.sl 0 [] .full]) (by simp) (by simp) rfl rfl) ?_
        simp only [List.append_assoc, List.cons_append, List.nil_append, getE, setE, List.set_cons_succ, List.set_cons_zero, List.length_append, List.length_cons, List.length_nil, Nat.zero_add, Nat.reduceAdd]
        repeat' (first | refine go ?_ | (refine br (fun hc => ?_) (fun hc => ?_) <;> try (exfalso; omega)) | fail)
        refine over (fun p => [.str p.1, .bool p.2]) (fun (J : List JobA) r => H ++ [.cells [.sl 0 [] .full], .cells [.bool false], .cells [.vsl (H.length + 3) J.length], .vec 6 J.length (jobAV J), .cells [.sl r.length (bytesAV r) .ro]])
          (fun (J : List JobA) r => H ++ [.cells [.sl 0 [] .full], .cells [.bool false], .cells [.vsl (H.length + 3) J.length], .vec 6 J.length (jobAV J), .cells [.sl r.length (bytesAV r) .ro]]) (fun (o : Empty) r => nomatch o) (fun (e : Empty) => nomatch e) (fun _ => .ret) bnStep [] r0 (lns2 r0) ?_ ?_ ?_ ?_ ?_
        · intro fn G S T hG hS h
          exact blines1_t r0 (n := H.length + 5 + 2) (by omega) (by omega) (fun j r k => by simp [G, getE]) (fun j r r' => by simp [G, setE]) (fun j r => by simp [G]) hG h
        · intro fn pre x post J r l' hx hj hft
          obtain ⟨s, is⟩ := x
          have hjl := jobAV_len J
          have hsl : s.length ≤ 100000 := by
            have h9 : (lns2 r0).flatMap lnB = r0 := lns2_join r0
            rw [hx] at h9
            have h10 := congrArg List.length h9
            simp only [List.flatMap_append, List.flatMap_cons, List.length_append] at h10
            have h11 : s.length ≤ (lnB (s, is)).length := by unfold lnB; split <;> simp
            omega
          have hJl : J.length ≤ 100000 := by
            have h9 := lns2_count r0
            rw [hx] at h9
            have h10 := jobsL_of _ _ (foldR_bn_go hj)
            simp only [List.length_append] at h9
            have h11 := h10.2.1
            omega
          simp only
          rcases hc : cutAt 32 s with _ | ⟨rc, cd⟩
          · have hs1 : bnStep J (s, is) = .stop J := by unfold bnStep jobL; simp only [hc]
            have hv : cutV 32 s = .tup [.str s, .str [], .bool false] := by simp only [cutV, hc]
            have ha : atoiV [] = .tup [.int .i64 0, .iface 275 .top] := by unfold atoiV; rfl
            rw [hs1]
            have hh := And.intro hv ha
            cases is
            · repeat' (first | refine go ?_ | (refine br (fun hc => ?_) (fun hc => ?_) <;> try (exfalso; omega)) | fail)
              exact .now ⟨rfl, by simp⟩
            · repeat' (first | refine go ?_ | (refine br (fun hc => ?_) (fun hc => ?_) <;> try (exfalso; omega)) | fail)
              exact .now ⟨rfl, by simp⟩
          · have hv : cutV 32 s = .tup [.str rc, .str cd, .bool true] := by simp only [cutV, hc]
            have hcl := cutAt_len hc
            have hcd : cd.length ≤ 281474976710656 := by omega
            have hbad : jobL (s, is) = none → bnStep J (s, is) = .stop J := fun h => by unfold bnStep; simp only [h]
            rcases hq : Lib.atoiAll cd with v | _ | _
            · have ha : atoiV cd = .tup [.int .i64 v, .nili] := by unfold atoiV; simp only [hq]
              by_cases hk : is = true ∧ 0 ≤ v ∧ v ≤ 999
              · have hs1 : bnStep J (s, is) = .go (J ++ [⟨0, rc, 3, 0, 0, v⟩]) := by unfold bnStep jobL; simp only [hc, hq]; rw [if_pos hk]
                rw [hs1]
                obtain ⟨rfl, k1, k2⟩ := hk
                have hja : jobAV (J ++ [⟨0, rc, 3, 0, 0, v⟩]) = jobAV J ++ [.int .i64 0, .str rc, .int .i64 3, .int .i64 0, .int .i64 0, .int .i64 v] := by simp [jobAV, JobA.cells]
                have hh := And.intro hv (And.intro ha hjl)
                repeat' (first | refine go ?_ | (refine br (fun hc => ?_) (fun hc => ?_) <;> try (exfalso; omega)) | fail)
                refine .now ⟨rfl, ?_⟩
                generalize AO.loop _ _ _ _ _ _ _ _ = LL
                simp [hja]
              · have hs1 := hbad (by unfold jobL; simp only [hc, hq]; rw [if_neg hk])
                rw [hs1]
                have hh := And.intro hv (And.intro ha hjl)
                cases is
                · repeat' (first | refine go ?_ | (refine br (fun hc => ?_) (fun hc => ?_) <;> try (exfalso; omega)) | fail)
                  exact .now ⟨rfl, by simp⟩
                · by_cases k1 : 0 ≤ v
                  · have k2 : ¬ v ≤ 999 := fun k2 => hk ⟨rfl, k1, k2⟩
                    repeat' (first | refine go ?_ | (refine br (fun hc => ?_) (fun hc => ?_) <;> try (exfalso; omega)) | fail)
                    exact .now ⟨rfl, by simp⟩
                  · repeat' (first | refine go ?_ | (refine br (fun hc => ?_) (fun hc => ?_) <;> try (exfalso; omega)) | fail)
                    exact .now ⟨rfl, by simp⟩
            · obtain ⟨v, ha⟩ : ∃ v, atoiV cd = .tup [.int .i64 v, .iface 275 .top] := by unfold atoiV; simp only [hq]; exact ⟨_, rfl⟩
              have hs1 := hbad (by unfold jobL; simp only [hc, hq])
              rw [hs1]
              have hh := And.intro hv (And.intro ha hjl)
              cases is
              · repeat' (first | refine go ?_ | (refine br (fun hc => ?_) (fun hc => ?_) <;> try (exfalso; omega)) | fail)
                exact .now ⟨rfl, by simp⟩
              · repeat' (first | refine go ?_ | (refine br (fun hc => ?_) (fun hc => ?_) <;> try (exfalso; omega)) | fail)
                exact .now ⟨rfl, by simp⟩
            · obtain ⟨v, ha⟩ : ∃ v, atoiV cd = .tup [.int .i64 v, .iface 275 .top] := by unfold atoiV; simp only [hq]; exact ⟨_, rfl⟩
              have hs1 := hbad (by unfold jobL; simp only [hc, hq])
              rw [hs1]
              have hh := And.intro hv (And.intro ha hjl)
              cases is
              · repeat' (first | refine go ?_ | (refine br (fun hc => ?_) (fun hc => ?_) <;> try (exfalso; omega)) | fail)
                exact .now ⟨rfl, by simp⟩
              · repeat' (first | refine go ?_ | (refine br (fun hc => ?_) (fun hc => ?_) <;> try (exfalso; omega)) | fail)
                exact .now ⟨rfl, by simp⟩
        · intro J r hr
          have hJ := foldR_bn_go hr
          have hjl := jobAV_len J
          have hJo := jobsL_of _ _ hJ
          have hJl : J.length ≤ 100000 := by
            have h9 := lns2_count r0
            have h11 := hJo.2.1
            omega
          have hjw : ∀ x ∈ J, x.Big ∧ x.rcpt.length ≤ 100000 := fun x hx => by
            obtain ⟨a1, a2, a3, a4, a5, a6, p, hp, a7⟩ := hJo.1 x hx
            have h9 : (lns2 r0).flatMap lnB = r0 := lns2_join r0
            have h10 : p.1.length ≤ r0.length := by
              rw [← h9]
              obtain ⟨q1, q2, e⟩ := List.append_of_mem hp
              rw [e]
              simp only [List.flatMap_append, List.flatMap_cons, List.length_append]
              have h11 : p.1.length ≤ (lnB p).length := by unfold lnB; split <;> simp
              omega
            exact ⟨⟨by omega, by omega, by omega⟩, by omega⟩
          refine gos ?_
          refine wseq_shift (Shift.cellKnow (H.length + 2) 0 (H.length + 3) (xs := [.vsl (H.length + 3) J.length]) (sz := 6) (n := J.length) (ys := jobAV J) (by simp [getE]) rfl (by simp) (by simp [getE]) rfl) ?_
          simp only [getE, setE, List.set_cons_succ, List.set_cons_zero]
          have hmk : ∀ H, Ctr (env n0 w0 gl) 38 [.str (b1.drop 14), .int .i64 0, .agg [.str b2, .sl 0 [] .full, .int .i64 0], .sl J.length (jobAV J) .ro] H True (makeV (b1.drop 14) 0 b2 J) H := fun H => ⟨fun _ => by
            have := (make_e (n0 := n0) (w0 := w0) (gl := gl) (H := H) (b1.drop 14) 0 b2 [] 0 J (by rw [List.length_drop]; omega) (by omega) hJl hjw).call
            exact fun g w cs hr hv => this g w cs hr (rels_make2 hv)⟩
          have hmy : (MakeOk (b1.drop 14) 0 b2 ∧ toldS J ≠ []) → makeV (b1.drop 14) 0 b2 J = .tup [.agg [.str [], .sl 1 [.str b2] .full, .int .i64 0], .sl (bncH (b1.drop 14) b2 ++ toldS J).length (bytesAV (bncH (b1.drop 14) b2 ++ toldS J)) .ro, .bool true] := fun h => by unfold makeV; rw [tf_true h]; rfl
          have hmn : ¬ (MakeOk (b1.drop 14) 0 b2 ∧ toldS J ≠ []) → makeV (b1.drop 14) 0 b2 J = .tup [.agg [.str [], .sl 0 [] .full, .int .i64 0], .sl 0 [] .full, .bool false] := fun h => by unfold makeV; rw [tf_false h]; rfl
          by_cases hM : MakeOk (b1.drop 14) 0 b2 ∧ toldS J ≠ []
          · rw [hmy hM] at hmk
            have hyes := bnc_yes (J := J) (host := b1.drop 14) (fro := b2) hP hr0 hJ hM.1 hM.2
            have hnn := fun (he : ¬ bncH (b1.drop 14) b2 ++ toldS J = b) => hno fun K hK => he (bnc_no hP hr0 hJ hK).2.2
            generalize bncH (b1.drop 14) b2 ++ toldS J = own at *
            repeat (refine w_seq ?_)
            refine w_drawnW [.pure, .pure, .pure, .pure, .pure, .pure, .pure, .pure, .pure, .pure, .pure, .pure, .step 0, .step 1, .pure, .pure] [.str (b1.drop 14), .sl 3 [.str n1, .str b1, .str n2, .str b2, .str n3, .str b3] .ro, .row [.str n2, .str b2, .str n3, .str b3], .row [.str b2, .str n3, .str b3], .str b2, .agg [.str b2, .sl 0 [] .full, .int .i64 0], .sl J.length (jobAV J) .ro, .tup [.agg [.str [], .sl 1 [.str b2] .full, .int .i64 0], .sl own.length (bytesAV own) .ro, .bool true], .tup [.agg [.str [], .sl 1 [.str b2] .full, .int .i64 0], .sl own.length (bytesAV own) .ro, .bool true], .agg [.str [], .sl 1 [.str b2] .full, .int .i64 0], .sl own.length (bytesAV own) .ro, .bool true, .ref (H.length + 7) 0, .top, .sl own.length (bytesAV own) .ro, .bool true] [(H ++ [.cells [.sl 0 [] .full], .cells [.bool false], .cells [.sl J.length (jobAV J) .ro], .dead, .cells [.sl r.length (bytesAV r) .ro], .defr, .dead]), (H ++ [.cells [.sl 0 [] .full], .cells [.bool false], .cells [.sl J.length (jobAV J) .ro], .dead, .cells [.sl r.length (bytesAV r) .ro], .defr, .dead, .cells [.str [], .sl 0 [] .full, .int .i64 0]]), (H ++ [.cells [.sl 0 [] .full], .cells [.bool false], .cells [.sl J.length (jobAV J) .ro], .dead, .cells [.sl r.length (bytesAV r) .ro], .defr, .dead, .cells [.str [], .sl 1 [.str b2] .full, .int .i64 0]])] 2 (by intro _ h; cases h) (by simp only [List.length_cons, List.length_nil, Nat.reduceAdd]; exact rfl) (by decide +kernel) rfl (allV_of ⟨?_, ?_, ?_, ?_, ?_, ?_, ?_, ?_, ?_, ?_, ?_, ?_, ?_, ?_, ?_, ?_, trivial⟩) (by simp only [putV, Go.Ab.putL, List.tail_cons, List.headD_cons, List.set_cons_succ, List.set_cons_zero]; exact rfl) (H2 := (H ++ [.cells [.sl 0 [] .full], .cells [.bool false], .cells [.sl J.length (jobAV J) .ro], .dead, .cells [.sl r.length (bytesAV r) .ro], .defr, .dead, .cells [.str [], .sl 1 [.str b2] .full, .int .i64 0]])) rfl ?_
            · exact fun k _ => show Ent _ _ _ _ _ _ _ (.str (b1.drop 14)) _ from Ent.agreeL2 (L := [7]) (ts := [.top, .top, .top, .top, .top, .top, .top, .str (b1.drop 14)]) (.pure eGT rfl eV) (by kernel_rfl) (by kernel_rfl)
            · exact fun k _ => show Ent _ _ _ _ _ _ _ (.sl 3 [.str n1, .str b1, .str n2, .str b2, .str n3, .str b3] .ro) _ from Ent.agreeL2 (L := [4]) (ts := [.top, .top, .top, .top, .sl 3 [.str n1, .str b1, .str n2, .str b2, .str n3, .str b3] .ro]) (.pure eGT rfl eV) (by kernel_rfl) (by kernel_rfl)
            · exact fun k _ => show Ent _ _ _ _ _ _ _ (.row [.str n2, .str b2, .str n3, .str b3]) _ from Ent.agreeL2 (L := [86]) (ts := [.top, .top, .top, .top, .top, .top, .top, .top, .top, .top, .top, .top, .top, .top, .top, .top, .top, .top, .top, .top, .top, .top, .top, .top, .top, .top, .top, .top, .top, .top, .top, .top, .top, .top, .top, .top, .top, .top, .top, .top, .top, .top, .top, .top, .top, .top, .top, .top, .top, .top, .top, .top, .top, .top, .top, .top, .top, .top, .top, .top, .top, .top, .top, .top, .top, .top, .top, .top, .top, .top, .top, .top, .top, .top, .top, .top, .top, .top, .top, .top, .top, .top, .top, .top, .top, .top, .sl 3 [.str n1, .str b1, .str n2, .str b2, .str n3, .str b3] .ro]) (.pure eGT rfl eV) (by kernel_rfl) (by kernel_rfl)
            · exact fun k _ => show Ent _ _ _ _ _ _ _ (.row [.str b2, .str n3, .str b3]) _ from Ent.agreeL2 (L := [87]) (ts := [.top, .top, .top, .top, .top, .top, .top, .top, .top, .top, .top, .top, .top, .top, .top, .top, .top, .top, .top, .top, .top, .top, .top, .top, .top, .top, .top, .top, .top, .top, .top, .top, .top, .top, .top, .top, .top, .top, .top, .top, .top, .top, .top, .top, .top, .top, .top, .top, .top, .top, .top, .top, .top, .top, .top, .top, .top, .top, .top, .top, .top, .top, .top, .top, .top, .top, .top, .top, .top, .top, .top, .top, .top, .top, .top, .top, .top, .top, .top, .top, .top, .top, .top, .top, .top, .top, .top, .row [.str n2, .str b2, .str n3, .str b3]]) (.pure eGT rfl eV) (by kernel_rfl) (by kernel_rfl)
            · exact fun k _ => show Ent _ _ _ _ _ _ _ (.str b2) _ from Ent.agreeL2 (L := [88]) (ts := [.top, .top, .top, .top, .top, .top, .top, .top, .top, .top, .top, .top, .top, .top, .top, .top, .top, .top, .top, .top, .top, .top, .top, .top, .top, .top, .top, .top, .top, .top, .top, .top, .top, .top, .top, .top, .top, .top, .top, .top, .top, .top, .top, .top, .top, .top, .top, .top, .top, .top, .top, .top, .top, .top, .top, .top, .top, .top, .top, .top, .top, .top, .top, .top, .top, .top, .top, .top, .top, .top, .top, .top, .top, .top, .top, .top, .top, .top, .top, .top, .top, .top, .top, .top, .top, .top, .top, .top, .row [.str b2, .str n3, .str b3]]) (.pure eGT rfl eV) (by kernel_rfl) (by kernel_rfl)
            · exact fun k _ => show Ent _ _ _ _ _ _ _ (.agg [.str b2, .sl 0 [] .full, .int .i64 0]) _ from Ent.agreeL2 (L := [89]) (ts := [.top, .top, .top, .top, .top, .top, .top, .top, .top, .top, .top, .top, .top, .top, .top, .top, .top, .top, .top, .top, .top, .top, .top, .top, .top, .top, .top, .top, .top, .top, .top, .top, .top, .top, .top, .top, .top, .top, .top, .top, .top, .top, .top, .top, .top, .top, .top, .top, .top, .top, .top, .top, .top, .top, .top, .top, .top, .top, .top, .top, .top, .top, .top, .top, .top, .top, .top, .top, .top, .top, .top, .top, .top, .top, .top, .top, .top, .top, .top, .top, .top, .top, .top, .top, .top, .top, .top, .top, .top, .str b2]) (.heap eGT rfl (by first | exact eV | exact eLit)) (by kernel_rfl) (by kernel_rfl)
            · intro k hk
              match k, hk with
              | 0, _ => exact show Ent _ _ _ _ _ _ (H ++ [.cells [.sl 0 [] .full], .cells [.bool false], .cells [.sl J.length (jobAV J) .ro], .dead, .cells [.sl r.length (bytesAV r) .ro], .defr, .dead]) (.sl J.length (jobAV J) .ro) (H ++ [.cells [.sl 0 [] .full], .cells [.bool false], .cells [.sl J.length (jobAV J) .ro], .dead, .cells [.sl r.length (bytesAV r) .ro], .defr, .dead]) from Ent.agreeL2 (L := [9]) (ts := [.top, .top, .top, .top, .top, .top, .top, .top, .top, .ref (H.length + 2) 0]) (.pure eGT rfl eV) (by kernel_rfl) (by kernel_rfl)
              | 1, _ => exact show Ent _ _ _ _ _ _ (H ++ [.cells [.sl 0 [] .full], .cells [.bool false], .cells [.sl J.length (jobAV J) .ro], .dead, .cells [.sl r.length (bytesAV r) .ro], .defr, .dead, .cells [.str [], .sl 0 [] .full, .int .i64 0]]) (.sl J.length (jobAV J) .ro) (H ++ [.cells [.sl 0 [] .full], .cells [.bool false], .cells [.sl J.length (jobAV J) .ro], .dead, .cells [.sl r.length (bytesAV r) .ro], .defr, .dead, .cells [.str [], .sl 0 [] .full, .int .i64 0]]) from Ent.agreeL2 (L := [9]) (ts := [.top, .top, .top, .top, .top, .top, .top, .top, .top, .ref (H.length + 2) 0]) (.pure eGT rfl eV) (by kernel_rfl) (by kernel_rfl)
              | 2, _ => exact show Ent _ _ _ _ _ _ (H ++ [.cells [.sl 0 [] .full], .cells [.bool false], .cells [.sl J.length (jobAV J) .ro], .dead, .cells [.sl r.length (bytesAV r) .ro], .defr, .dead, .cells [.str [], .sl 1 [.str b2] .full, .int .i64 0]]) (.sl J.length (jobAV J) .ro) (H ++ [.cells [.sl 0 [] .full], .cells [.bool false], .cells [.sl J.length (jobAV J) .ro], .dead, .cells [.sl r.length (bytesAV r) .ro], .defr, .dead, .cells [.str [], .sl 1 [.str b2] .full, .int .i64 0]]) from Ent.agreeL2 (L := [9]) (ts := [.top, .top, .top, .top, .top, .top, .top, .top, .top, .ref (H.length + 2) 0]) (.pure eGT rfl eV) (by kernel_rfl) (by kernel_rfl)
            · exact fun k _ => show Ent _ _ _ _ _ _ _ (.tup [.agg [.str [], .sl 1 [.str b2] .full, .int .i64 0], .sl own.length (bytesAV own) .ro, .bool true]) _ from Ent.agreeL2 (L := [85, 90, 91]) (ts := [.top, .top, .top, .top, .top, .top, .top, .top, .top, .top, .top, .top, .top, .top, .top, .top, .top, .top, .top, .top, .top, .top, .top, .top, .top, .top, .top, .top, .top, .top, .top, .top, .top, .top, .top, .top, .top, .top, .top, .top, .top, .top, .top, .top, .top, .top, .top, .top, .top, .top, .top, .top, .top, .top, .top, .top, .top, .top, .top, .top, .top, .top, .top, .top, .top, .top, .top, .top, .top, .top, .top, .top, .top, .top, .top, .top, .top, .top, .top, .top, .top, .top, .top, .top, .top, .str (b1.drop 14), .top, .top, .top, .top, .agg [.str b2, .sl 0 [] .full, .int .i64 0], .sl J.length (jobAV J) .ro]) (.call eGT rfl rfl eA (args := [.str (b1.drop 14), .int .i64 0, .agg [.str b2, .sl 0 [] .full, .int .i64 0], .sl J.length (jobAV J) .ro]) eArgs ((hmk _).call trivial)) (by kernel_rfl) (by kernel_rfl)
            · exact fun k _ => show Ent _ _ _ _ _ _ _ (.tup [.agg [.str [], .sl 1 [.str b2] .full, .int .i64 0], .sl own.length (bytesAV own) .ro, .bool true]) _ from Ent.agreeL2 (L := [92]) (ts := [.top, .top, .top, .top, .top, .top, .top, .top, .top, .top, .top, .top, .top, .top, .top, .top, .top, .top, .top, .top, .top, .top, .top, .top, .top, .top, .top, .top, .top, .top, .top, .top, .top, .top, .top, .top, .top, .top, .top, .top, .top, .top, .top, .top, .top, .top, .top, .top, .top, .top, .top, .top, .top, .top, .top, .top, .top, .top, .top, .top, .top, .top, .top, .top, .top, .top, .top, .top, .top, .top, .top, .top, .top, .top, .top, .top, .top, .top, .top, .top, .top, .top, .top, .top, .top, .top, .top, .top, .top, .top, .top, .top, .tup [.agg [.str [], .sl 1 [.str b2] .full, .int .i64 0], .sl own.length (bytesAV own) .ro, .bool true]]) (.pure eGT rfl eV) (by kernel_rfl) (by kernel_rfl)
            · exact fun k _ => show Ent _ _ _ _ _ _ _ (.agg [.str [], .sl 1 [.str b2] .full, .int .i64 0]) _ from Ent.agreeL2 (L := [84]) (ts := [.top, .top, .top, .top, .top, .top, .top, .top, .top, .top, .top, .top, .top, .top, .top, .top, .top, .top, .top, .top, .top, .top, .top, .top, .top, .top, .top, .top, .top, .top, .top, .top, .top, .top, .top, .top, .top, .top, .top, .top, .top, .top, .top, .top, .top, .top, .top, .top, .top, .top, .top, .top, .top, .top, .top, .top, .top, .top, .top, .top, .top, .top, .top, .top, .top, .top, .top, .top, .top, .top, .top, .top, .top, .top, .top, .top, .top, .top, .top, .top, .top, .top, .top, .top, .tup [.agg [.str [], .sl 1 [.str b2] .full, .int .i64 0], .sl own.length (bytesAV own) .ro, .bool true]]) (.pure eGT rfl eV) (by kernel_rfl) (by kernel_rfl)
            · exact fun k _ => show Ent _ _ _ _ _ _ _ (.sl own.length (bytesAV own) .ro) _ from Ent.agreeL2 (L := [84]) (ts := [.top, .top, .top, .top, .top, .top, .top, .top, .top, .top, .top, .top, .top, .top, .top, .top, .top, .top, .top, .top, .top, .top, .top, .top, .top, .top, .top, .top, .top, .top, .top, .top, .top, .top, .top, .top, .top, .top, .top, .top, .top, .top, .top, .top, .top, .top, .top, .top, .top, .top, .top, .top, .top, .top, .top, .top, .top, .top, .top, .top, .top, .top, .top, .top, .top, .top, .top, .top, .top, .top, .top, .top, .top, .top, .top, .top, .top, .top, .top, .top, .top, .top, .top, .top, .tup [.agg [.str [], .sl 1 [.str b2] .full, .int .i64 0], .sl own.length (bytesAV own) .ro, .bool true]]) (.pure eGT rfl eV) (by kernel_rfl) (by kernel_rfl)
            · exact fun k _ => show Ent _ _ _ _ _ _ _ (.bool true) _ from Ent.agreeL2 (L := [84]) (ts := [.top, .top, .top, .top, .top, .top, .top, .top, .top, .top, .top, .top, .top, .top, .top, .top, .top, .top, .top, .top, .top, .top, .top, .top, .top, .top, .top, .top, .top, .top, .top, .top, .top, .top, .top, .top, .top, .top, .top, .top, .top, .top, .top, .top, .top, .top, .top, .top, .top, .top, .top, .top, .top, .top, .top, .top, .top, .top, .top, .top, .top, .top, .top, .top, .top, .top, .top, .top, .top, .top, .top, .top, .top, .top, .top, .top, .top, .top, .top, .top, .top, .top, .top, .top, .tup [.agg [.str [], .sl 1 [.str b2] .full, .int .i64 0], .sl own.length (bytesAV own) .ro, .bool true]]) (.pure eGT rfl eV) (by kernel_rfl) (by kernel_rfl)
            · exact ⟨by decide, show Ent _ _ _ _ _ _ (H ++ [.cells [.sl 0 [] .full], .cells [.bool false], .cells [.sl J.length (jobAV J) .ro], .dead, .cells [.sl r.length (bytesAV r) .ro], .defr, .dead]) (.ref (H.length + 7) 0) (H ++ [.cells [.sl 0 [] .full], .cells [.bool false], .cells [.sl J.length (jobAV J) .ro], .dead, .cells [.sl r.length (bytesAV r) .ro], .defr, .dead, .cells [.str [], .sl 0 [] .full, .int .i64 0]]) from Ent.agreeL2 (L := []) (ts := []) (.heap eGT rfl eV) (by kernel_rfl) (by kernel_rfl)⟩
            · exact ⟨by decide, show Ent _ _ _ _ _ _ (H ++ [.cells [.sl 0 [] .full], .cells [.bool false], .cells [.sl J.length (jobAV J) .ro], .dead, .cells [.sl r.length (bytesAV r) .ro], .defr, .dead, .cells [.str [], .sl 0 [] .full, .int .i64 0]]) (.top) (H ++ [.cells [.sl 0 [] .full], .cells [.bool false], .cells [.sl J.length (jobAV J) .ro], .dead, .cells [.sl r.length (bytesAV r) .ro], .defr, .dead, .cells [.str [], .sl 1 [.str b2] .full, .int .i64 0]]) from Ent.agreeL2 (L := [17, 93]) (ts := [.top, .top, .top, .top, .top, .top, .top, .top, .top, .top, .top, .top, .top, .top, .top, .top, .top, .ref (H.length + 7) 0, .top, .top, .top, .top, .top, .top, .top, .top, .top, .top, .top, .top, .top, .top, .top, .top, .top, .top, .top, .top, .top, .top, .top, .top, .top, .top, .top, .top, .top, .top, .top, .top, .top, .top, .top, .top, .top, .top, .top, .top, .top, .top, .top, .top, .top, .top, .top, .top, .top, .top, .top, .top, .top, .top, .top, .top, .top, .top, .top, .top, .top, .top, .top, .top, .top, .top, .top, .top, .top, .top, .top, .top, .top, .top, .top, .agg [.str [], .sl 1 [.str b2] .full, .int .i64 0]]) (.heap eGT rfl eV) (by kernel_rfl) (by kernel_rfl)⟩
            · exact fun k _ => show Ent _ _ _ _ _ _ _ (.sl own.length (bytesAV own) .ro) _ from Ent.agreeL2 (L := [94]) (ts := [.top, .top, .top, .top, .top, .top, .top, .top, .top, .top, .top, .top, .top, .top, .top, .top, .top, .top, .top, .top, .top, .top, .top, .top, .top, .top, .top, .top, .top, .top, .top, .top, .top, .top, .top, .top, .top, .top, .top, .top, .top, .top, .top, .top, .top, .top, .top, .top, .top, .top, .top, .top, .top, .top, .top, .top, .top, .top, .top, .top, .top, .top, .top, .top, .top, .top, .top, .top, .top, .top, .top, .top, .top, .top, .top, .top, .top, .top, .top, .top, .top, .top, .top, .top, .top, .top, .top, .top, .top, .top, .top, .top, .top, .top, .sl own.length (bytesAV own) .ro]) (.pure eGT rfl eV) (by kernel_rfl) (by kernel_rfl)
            · exact fun k _ => show Ent _ _ _ _ _ _ _ (.bool true) _ from Ent.agreeL2 (L := [95]) (ts := [.top, .top, .top, .top, .top, .top, .top, .top, .top, .top, .top, .top, .top, .top, .top, .top, .top, .top, .top, .top, .top, .top, .top, .top, .top, .top, .top, .top, .top, .top, .top, .top, .top, .top, .top, .top, .top, .top, .top, .top, .top, .top, .top, .top, .top, .top, .top, .top, .top, .top, .top, .top, .top, .top, .top, .top, .top, .top, .top, .top, .top, .top, .top, .top, .top, .top, .top, .top, .top, .top, .top, .top, .top, .top, .top, .top, .top, .top, .top, .top, .top, .top, .top, .top, .top, .top, .top, .top, .top, .top, .top, .top, .top, .top, .top, .bool true]) (.pure eGT rfl eV) (by kernel_rfl) (by kernel_rfl)
            refine wseq_normal ?_
            by_cases ho : own = b
            · have hbv : bncV b = .tup [.sl J.length (jobAV J) .ro, .bool true] := by unfold bncV; rw [hyes ho]
              rw [hbv]
              have hh := And.intro (show (own == b) = true from by rw [ho]; simp) hjl
              repeat' (first | refine go ?_ | (refine br (fun hc => ?_) (fun hc => ?_) <;> try (exfalso; omega)) | fail)
              exact .junkd ⟨rfl, rfl⟩
            · rw [hnn ho]
              have hh := And.intro (show (own == b) = false from by simpa using ho) hjl
              repeat' (first | refine go ?_ | (refine br (fun hc => ?_) (fun hc => ?_) <;> try (exfalso; omega)) | fail)
              exact .junkd ⟨rfl, rfl⟩
          · rw [hmn hM] at hmk
            rw [hno fun K hK => hM ⟨(bnc_no hP hr0 hJ hK).1, (bnc_no hP hr0 hJ hK).2.1⟩]
            repeat (refine w_seq ?_)
            refine w_drawnW [.pure, .pure, .pure, .pure, .pure, .pure, .pure, .pure, .pure, .pure, .pure, .pure, .step 0, .step 1, .pure, .pure] [.str (b1.drop 14), .sl 3 [.str n1, .str b1, .str n2, .str b2, .str n3, .str b3] .ro, .row [.str n2, .str b2, .str n3, .str b3], .row [.str b2, .str n3, .str b3], .str b2, .agg [.str b2, .sl 0 [] .full, .int .i64 0], .sl J.length (jobAV J) .ro, .tup [.agg [.str [], .sl 0 [] .full, .int .i64 0], .sl 0 [] .full, .bool false], .tup [.agg [.str [], .sl 0 [] .full, .int .i64 0], .sl 0 [] .full, .bool false], .agg [.str [], .sl 0 [] .full, .int .i64 0], .sl 0 [] .full, .bool false, .ref (H.length + 7) 0, .top, .sl 0 [] .full, .bool false] [(H ++ [.cells [.sl 0 [] .full], .cells [.bool false], .cells [.sl J.length (jobAV J) .ro], .dead, .cells [.sl r.length (bytesAV r) .ro], .defr, .dead]), (H ++ [.cells [.sl 0 [] .full], .cells [.bool false], .cells [.sl J.length (jobAV J) .ro], .dead, .cells [.sl r.length (bytesAV r) .ro], .defr, .dead, .cells [.str [], .sl 0 [] .full, .int .i64 0]]), (H ++ [.cells [.sl 0 [] .full], .cells [.bool false], .cells [.sl J.length (jobAV J) .ro], .dead, .cells [.sl r.length (bytesAV r) .ro], .defr, .dead, .cells [.str [], .sl 0 [] .full, .int .i64 0]])] 2 (by intro _ h; cases h) (by simp only [List.length_cons, List.length_nil, Nat.reduceAdd]; exact rfl) (by decide +kernel) rfl (allV_of ⟨?_, ?_, ?_, ?_, ?_, ?_, ?_, ?_, ?_, ?_, ?_, ?_, ?_, ?_, ?_, ?_, trivial⟩) (by simp only [putV, Go.Ab.putL, List.tail_cons, List.headD_cons, List.set_cons_succ, List.set_cons_zero]; exact rfl) (H2 := (H ++ [.cells [.sl 0 [] .full], .cells [.bool false], .cells [.sl J.length (jobAV J) .ro], .dead, .cells [.sl r.length (bytesAV r) .ro], .defr, .dead, .cells [.str [], .sl 0 [] .full, .int .i64 0]])) rfl ?_
            · exact fun k _ => show Ent _ _ _ _ _ _ _ (.str (b1.drop 14)) _ from Ent.agreeL2 (L := [7]) (ts := [.top, .top, .top, .top, .top, .top, .top, .str (b1.drop 14)]) (.pure eGT rfl eV) (by kernel_rfl) (by kernel_rfl)
            · exact fun k _ => show Ent _ _ _ _ _ _ _ (.sl 3 [.str n1, .str b1, .str n2, .str b2, .str n3, .str b3] .ro) _ from Ent.agreeL2 (L := [4]) (ts := [.top, .top, .top, .top, .sl 3 [.str n1, .str b1, .str n2, .str b2, .str n3, .str b3] .ro]) (.pure eGT rfl eV) (by kernel_rfl) (by kernel_rfl)
            · exact fun k _ => show Ent _ _ _ _ _ _ _ (.row [.str n2, .str b2, .str n3, .str b3]) _ from Ent.agreeL2 (L := [86]) (ts := [.top, .top, .top, .top, .top, .top, .top, .top, .top, .top, .top, .top, .top, .top, .top, .top, .top, .top, .top, .top, .top, .top, .top, .top, .top, .top, .top, .top, .top, .top, .top, .top, .top, .top, .top, .top, .top, .top, .top, .top, .top, .top, .top, .top, .top, .top, .top, .top, .top, .top, .top, .top, .top, .top, .top, .top, .top, .top, .top, .top, .top, .top, .top, .top, .top, .top, .top, .top, .top, .top, .top, .top, .top, .top, .top, .top, .top, .top, .top, .top, .top, .top, .top, .top, .top, .top, .sl 3 [.str n1, .str b1, .str n2, .str b2, .str n3, .str b3] .ro]) (.pure eGT rfl eV) (by kernel_rfl) (by kernel_rfl)
            · exact fun k _ => show Ent _ _ _ _ _ _ _ (.row [.str b2, .str n3, .str b3]) _ from Ent.agreeL2 (L := [87]) (ts := [.top, .top, .top, .top, .top, .top, .top, .top, .top, .top, .top, .top, .top, .top, .top, .top, .top, .top, .top, .top, .top, .top, .top, .top, .top, .top, .top, .top, .top, .top, .top, .top, .top, .top, .top, .top, .top, .top, .top, .top, .top, .top, .top, .top, .top, .top, .top, .top, .top, .top, .top, .top, .top, .top, .top, .top, .top, .top, .top, .top, .top, .top, .top, .top, .top, .top, .top, .top, .top, .top, .top, .top, .top, .top, .top, .top, .top, .top, .top, .top, .top, .top, .top, .top, .top, .top, .top, .row [.str n2, .str b2, .str n3, .str b3]]) (.pure eGT rfl eV) (by kernel_rfl) (by kernel_rfl)
            · exact fun k _ => show Ent _ _ _ _ _ _ _ (.str b2) _ from Ent.agreeL2 (L := [88]) (ts := [.top, .top, .top, .top, .top, .top, .top, .top, .top, .top, .top, .top, .top, .top, .top, .top, .top, .top, .top, .top, .top, .top, .top, .top, .top, .top, .top, .top, .top, .top, .top, .top, .top, .top, .top, .top, .top, .top, .top, .top, .top, .top, .top, .top, .top, .top, .top, .top, .top, .top, .top, .top, .top, .top, .top, .top, .top, .top, .top, .top, .top, .top, .top, .top, .top, .top, .top, .top, .top, .top, .top, .top, .top, .top, .top, .top, .top, .top, .top, .top, .top, .top, .top, .top, .top, .top, .top, .top, .row [.str b2, .str n3, .str b3]]) (.pure eGT rfl eV) (by kernel_rfl) (by kernel_rfl)
            · exact fun k _ => show Ent _ _ _ _ _ _ _ (.agg [.str b2, .sl 0 [] .full, .int .i64 0]) _ from Ent.agreeL2 (L := [89]) (ts := [.top, .top, .top, .top, .top, .top, .top, .top, .top, .top, .top, .top, .top, .top, .top, .top, .top, .top, .top, .top, .top, .top, .top, .top, .top, .top, .top, .top, .top, .top, .top, .top, .top, .top, .top, .top, .top, .top, .top, .top, .top, .top, .top, .top, .top, .top, .top, .top, .top, .top, .top, .top, .top, .top, .top, .top, .top, .top, .top, .top, .top, .top, .top, .top, .top, .top, .top, .top, .top, .top, .top, .top, .top, .top, .top, .top, .top, .top, .top, .top, .top, .top, .top, .top, .top, .top, .top, .top, .top, .str b2]) (.heap eGT rfl (by first | exact eV | exact eLit)) (by kernel_rfl) (by kernel_rfl)
            · intro k hk
              match k, hk with
              | 0, _ => exact show Ent _ _ _ _ _ _ (H ++ [.cells [.sl 0 [] .full], .cells [.bool false], .cells [.sl J.length (jobAV J) .ro], .dead, .cells [.sl r.length (bytesAV r) .ro], .defr, .dead]) (.sl J.length (jobAV J) .ro) (H ++ [.cells [.sl 0 [] .full], .cells [.bool false], .cells [.sl J.length (jobAV J) .ro], .dead, .cells [.sl r.length (bytesAV r) .ro], .defr, .dead]) from Ent.agreeL2 (L := [9]) (ts := [.top, .top, .top, .top, .top, .top, .top, .top, .top, .ref (H.length + 2) 0]) (.pure eGT rfl eV) (by kernel_rfl) (by kernel_rfl)
              | 1, _ => exact show Ent _ _ _ _ _ _ (H ++ [.cells [.sl 0 [] .full], .cells [.bool false], .cells [.sl J.length (jobAV J) .ro], .dead, .cells [.sl r.length (bytesAV r) .ro], .defr, .dead, .cells [.str [], .sl 0 [] .full, .int .i64 0]]) (.sl J.length (jobAV J) .ro) (H ++ [.cells [.sl 0 [] .full], .cells [.bool false], .cells [.sl J.length (jobAV J) .ro], .dead, .cells [.sl r.length (bytesAV r) .ro], .defr, .dead, .cells [.str [], .sl 0 [] .full, .int .i64 0]]) from Ent.agreeL2 (L := [9]) (ts := [.top, .top, .top, .top, .top, .top, .top, .top, .top, .ref (H.length + 2) 0]) (.pure eGT rfl eV) (by kernel_rfl) (by kernel_rfl)
              | 2, _ => exact show Ent _ _ _ _ _ _ (H ++ [.cells [.sl 0 [] .full], .cells [.bool false], .cells [.sl J.length (jobAV J) .ro], .dead, .cells [.sl r.length (bytesAV r) .ro], .defr, .dead, .cells [.str [], .sl 0 [] .full, .int .i64 0]]) (.sl J.length (jobAV J) .ro) (H ++ [.cells [.sl 0 [] .full], .cells [.bool false], .cells [.sl J.length (jobAV J) .ro], .dead, .cells [.sl r.length (bytesAV r) .ro], .defr, .dead, .cells [.str [], .sl 0 [] .full, .int .i64 0]]) from Ent.agreeL2 (L := [9]) (ts := [.top, .top, .top, .top, .top, .top, .top, .top, .top, .ref (H.length + 2) 0]) (.pure eGT rfl eV) (by kernel_rfl) (by kernel_rfl)
            · exact fun k _ => show Ent _ _ _ _ _ _ _ (.tup [.agg [.str [], .sl 0 [] .full, .int .i64 0], .sl 0 [] .full, .bool false]) _ from Ent.agreeL2 (L := [85, 90, 91]) (ts := [.top, .top, .top, .top, .top, .top, .top, .top, .top, .top, .top, .top, .top, .top, .top, .top, .top, .top, .top, .top, .top, .top, .top, .top, .top, .top, .top, .top, .top, .top, .top, .top, .top, .top, .top, .top, .top, .top, .top, .top, .top, .top, .top, .top, .top, .top, .top, .top, .top, .top, .top, .top, .top, .top, .top, .top, .top, .top, .top, .top, .top, .top, .top, .top, .top, .top, .top, .top, .top, .top, .top, .top, .top, .top, .top, .top, .top, .top, .top, .top, .top, .top, .top, .top, .top, .str (b1.drop 14), .top, .top, .top, .top, .agg [.str b2, .sl 0 [] .full, .int .i64 0], .sl J.length (jobAV J) .ro]) (.call eGT rfl rfl eA (args := [.str (b1.drop 14), .int .i64 0, .agg [.str b2, .sl 0 [] .full, .int .i64 0], .sl J.length (jobAV J) .ro]) eArgs ((hmk _).call trivial)) (by kernel_rfl) (by kernel_rfl)
            · exact fun k _ => show Ent _ _ _ _ _ _ _ (.tup [.agg [.str [], .sl 0 [] .full, .int .i64 0], .sl 0 [] .full, .bool false]) _ from Ent.agreeL2 (L := [92]) (ts := [.top, .top, .top, .top, .top, .top, .top, .top, .top, .top, .top, .top, .top, .top, .top, .top, .top, .top, .top, .top, .top, .top, .top, .top, .top, .top, .top, .top, .top, .top, .top, .top, .top, .top, .top, .top, .top, .top, .top, .top, .top, .top, .top, .top, .top, .top, .top, .top, .top, .top, .top, .top, .top, .top, .top, .top, .top, .top, .top, .top, .top, .top, .top, .top, .top, .top, .top, .top, .top, .top, .top, .top, .top, .top, .top, .top, .top, .top, .top, .top, .top, .top, .top, .top, .top, .top, .top, .top, .top, .top, .top, .top, .tup [.agg [.str [], .sl 0 [] .full, .int .i64 0], .sl 0 [] .full, .bool false]]) (.pure eGT rfl eV) (by kernel_rfl) (by kernel_rfl)
            · exact fun k _ => show Ent _ _ _ _ _ _ _ (.agg [.str [], .sl 0 [] .full, .int .i64 0]) _ from Ent.agreeL2 (L := [84]) (ts := [.top, .top, .top, .top, .top, .top, .top, .top, .top, .top, .top, .top, .top, .top, .top, .top, .top, .top, .top, .top, .top, .top, .top, .top, .top, .top, .top, .top, .top, .top, .top, .top, .top, .top, .top, .top, .top, .top, .top, .top, .top, .top, .top, .top, .top, .top, .top, .top, .top, .top, .top, .top, .top, .top, .top, .top, .top, .top, .top, .top, .top, .top, .top, .top, .top, .top, .top, .top, .top, .top, .top, .top, .top, .top, .top, .top, .top, .top, .top, .top, .top, .top, .top, .top, .tup [.agg [.str [], .sl 0 [] .full, .int .i64 0], .sl 0 [] .full, .bool false]]) (.pure eGT rfl eV) (by kernel_rfl) (by kernel_rfl)
            · exact fun k _ => show Ent _ _ _ _ _ _ _ (.sl 0 [] .full) _ from Ent.agreeL2 (L := [84]) (ts := [.top, .top, .top, .top, .top, .top, .top, .top, .top, .top, .top, .top, .top, .top, .top, .top, .top, .top, .top, .top, .top, .top, .top, .top, .top, .top, .top, .top, .top, .top, .top, .top, .top, .top, .top, .top, .top, .top, .top, .top, .top, .top, .top, .top, .top, .top, .top, .top, .top, .top, .top, .top, .top, .top, .top, .top, .top, .top, .top, .top, .top, .top, .top, .top, .top, .top, .top, .top, .top, .top, .top, .top, .top, .top, .top, .top, .top, .top, .top, .top, .top, .top, .top, .top, .tup [.agg [.str [], .sl 0 [] .full, .int .i64 0], .sl 0 [] .full, .bool false]]) (.pure eGT rfl eV) (by kernel_rfl) (by kernel_rfl)
            · exact fun k _ => show Ent _ _ _ _ _ _ _ (.bool false) _ from Ent.agreeL2 (L := [84]) (ts := [.top, .top, .top, .top, .top, .top, .top, .top, .top, .top, .top, .top, .top, .top, .top, .top, .top, .top, .top, .top, .top, .top, .top, .top, .top, .top, .top, .top, .top, .top, .top, .top, .top, .top, .top, .top, .top, .top, .top, .top, .top, .top, .top, .top, .top, .top, .top, .top, .top, .top, .top, .top, .top, .top, .top, .top, .top, .top, .top, .top, .top, .top, .top, .top, .top, .top, .top, .top, .top, .top, .top, .top, .top, .top, .top, .top, .top, .top, .top, .top, .top, .top, .top, .top, .tup [.agg [.str [], .sl 0 [] .full, .int .i64 0], .sl 0 [] .full, .bool false]]) (.pure eGT rfl eV) (by kernel_rfl) (by kernel_rfl)
            · exact ⟨by decide, show Ent _ _ _ _ _ _ (H ++ [.cells [.sl 0 [] .full], .cells [.bool false], .cells [.sl J.length (jobAV J) .ro], .dead, .cells [.sl r.length (bytesAV r) .ro], .defr, .dead]) (.ref (H.length + 7) 0) (H ++ [.cells [.sl 0 [] .full], .cells [.bool false], .cells [.sl J.length (jobAV J) .ro], .dead, .cells [.sl r.length (bytesAV r) .ro], .defr, .dead, .cells [.str [], .sl 0 [] .full, .int .i64 0]]) from Ent.agreeL2 (L := []) (ts := []) (.heap eGT rfl eV) (by kernel_rfl) (by kernel_rfl)⟩
            · exact ⟨by decide, show Ent _ _ _ _ _ _ (H ++ [.cells [.sl 0 [] .full], .cells [.bool false], .cells [.sl J.length (jobAV J) .ro], .dead, .cells [.sl r.length (bytesAV r) .ro], .defr, .dead, .cells [.str [], .sl 0 [] .full, .int .i64 0]]) (.top) (H ++ [.cells [.sl 0 [] .full], .cells [.bool false], .cells [.sl J.length (jobAV J) .ro], .dead, .cells [.sl r.length (bytesAV r) .ro], .defr, .dead, .cells [.str [], .sl 0 [] .full, .int .i64 0]]) from Ent.agreeL2 (L := [17, 93]) (ts := [.top, .top, .top, .top, .top, .top, .top, .top, .top, .top, .top, .top, .top, .top, .top, .top, .top, .ref (H.length + 7) 0, .top, .top, .top, .top, .top, .top, .top, .top, .top, .top, .top, .top, .top, .top, .top, .top, .top, .top, .top, .top, .top, .top, .top, .top, .top, .top, .top, .top, .top, .top, .top, .top, .top, .top, .top, .top, .top, .top, .top, .top, .top, .top, .top, .top, .top, .top, .top, .top, .top, .top, .top, .top, .top, .top, .top, .top, .top, .top, .top, .top, .top, .top, .top, .top, .top, .top, .top, .top, .top, .top, .top, .top, .top, .top, .top, .agg [.str [], .sl 0 [] .full, .int .i64 0]]) (.heap eGT rfl eV) (by kernel_rfl) (by kernel_rfl)⟩
            · exact fun k _ => show Ent _ _ _ _ _ _ _ (.sl 0 [] .full) _ from Ent.agreeL2 (L := [94]) (ts := [.top, .top, .top, .top, .top, .top, .top, .top, .top, .top, .top, .top, .top, .top, .top, .top, .top, .top, .top, .top, .top, .top, .top, .top, .top, .top, .top, .top, .top, .top, .top, .top, .top, .top, .top, .top, .top, .top, .top, .top, .top, .top, .top, .top, .top, .top, .top, .top, .top, .top, .top, .top, .top, .top, .top, .top, .top, .top, .top, .top, .top, .top, .top, .top, .top, .top, .top, .top, .top, .top, .top, .top, .top, .top, .top, .top, .top, .top, .top, .top, .top, .top, .top, .top, .top, .top, .top, .top, .top, .top, .top, .top, .top, .top, .sl 0 [] .full]) (.pure eGT rfl eV) (by kernel_rfl) (by kernel_rfl)
            · exact fun k _ => show Ent _ _ _ _ _ _ _ (.bool false) _ from Ent.agreeL2 (L := [95]) (ts := [.top, .top, .top, .top, .top, .top, .top, .top, .top, .top, .top, .top, .top, .top, .top, .top, .top, .top, .top, .top, .top, .top, .top, .top, .top, .top, .top, .top, .top, .top, .top, .top, .top, .top, .top, .top, .top, .top, .top, .top, .top, .top, .top, .top, .top, .top, .top, .top, .top, .top, .top, .top, .top, .top, .top, .top, .top, .top, .top, .top, .top, .top, .top, .top, .top, .top, .top, .top, .top, .top, .top, .top, .top, .top, .top, .top, .top, .top, .top, .top, .top, .top, .top, .top, .top, .top, .top, .top, .top, .top, .top, .top, .top, .top, .top, .bool false]) (.pure eGT rfl eV) (by kernel_rfl) (by kernel_rfl)
            refine wseq_normal ?_
            repeat' (first | refine go ?_ | (refine br (fun hc => ?_) (fun hc => ?_) <;> try (exfalso; omega)) | fail)
            exact .junkd ⟨rfl, rfl⟩
        · intro J r hr
          have hJ := foldR_bn_stop hr
          have hn := hno fun K hK => by
            obtain ⟨host, fro, k1, k2, k3, k4⟩ := bnc_jobs hK
            rw [hP] at k2
            injection k2 with _ k2
            injection k2 with k2 _
            rw [← k2, hr0, hJ] at k3
            simp at k3
          rw [hn]
          repeat' (first | refine go ?_ | (refine br (fun hc => ?_) (fun hc => ?_) <;> try (exfalso; omega)) | fail)
          exact .junkd ⟨rfl, rfl⟩
        · intro fn e; nomatch e
      · have hn := hno fun J hJ => by
          obtain ⟨host, fro, k1, k2, k3⟩ := bnc_jobs hJ
          rw [hP] at k2
          simp only [bncF, Prod.mk.injEq, List.cons.injEq] at k2
          exact hm (by rw [k2.1.1.2]; rfl)
        rw [hn]
        unfold cpmV at hcm
        rw [if_neg hm] at hcm
        refine enter (md := fun _ => 0) Tryz.func34 (fun hfit hgl => ?_)
        repeat' (first | refine go ?_ | (refine br (fun hc => ?_) (fun hc => ?_) <;> try (exfalso; omega)) | fail)
        exact .junkd ⟨rfl, rfl⟩
    · have hn := hno fun J hJ => by
        obtain ⟨host, fro, k1, k2, k3⟩ := bnc_jobs hJ
        rw [hP] at k2
        injection k2 with k2 _
        exact h3 (by rw [k2]; rfl)
      rw [hn]
      subst h0
      refine enter (md := fun _ => 0) Tryz.func34 (fun hfit hgl => ?_)
      repeat' (first | refine go ?_ | (refine br (fun hc => ?_) (fun hc => ?_) <;> try (exfalso; omega)) | fail)
      exact .junkd ⟨rfl, rfl⟩
  · have hn := hno fun J hJ => by
      obtain ⟨host, fro, k1, k2, k3⟩ := bnc_jobs hJ
      rw [hP] at k2
      injection k2 with _ k2
      injection k2 with _ k2
      exact h0 k2
    rw [hn]
    refine enter (md := fun _ => 0) Tryz.func34 (fun hfit hgl => ?_)
    repeat' (first | refine go ?_ | (refine br (fun hc => ?_) (fun hc => ?_) <;> try (exfalso; omega)) | fail)
    exact .junkd ⟨rfl, rfl⟩
end Go.Ab.Tryz
