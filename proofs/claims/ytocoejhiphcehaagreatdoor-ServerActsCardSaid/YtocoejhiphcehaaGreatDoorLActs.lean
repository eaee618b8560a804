/- Walks: the law on sessions: the program's and the document's, side by side. -/
import Derived.Test.YtocoejhiphcehaaGreatDoorLThrA
import Derived.Test.YtocoejhiphcehaaGreatDoorLRsB
import Derived.Test.YtocoejhiphcehaaGreatDoorLRsA
set_option linter.unusedSimpArgs false
set_option linter.unusedVariables false
set_option maxHeartbeats 16000000
set_option maxRecDepth 10000
namespace Go.Ab.Tryz
open Go Go.Ab Go.Proofs
attribute [local irreducible] W Wl Wop TrA WSeq WLoopS WLoopM FPost DPost RPost WRound DK onEnd
attribute [local simp] belowL_bytesAV belowL_strsM belowL_linesAV belowL_ints belowL_appM
variable {n0 : Nat} {w0 : World} {gl : Nat → List AV} {H : List AO}

theorem same25a_e (fro : List UInt8) (to : List (List UInt8)) (at_ : Int) (htl : to.length ≤ 9223372036854775807) : AEnter (env n0 w0 gl) 15 [.agg [.str fro, .sl to.length (to.map .str) .ro, .int .i64 at_], .agg [.str fro, .sl to.length (to.map .str) .ro, .int .i64 at_]] H (fun y H' => y = .ret (.bool true) ∧ H' = H) := by
  refine enter (md := fun _ => 0) Tryz.func15 (fun hfit hgl => ?_)
  repeat' (first | refine go ?_ | (refine br (fun hc => ?_) (fun hc => ?_) <;> try (exfalso; omega)) | fail)
  refine loop0 (fun i : Nat => (.top :: .top :: .ref H.length 0 :: .ref (H.length + 1) 0 :: .bool false :: .top :: .top :: .top :: .top :: .top :: .top :: .top :: .top :: .top :: .top :: .top :: .top :: .top :: .top :: .top :: .top :: .top :: .top :: .top :: .top :: .top :: .top :: .top :: .top :: .int .i64 to.length :: .int .i64 (i : Int) :: .top :: .top :: .top :: .top :: .top :: .top :: .top :: .top :: .top :: .top :: .top :: .top :: .top :: .top :: [])) (fun i => i ≤ to.length) (fun i => to.length - i) 0 (Nat.zero_le _) ?_
  intro i hi
  by_cases hlt : i < to.length
  · repeat' (first | refine go ?_ | (refine br (fun hc => ?_) (fun hc => ?_) <;> try (exfalso; omega)) | fail)
    exact again (i + 1) (by omega)
  · repeat' (first | refine go ?_ | (refine br (fun hc => ?_) (fun hc => ?_) <;> try (exfalso; omega)) | fail)
    exact .junkd ⟨rfl, rfl⟩

/-- Both sessions in memory. -/
def duo (H : List AO) (c0 : AO) (s : Ses) (ek et : Nat) (r : Ses) : List AO := H ++ [c0, .dead, .cells (sesAV s (H.length + 3) ek (H.length + 4) et), .tail 1 ek, .tail 1 et, .dead, .cells (refAV r)]
theorem duo_len (H : List AO) (c0 : AO) (s : Ses) (ek et : Nat) (r : Ses) : (duo H c0 s ek et r).length = H.length + 7 := by simp [duo]
theorem duo_ses (H : List AO) (c0 : AO) (s : Ses) (ek et : Nat) (r : Ses) : SesAt (duo H c0 s ek et r) (H.length + 2) (H.length + 3) (H.length + 4) s ek et := by
  unfold duo
  refine ⟨?_, ?_, ?_, by omega⟩ <;> simp [getE, getE0]
theorem duo_ref (H : List AO) (c0 : AO) (s : Ses) (ek et : Nat) (r : Ses) : RefAt (duo H c0 s ek et r) (H.length + 6) r := by
  unfold duo RefAt; simp [getE, getE0]
theorem duo_sput (H : List AO) (c0 : AO) (s : Ses) (ek et : Nat) (r s' : Ses) (ek' et' : Nat) : sput (duo H c0 s ek et r) (H.length + 2) (H.length + 3) (H.length + 4) s' ek' et' = duo H c0 s' ek' et' r := by
  unfold sput duo; simp [setE, setE0]
theorem duo_rput (H : List AO) (c0 : AO) (s : Ses) (ek et : Nat) (r r' : Ses) : rput (duo H c0 s ek et r) (H.length + 6) r' = duo H c0 s ek et r' := by
  unfold rput duo; simp [setE, setE0]
theorem duo_g0 (H : List AO) (c0 : AO) (s : Ses) (ek et : Nat) (r : Ses) (l : List AO) : (duo H c0 s ek et r ++ l)[H.length]? = some c0 := by
  unfold duo; rw [List.append_assoc, getE0]; rfl
theorem duo_g00 (H : List AO) (c0 : AO) (s : Ses) (ek et : Nat) (r : Ses) : (duo H c0 s ek et r)[H.length]? = some c0 := by
  unfold duo; rw [getE0]; rfl
theorem duo_gi (H : List AO) (c0 : AO) (s : Ses) (ek et : Nat) (r : Ses) (l : List AO) (i : Nat) : (duo H c0 s ek et r ++ l)[H.length + (7 + i)]? = l[i]? := by
  rw [List.getElem?_append_right (by rw [duo_len]; omega), duo_len]; congr 1; omega
theorem duoF (H : List AO) (c0 : AO) : (∀ s ek et r l, (duo H c0 s ek et r ++ l)[H.length + 6]? = some (.cells [.str r.host, .int .i64 r.rc, .int .i64 r.sz, .sl r.kept.length (bytesAV r.kept) .ro, .int .i64 r.state, .str r.fro, .sl r.to.length (r.to.map .str) .ro, .sl r.body.length (bytesAV r.body) .ro, .bool r.waits, .bool r.shut, .bool r.told])) ∧ (∀ s ek et r, (duo H c0 s ek et r)[H.length + 6]? = some (.cells [.str r.host, .int .i64 r.rc, .int .i64 r.sz, .sl r.kept.length (bytesAV r.kept) .ro, .int .i64 r.state, .str r.fro, .sl r.to.length (r.to.map .str) .ro, .sl r.body.length (bytesAV r.body) .ro, .bool r.waits, .bool r.shut, .bool r.told])) ∧ (∀ s ek et r l, (duo H c0 s ek et r ++ l)[H.length + 7]? = l[0]?) ∧ (∀ s ek et r l v, (duo H c0 s ek et r ++ l).set (H.length + 7) v = duo H c0 s ek et r ++ l.set 0 v) ∧ (∀ s ek et r, (duo H c0 s ek et r).length = H.length + 7) := by
  refine ⟨fun s ek et r l => ((duo_ref H c0 s ek et r).app l).cells, fun s ek et r => (duo_ref H c0 s ek et r).cells, fun s ek et r l => ?_, fun s ek et r l v => ?_, duo_len H c0⟩
  · have := duo_gi H c0 s ek et r l 0; simpa using this
  · rw [List.set_append_right _ _ (by rw [duo_len]; omega), duo_len, Nat.sub_self]

theorem duo_fit {c0 : AO} (hc : c0.within (H.length + 7) = true) (hf : Fit H.length H) (s : Ses) (ek et : Nat) (r : Ses) : Fit (H.length + 7) (duo H c0 s ek et r) := by
  unfold duo
  refine Fit.append (Fit.mono (by omega) hf) (fit_cons hc (fit_cons rfl (fit_cons ?_ (fit_cons rfl (fit_cons rfl (fit_cons rfl (fit_cons (ref_within _ r) fit_nil)))))))
  exact ses_within s (by omega) (by omega)
theorem serverActs_t [hml : GLInt gl 0] [ht : Tab10 n0 w0] (host : List UInt8) (rc sz : Int) (l : List (List UInt8)) (codes : List Int) (hb : host.length ≤ 9223372036854775807) (hl : l.length ≤ 9223372036854775807) (hx : ∀ x ∈ l, x.length ≤ 9223372036854775807) (hcl : codes.length ≤ 9223372036854775807) (hcb : ∀ x ∈ codes, -9223372036854775808 ≤ x ∧ x ≤ 9223372036854775807) :
    AEnter (env n0 w0 gl) 3 [.agg [.str host, .int .i64 rc, .int .i64 sz], .sl l.length (linesAV l) .ro, .sl codes.length (intsAV codes) .ro] H (fun y H' => y = .ret (.bool true) ∧ H' = H) := by
  have hfw : ∀ X, Ctr (env n0 w0 gl) 9 [.sl l.length (linesAV l) .ro] X True (.bool (tf (FewOk l))) X := fun X => .of fun _ => few_e l hl hx
  rcases (Classical.em (FewOk l)).symm with hf | hf
  · have hft := tf_false hf
    have hh := hft
    refine enter (md := fun _ => 0) Tryz.func3 (fun hfit hgl => ?_)
    repeat' (first | refine go ?_ | (refine br (fun hc => ?_) (fun hc => ?_) <;> try (exfalso; omega)) | fail)
    exact .junkd ⟨rfl, rfl⟩
  have hft := tf_true hf
  by_cases hhl : (host.length : Int) > 300
  · have hh := And.intro hft hhl
    refine enter (md := fun _ => 0) Tryz.func3 (fun hfit hgl => ?_)
    repeat' (first | refine go ?_ | (refine br (fun hc => ?_) (fun hc => ?_) <;> try (exfalso; omega)) | fail)
    exact .junkd ⟨rfl, rfl⟩
  have hff := few_flat hf
  have hla := linesAV_len l
  obtain ⟨c0, hc0⟩ : ∃ c0, c0 = AO.cells [.str host, .int .i64 rc, .int .i64 sz] := ⟨_, rfl⟩
  have hnew : Ctr (env n0 w0 gl) 10 [.agg [.str host, .int .i64 rc, .int .i64 sz]] (H ++ [.cells [.str host, .int .i64 rc, .int .i64 sz]]) True (.ref (H.length + 2) 0) (H ++ [.cells [.str host, .int .i64 rc, .int .i64 sz], .dead, .cells (sesAV (s25 host rc sz) (H.length + 3) 1 (H.length + 4) 1), .tail 1 1, .tail 1 1]) := .of fun _ => by
    have := new_e (n0 := n0) (w0 := w0) (gl := gl) (H := H ++ [.cells [.str host, .int .i64 rc, .int .i64 sz]]) host rc sz hb
    simp only [List.length_append, List.length_cons, List.length_nil, List.append_assoc, List.cons_append, List.nil_append, Nat.zero_add, Nat.add_assoc, Nat.reduceAdd] at this
    exact this
  have hrnew : Ctr (env n0 w0 gl) 11 [.agg [.str host, .int .i64 rc, .int .i64 sz]] (H ++ [.cells [.str host, .int .i64 rc, .int .i64 sz], .dead, .cells (sesAV (s25 host rc sz) (H.length + 3) 1 (H.length + 4) 1), .tail 1 1, .tail 1 1]) True (.ref (H.length + 6) 0) (duo H (.cells [.str host, .int .i64 rc, .int .i64 sz]) (s25 host rc sz) 1 1 (s25 host rc sz)) := .of fun _ => by
    have := rnew_e (n0 := n0) (w0 := w0) (gl := gl) (H := H ++ [.cells [.str host, .int .i64 rc, .int .i64 sz], .dead, .cells (sesAV (s25 host rc sz) (H.length + 3) 1 (H.length + 4) 1), .tail 1 1, .tail 1 1]) host rc sz hb
    simp only [List.length_append, List.length_cons, List.length_nil, List.append_assoc, List.cons_append, List.nil_append, Nat.zero_add, Nat.add_assoc, Nat.reduceAdd] at this
    exact this
  have hF := duoF H (.cells [.str host, .int .i64 rc, .int .i64 sz])
  have hh := And.intro hft (And.intro hhl hF)
  refine enter (md := fun _ => 0) Tryz.func3 (fun hfit hgl => ?_)
  generalize hr5 : Code.region 5 _ _ = r5
  generalize hr12 : Code.region 12 _ _ = r12
  generalize hr19 : Code.region 19 _ _ = r19
  generalize hr22 : Code.region 22 _ _ = r22
  repeat' (first | refine go ?_ | (refine br (fun hc => ?_) (fun hc => ?_) <;> try (exfalso; omega)) | fail)
  rw [← hr5]
  repeat (refine w_seq ?_)
  refine w_drawnP (fun X => X[H.length]? = some (.cells [.str host, .int .i64 rc, .int .i64 sz])) (by intro _ h; cases h) (by simp only [List.length_cons, List.length_nil, Nat.reduceAdd]; exact rfl) ?_
  refine goP ?_
  repeat' (first | refine go ?_ | (refine br (fun hc => ?_) (fun hc => ?_) <;> try (exfalso; omega)) | fail)
  generalize hcb0 : AO.cells [AV.str host, .int .i64 rc, .int .i64 sz] = cb at hF ⊢
  have hcbw : cb.within (H.length + 7) = true := by rw [← hcb0]; simp [AO.within, belowL, AV.within]
  have hgood := s25_good host rc sz
  have hke : (s25 host rc sz).kept.length = 0 := rfl
  generalize s25 host rc sz = s0 at hgood hke ⊢
  refine loop (fun j : Nat × (Nat × SesT) => (.agg [.str host, .int .i64 rc, .int .i64 sz] :: .sl l.length (linesAV l) .ro :: .sl codes.length (intsAV codes) .ro :: .ref H.length 0 :: .top :: .top :: .bool false :: .ref (H.length + 2) 0 :: .ref (H.length + 6) 0 :: .int .i64 (j.2.1 : Int) :: .top :: .top :: .top :: .top :: .top :: .top :: .top :: .top :: .top :: .top :: .top :: .top :: .top :: .top :: .top :: .top :: .top :: .top :: .top :: .top :: .top :: .top :: .sl l.length (linesAV l) .ro :: .int .i64 l.length :: .int .i64 (j.1 : Int) :: .top :: .top :: .top :: .top :: .top :: .top :: .top :: .top :: .top :: .top :: .top :: .top :: .top :: .top :: .top :: .top :: .top :: .top :: .top :: .top :: .top :: .top :: .top :: .top :: .top :: .top :: .top :: .top :: .top :: .top :: .top :: .top :: .top :: .top :: .top :: .top :: .top :: .top :: .top :: .top :: .top :: .top :: .top :: .top :: .top :: .top :: .top :: .top :: .top :: .top :: .top :: .top :: .top :: .top :: .top :: .top :: .top :: .top :: .top :: .top :: .top :: .top :: .top :: .top :: .top :: .top :: .top :: .top :: .top :: .top :: .top :: .top :: .top :: .top :: .top :: .top :: .top :: .top :: .top :: .top :: .top :: .top :: []))
    (fun j => duo H cb j.2.2.s j.2.2.ek j.2.2.et j.2.2.s) (fun j => j.1 ≤ l.length ∧ j.2.1 ≤ 201 ∧ j.2.2.s.Good ∧ j.2.2.s.kept.length ≤ (l.take j.1).flatten.length) (fun j => l.length - j.1) (0, (0, ⟨s0, 1, 1⟩)) ⟨Nat.zero_le _, Nat.zero_le _, hgood, by rw [hke]; exact Nat.zero_le _⟩ ?_
  rintro ⟨i, n, ⟨s1, ek1, et1⟩⟩ ⟨hi, hn1, g1, k1⟩
  simp only at hi hn1 g1 k1 ⊢
  by_cases hlt : i < l.length
  · have hat := rlines_at hlt
    have hts := flat_succ hlt
    have htl := flat_take l (i + 1)
    generalize hbe : l[i] = b at *
    have hbk : s1.kept.length + b.length ≤ 1000000 := by omega
    obtain ⟨g2, o2, k2⟩ := good_feed g1 b hbk
    have hfd : Ctr (env n0 w0 gl) 12 [.ref (H.length + 2) 0, .sl b.length (bytesAV b) .ro] (duo H cb s1 ek1 et1 s1) True (.sl (feedS s1 b).1.length (bytesAV (feedS s1 b).1) .ro) (duo H cb (feedS s1 b).2 (feedT ⟨s1, ek1, et1⟩ b).ek (feedT ⟨s1, ek1, et1⟩ b).et s1) := .of fun _ => by
      have := feed_e (n0 := n0) (w0 := w0) (gl := gl) (duo_ses H cb s1 ek1 et1 s1) g1.lim b .ro hbk
      rw [duo_sput, feedT_s] at this
      exact this
    have hrf : ∀ s ek et, Ctr (env n0 w0 gl) 13 [.ref (H.length + 6) 0, .sl b.length (bytesAV b) .ro] (duo H cb s ek et s1) True (.sl (feedS s1 b).1.length (bytesAV (feedS s1 b).1) .ro) (duo H cb s ek et (feedS s1 b).2) := fun s ek et => .of fun _ => by
      have := rfeed_e (n0 := n0) (w0 := w0) (gl := gl) (duo_ref H cb s ek et s1) g1.lim g1.st b .ro hbk
      rw [duo_rput] at this
      exact this
    generalize (feedT ⟨s1, ek1, et1⟩ b).ek = ek2 at hfd
    generalize (feedT ⟨s1, ek1, et1⟩ b).et = et2 at hfd
    generalize (feedS s1 b).1 = fo at hfd hrf o2
    generalize (feedS s1 b).2 = s2 at hfd hrf o2 g2 k2
    have hob : fo.length ≤ 200000000 := by omega
    have hh := And.intro hat hla
    repeat' (first | refine go ?_ | (refine br (fun hc => ?_) (fun hc => ?_) <;> try (exfalso; omega)) | fail)
    rw [← hr12]
    repeat (refine w_seq ?_)
    refine w_drawnP (fun _ => True) (by intro _ h; cases h) (by simp only [List.length_cons, List.length_nil, Nat.reduceAdd]; exact rfl) ?_
    refine goP ?_
    repeat' (first | refine go ?_ | (refine br (fun hc => ?_) (fun hc => ?_) <;> try (exfalso; omega)) | fail)
    refine loop (fun j : Nat × SesT => (.agg [.str host, .int .i64 rc, .int .i64 sz] :: .sl l.length (linesAV l) .ro :: .sl codes.length (intsAV codes) .ro :: .ref H.length 0 :: .top :: .top :: .bool false :: .ref (H.length + 2) 0 :: .ref (H.length + 6) 0 :: .int .i64 (j.1 : Int) :: .top :: .top :: .top :: .top :: .top :: .top :: .top :: .top :: .top :: .top :: .top :: .top :: .top :: .top :: .top :: .top :: .top :: .top :: .top :: .top :: .top :: .top :: .sl l.length (linesAV l) .ro :: .int .i64 l.length :: .int .i64 (i : Int) :: .top :: .top :: .top :: .top :: .top :: .top :: .top :: .top :: .top :: .top :: .top :: .top :: .top :: .top :: .top :: .top :: .top :: .top :: .top :: .top :: .top :: .top :: .top :: .top :: .top :: .top :: .top :: .top :: .top :: .top :: .top :: .top :: .top :: .top :: .top :: .top :: .top :: .top :: .top :: .top :: .top :: .top :: .top :: .top :: .top :: .top :: .top :: .top :: .top :: .top :: .top :: .top :: .top :: .top :: .top :: .top :: .top :: .top :: .top :: .top :: .top :: .top :: .top :: .top :: .top :: .top :: .top :: .top :: .top :: .top :: .top :: .top :: .top :: .top :: .top :: .top :: .top :: .top :: .top :: .top :: .top :: .top :: []))
      (fun j => duo H cb j.2.s j.2.ek j.2.et j.2.s) (fun j => j.1 ≤ 201 ∧ j.2.s.Good ∧ j.2.s.kept.length ≤ (l.take (i + 1)).flatten.length) (fun j => 201 - j.1) (n, ⟨s2, ek2, et2⟩) ⟨hn1, g2, by simp only; omega⟩ ?_
    rintro ⟨m, ⟨s3, ek3, et3⟩⟩ ⟨hm, g3, k3⟩
    simp only at hm g3 k3 ⊢
    have hr3 : s3.rc ≠ 0 := by have := g3.lim.rc; omega
    have hle3 := duo_len H cb s3 ek3 et3 s3
    have hft3 : Fit (duo H cb s3 ek3 et3 s3).length (duo H cb s3 ek3 et3 s3) := by rw [hle3]; exact duo_fit hcbw hfit s3 ek3 et3 s3
    have hlt3 : H.length ≤ (duo H cb s3 ek3 et3 s3).length := by omega
    have hclo : ∀ r, Ctr (env n0 w0 gl) 19 [.ref (H.length + 2) 0] (duo H cb s3 ek3 et3 r) True (.bool s3.shut) (duo H cb s3 ek3 et3 r) := fun r => .of fun _ => closed_e (duo_ses H cb s3 ek3 et3 r) hr3
    have hclo2 : ∀ r k, Ctr (env n0 w0 gl) 19 [.ref (H.length + 2) 0] (duo H cb s3 ek3 et3 r ++ k) True (.bool s3.shut) (duo H cb s3 ek3 et3 r ++ k) := fun r k => .of fun _ => closed_e ((duo_ses H cb s3 ek3 et3 r).app k) hr3
    by_cases hmn : m ≤ 200
    · by_cases hp : s3.shut = false ∧ s3.waits = true
      · have hb3 := good_body g3 hp.2
        obtain ⟨c, hc⟩ : ∃ c, codeA codes m = c := ⟨_, rfl⟩
        have hcr : -9223372036854775808 ≤ c ∧ c ≤ 9223372036854775807 := by
          rw [← hc]; unfold codeA
          split
          · decide
          · rename_i hne
            have hlt : m % codes.length < codes.length := Nat.mod_lt _ (by omega)
            rw [List.getD_eq_getElem?_getD, List.getElem?_eq_getElem hlt]
            exact hcb _ (List.getElem_mem _)
        have hco : ∀ X, Ctr (env n0 w0 gl) 17 [.sl codes.length (intsAV codes) .ro, .int .i64 (m : Int)] X True (.int .i64 c) X := fun X => ⟨fun _ => by
          have := (code_t (n0 := n0) (w0 := w0) (gl := gl) (H := X) codes.length codes m).call ⟨rfl, hcl, by omega⟩
          rw [hc] at this; exact this⟩
        obtain ⟨g4, o4, k4⟩ := good_answer g3 c (by omega)
        have hpo : Ctr (env n0 w0 gl) 14 [.ref (H.length + 2) 0] (duo H cb s3 ek3 et3 s3) True (.tup [.agg [.str s3.fro, .sl s3.to.length (s3.to.map .str) .ro, .int .i64 0], .sl s3.body.length (bytesAV s3.body) .ro, .bool true]) (duo H cb s3 ek3 et3 s3) := .of fun _ => pend_on (duo_ses H cb s3 ek3 et3 s3) hr3 g3.lim hb3 hp.1 hp.2
        have han : ∀ k, Ctr (env n0 w0 gl) 16 [.ref (H.length + 2) 0, .int .i64 c] (duo H cb s3 ek3 et3 s3 ++ k) True (.sl (answerS s3 c).1.length (bytesAV (answerS s3 c).1) .ro) (duo H cb (answerS s3 c).2 (ansT ⟨s3, ek3, et3⟩).ek (ansT ⟨s3, ek3, et3⟩).et s3 ++ k) := fun k => .of fun _ => by
          have := answer_on (n0 := n0) (w0 := w0) (gl := gl) ((duo_ses H cb s3 ek3 et3 s3).app k) g3.lim (by omega) c hp.1 hp.2 hcr
          rw [sput_app (duo_ses ..), duo_sput, show (onT ⟨s3.clear, ek3, et3 + 1⟩).s = (answerS s3 c).2 from ansT_s ⟨s3, ek3, et3⟩ c hp] at this
          exact this
        have hra : ∀ s ek et k, Ctr (env n0 w0 gl) 18 [.ref (H.length + 6) 0, .int .i64 c] (duo H cb s ek et s3 ++ k) True (.sl (answerS s3 c).1.length (bytesAV (answerS s3 c).1) .ro) (duo H cb s ek et (answerS s3 c).2 ++ k) := fun s ek et k => .of fun _ => by
          have := rans_on (n0 := n0) (w0 := w0) (gl := gl) ((duo_ref H cb s ek et s3).app k) g3.lim (by omega) c hp.1 hp.2
          rw [rput_app (duo_ref ..), duo_rput] at this
          exact this
        have htl := g3.lim.tol
        have hsm : ∀ X, Ctr (env n0 w0 gl) 15 [.agg [.str s3.fro, .sl s3.to.length (s3.to.map .str) .ro, .int .i64 0], .agg [.str s3.fro, .sl s3.to.length (s3.to.map .str) .ro, .int .i64 0]] X True (.bool true) X := fun X => .of fun _ => same25a_e s3.fro s3.to 0 (by omega)
        generalize (ansT ⟨s3, ek3, et3⟩).ek = ek4 at han
        generalize (ansT ⟨s3, ek3, et3⟩).et = et4 at han
        generalize (answerS s3 c).1 = ao at han hra o4
        generalize (answerS s3 c).2 = s4 at han hra o4 g4 k4
        have hob3 : ao.length ≤ 200000000 := by omega
        have hp1 := hp.1
        have hp2 := hp.2
        have hh := And.intro hmn (And.intro hp1 (And.intro hp2 hF))
        repeat' (first | refine go ?_ | (refine br (fun hc => ?_) (fun hc => ?_) <;> try (exfalso; omega)) | fail)
        rw [← hr19]
        repeat (refine w_seq ?_)
        refine w_drawnP (fun _ => True) (by intro _ h; cases h) (by simp only [List.length_cons, List.length_nil, Nat.reduceAdd]; exact rfl) ?_
        refine goP ?_
        repeat' (first | refine go ?_ | (refine br (fun hc => ?_) (fun hc => ?_) <;> try (exfalso; omega)) | fail)
        have hle4 := duo_len H cb s4 ek4 et4 s4
        have hlt4 : H.length ≤ (duo H cb s4 ek4 et4 s4).length := by omega
        have hft4 : Fit (duo H cb s4 ek4 et4 s4).length (duo H cb s4 ek4 et4 s4) := by rw [hle4]; exact duo_fit hcbw hfit s4 ek4 et4 s4
        refine againJ (m + 1, ⟨s4, ek4, et4⟩) ⟨by simp only; omega, g4, by simp only; omega⟩ (by simp only; omega) [.cells [.str s3.fro, .sl s3.to.length (s3.to.map .str) .ro, .int .i64 0]] (by simp) ?_
        exact Shift.fgt_drop (by repeat (first | exact fgt_nil | refine fgt_top ?_ | refine fgt_same rfl ?_)) hgl hlt4 hft4 (by rw [hle4]; simp [belowL, AV.within] <;> omega) rfl
      · have hpo : Ctr (env n0 w0 gl) 14 [.ref (H.length + 2) 0] (duo H cb s3 ek3 et3 s3) True (.tup [.agg [.str [], .sl 0 [] .full, .int .i64 0], .sl 0 [] .full, .bool false]) (duo H cb s3 ek3 et3 s3) := .of fun _ => pend_off (duo_ses H cb s3 ek3 et3 s3) hr3 (by
          cases h1 : s3.shut with
          | true => exact .inl rfl
          | false => exact .inr (by cases h2 : s3.waits with
            | true => exact absurd ⟨h1, h2⟩ hp
            | false => rfl))
        cases h2 : s3.waits with
        | false =>
          have hh := And.intro hmn (And.intro h2 hF)
          repeat' (first | refine go ?_ | (refine br (fun hc => ?_) (fun hc => ?_) <;> try (exfalso; omega)) | fail)
          rw [← hr22]
          repeat' (first | refine go ?_ | (refine br (fun hc => ?_) (fun hc => ?_) <;> try (exfalso; omega)) | fail)
          refine againJ (i + 1, (m, ⟨s3, ek3, et3⟩)) ⟨by simp only; omega, hm, g3, k3⟩ (by simp only; omega) [.cells [.str [], .sl 0 [] .full, .int .i64 0]] (by simp) ?_
          exact Shift.fgt_drop (by repeat (first | exact fgt_nil | refine fgt_top ?_ | refine fgt_same rfl ?_)) hgl hlt3 hft3 (by rw [hle3]; simp [belowL, AV.within] <;> omega) rfl
        | true =>
          have h1 : s3.shut = true := by
            cases h1 : s3.shut with
            | true => rfl
            | false => exact absurd ⟨h1, h2⟩ hp
          have hh := And.intro hmn (And.intro h2 (And.intro h1 hF))
          repeat' (first | refine go ?_ | (refine br (fun hc => ?_) (fun hc => ?_) <;> try (exfalso; omega)) | fail)
          rw [← hr22]
          repeat' (first | refine go ?_ | (refine br (fun hc => ?_) (fun hc => ?_) <;> try (exfalso; omega)) | fail)
          refine againJ (i + 1, (m, ⟨s3, ek3, et3⟩)) ⟨by simp only; omega, hm, g3, k3⟩ (by simp only; omega) [.cells [.str [], .sl 0 [] .full, .int .i64 0]] (by simp) ?_
          exact Shift.fgt_drop (by repeat (first | exact fgt_nil | refine fgt_top ?_ | refine fgt_same rfl ?_)) hgl hlt3 hft3 (by rw [hle3]; simp [belowL, AV.within] <;> omega) rfl
    · have hh := And.intro hmn hF
      repeat' (first | refine go ?_ | (refine br (fun hc => ?_) (fun hc => ?_) <;> try (exfalso; omega)) | fail)
      rw [← hr22]
      repeat' (first | refine go ?_ | (refine br (fun hc => ?_) (fun hc => ?_) <;> try (exfalso; omega)) | fail)
      exact again (i + 1, (m, ⟨s3, ek3, et3⟩)) ⟨by simp only; omega, hm, g3, k3⟩ (by simp only; omega)
  · obtain rfl : i = l.length := by omega
    have hh := hF
    repeat' (first | refine go ?_ | (refine br (fun hc => ?_) (fun hc => ?_) <;> try (exfalso; omega)) | fail)
    unfold duo
    exact .junkd ⟨rfl, rfl⟩
end Go.Ab.Tryz
