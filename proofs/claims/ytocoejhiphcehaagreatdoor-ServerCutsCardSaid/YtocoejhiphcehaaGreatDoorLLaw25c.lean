/- Walks: the law on pieces: however they are cut. -/
import Derived.Test.YtocoejhiphcehaaGreatDoorLLaw25b
set_option linter.unusedSimpArgs false
set_option linter.unusedVariables false
set_option maxHeartbeats 16000000
set_option maxRecDepth 10000
namespace Go.Ab.Tryz
open Go Go.Ab Go.Proofs
attribute [local irreducible] W Wl Wop TrA WSeq WLoopS WLoopM FPost DPost RPost WRound DK onEnd
attribute [local simp] belowL_bytesAV belowL_strsM belowL_linesAV belowL_envs belowL_bods belowL_ints belowL_appM
variable {n0 : Nat} {w0 : World} {gl : Nat → List AV} {H : List AO}

theorem same25_e (fro : List UInt8) (to : List (List UInt8)) (at_ : Int) (htl : to.length ≤ 9223372036854775807) : AEnter (env n0 w0 gl) 15 [.agg [.str fro, .sl to.length (to.map .str) .ro, .int .i64 at_], .agg [.str fro, .sl to.length (to.map .str) .ro, .int .i64 at_]] H (fun y H' => y = .ret (.bool true) ∧ H' = H) := by
  refine enter (md := fun _ => 0) Tryz.func15 (fun hfit hgl => ?_)
  repeat' (first | refine go ?_ | (refine br (fun hc => ?_) (fun hc => ?_) <;> try (exfalso; omega)) | fail)
  refine loop0 (fun i : Nat => (.top :: .top :: .ref H.length 0 :: .ref (H.length + 1) 0 :: .bool false :: .top :: .top :: .top :: .top :: .top :: .top :: .top :: .top :: .top :: .top :: .top :: .top :: .top :: .top :: .top :: .top :: .top :: .top :: .top :: .top :: .top :: .top :: .top :: .top :: .int .i64 to.length :: .int .i64 (i : Int) :: .top :: .top :: .top :: .top :: .top :: .top :: .top :: .top :: .top :: .top :: .top :: .top :: .top :: .top :: [])) (fun i => i ≤ to.length) (fun i => to.length - i) 0 (Nat.zero_le _) ?_
  intro i hi
  by_cases hlt : i < to.length
  · repeat' (first | refine go ?_ | (refine br (fun hc => ?_) (fun hc => ?_) <;> try (exfalso; omega)) | fail)
    exact again (i + 1) (by omega)
  · repeat' (first | refine go ?_ | (refine br (fun hc => ?_) (fun hc => ?_) <;> try (exfalso; omega)) | fail)
    exact .junkd ⟨rfl, rfl⟩
theorem slW {g : Ghost} {n : Nat} {xs ys : List AV} {tok : Tok} {c : Value} (hl : ys.length = xs.length) (h : ∀ k c, VRel g (xs.getD k .top) c → VRel g (ys.getD k .top) c) (r : VRel g (.sl n xs tok) c) : VRel g (.sl n ys .ro) c := by
  cases r with
  | nsl _ _ => 
    obtain rfl : ys = [] := by simpa using hl
    exact .nsl _ trivial
  | sl _ _ _ b o cap vs hn hk hv ht => exact .sl _ _ _ b o cap vs hn (fun i hi => hk i (by rw [← hl]; exact hi)) (fun k => h k _ (hv k)) trivial
theorem acall_weaker {E : Env} {f : FuncId} {a b : List AV} {H : List AO} {R : AE → List AO → Prop} (k : ACall E f a H R) (h : ∀ g cs, VRels g b cs → VRels g a cs) : ACall E f b H R := fun g w cs hr hv => k g w cs hr (h g cs hv)
theorem closed_ro {a : Nat} {s : Ses} (h : H[a]? = some (.cells (sesRo s))) (hr : s.rc ≠ 0) : AEnter (env n0 w0 gl) 19 [.ref a 0] H (fun y H' => y = .ret (.bool s.shut) ∧ H' = H) := by
  have hA : H[a]? = some (.cells [.str s.host, .int .i64 s.rc, .int .i64 s.sz, .sl s.kept.length (bytesAV s.kept) .ro, .int .i64 s.state, .str s.fro, .sl s.to.length (s.to.map .str) .ro, .sl s.body.length (bytesAV s.body) .ro, .bool s.told, .bool s.waits, .bool s.shut]) := h
  have hh := And.intro hA hr
  refine enter (md := fun _ => 0) Tryz.func19 (fun hfit hgl => ?_)
  repeat' (first | refine go ?_ | (refine br (fun hc => ?_) (fun hc => ?_) <;> try (exfalso; omega)) | fail)
  exact .now ⟨rfl, rfl⟩
theorem thru_rc (codes : List Int) : ∀ (l : List (List UInt8)) (n : Nat) (s : Ses), s.Inv → (thruK codes l n s).s.rc = s.rc
  | [], n, s, h => rfl
  | b :: l, n, s, h => by
    obtain ⟨a1, a2, a3, a4⟩ := inv_feed h b
    obtain ⟨b1, b2, b3, b4, b5⟩ := drain_ok codes (201 - n) n _ a1
    have ih := thru_rc codes l (pieceK codes n s b).n (pieceK codes n s b).s (by unfold pieceK; exact b2)
    have e1 : (pieceK codes n s b).s.rc = s.rc := by unfold pieceK; exact b3.trans a2
    rw [thruK]
    simp only [Thru.then]
    rw [ih, e1]
theorem serverCuts_t [hml : GLInt gl 0] [ht : Tab10 n0 w0] (host : List UInt8) (rc sz : Int) (l : List (List UInt8)) (codes : List Int) (hb : host.length ≤ 9223372036854775807) (hl : l.length ≤ 9223372036854775807) (hx : ∀ x ∈ l, x.length ≤ 9223372036854775807) (hcl : codes.length ≤ 9223372036854775807) (hcb : ∀ x ∈ codes, -9223372036854775808 ≤ x ∧ x ≤ 9223372036854775807) :
    AEnter (env n0 w0 gl) 4 [.agg [.str host, .int .i64 rc, .int .i64 sz], .sl l.length (linesAV l) .ro, .sl codes.length (intsAV codes) .ro] H (fun y H' => y = .ret (.bool true) ∧ H' = H) := by
  have hfw : ∀ X, Ctr (env n0 w0 gl) 9 [.sl l.length (linesAV l) .ro] X True (.bool (tf (FewOk l))) X := fun X => .of fun _ => few_e l hl hx
  rcases (Classical.em (FewOk l)).symm with hf | hf
  · have hft := tf_false hf
    have hh := hft
    refine enter (md := fun _ => 0) Tryz.func4 (fun hfit hgl => ?_)
    repeat' (first | refine go ?_ | (refine br (fun hc => ?_) (fun hc => ?_) <;> try (exfalso; omega)) | fail)
    exact .junkd ⟨rfl, rfl⟩
  have hft := tf_true hf
  by_cases hhl : (host.length : Int) > 300
  · have hh := And.intro hft hhl
    refine enter (md := fun _ => 0) Tryz.func4 (fun hfit hgl => ?_)
    repeat' (first | refine go ?_ | (refine br (fun hc => ?_) (fun hc => ?_) <;> try (exfalso; omega)) | fail)
    exact .junkd ⟨rfl, rfl⟩
  by_cases hl0 : l.length = 0
  · have hl2 : (l.length : Int) = 0 := by omega
    have hh := And.intro hft (And.intro hhl hl2)
    refine enter (md := fun _ => 0) Tryz.func4 (fun hfit hgl => ?_)
    repeat' (first | refine go ?_ | (refine br (fun hc => ?_) (fun hc => ?_) <;> try (exfalso; omega)) | fail)
    exact .junkd ⟨rfl, rfl⟩
  have hl1 : ¬ ((l.length : Int) = 0) := by omega
  obtain ⟨b, l2, hbl⟩ : ∃ b l2, l = b :: l2 := by
    cases l with
    | nil => simp at hl0
    | cons b l2 => exact ⟨b, l2, rfl⟩
  have hcut := thru_cut codes l2 b 0 (s25 host rc sz)
  rw [← hbl, show b ++ l2.flatten = l.flatten by rw [hbl]; simp] at hcut
  have hok := thru_ok codes l 0 (s25 host rc sz) (s25_good host rc sz).inv
  have hMn := thru_few codes l (s25 host rc sz)
  have hff := few_flat hf
  have hla := linesAV_len l
  have hone : linesAV [l.flatten] = [.sl l.flatten.length (bytesAV l.flatten) .ro] := rfl
  have hnew1 : ∀ c, Ctr (env n0 w0 gl) 10 [.agg [.str host, .int .i64 rc, .int .i64 sz]] (H ++ [.cells [.str host, .int .i64 rc, .int .i64 sz], c]) True (.ref (H.length + 3) 0) (H ++ [.cells [.str host, .int .i64 rc, .int .i64 sz], c, .dead, .cells (sesAV (s25 host rc sz) (H.length + 4) 1 (H.length + 5) 1), .tail 1 1, .tail 1 1]) := fun c => .of fun _ => by
    have := new_e (n0 := n0) (w0 := w0) (gl := gl) (H := H ++ [.cells [.str host, .int .i64 rc, .int .i64 sz], c]) host rc sz hb
    simp only [List.length_append, List.length_cons, List.length_nil, List.append_assoc, List.cons_append, List.nil_append, Nat.zero_add, Nat.add_assoc, Nat.reduceAdd] at this
    exact this
  have hnew2 : ∀ c c2, Ctr (env n0 w0 gl) 10 [.agg [.str host, .int .i64 rc, .int .i64 sz]] (H ++ [.cells [.str host, .int .i64 rc, .int .i64 sz], c, .dead, c2, .tail 1 1, .tail 1 1]) True (.ref (H.length + 7) 0) (H ++ [.cells [.str host, .int .i64 rc, .int .i64 sz], c, .dead, c2, .tail 1 1, .tail 1 1, .dead, .cells (sesAV (s25 host rc sz) (H.length + 8) 1 (H.length + 9) 1), .tail 1 1, .tail 1 1]) := fun c c2 => .of fun _ => by
    have := new_e (n0 := n0) (w0 := w0) (gl := gl) (H := H ++ [.cells [.str host, .int .i64 rc, .int .i64 sz], c, .dead, c2, .tail 1 1, .tail 1 1]) host rc sz hb
    simp only [List.length_append, List.length_cons, List.length_nil, List.append_assoc, List.cons_append, List.nil_append, Nat.zero_add, Nat.add_assoc, Nat.reduceAdd] at this
    exact this
  have hthr1 : ∀ c0 c c2, Ctr (env n0 w0 gl) 20 [.ref (H.length + 3) 0, .sl l.length (linesAV l) .ro, .sl codes.length (intsAV codes) .ro] (H ++ [c0, c, .dead, .cells (sesAV (s25 host rc sz) (H.length + 4) 1 (H.length + 5) 1), .tail 1 1, .tail 1 1, .dead, c2, .tail 1 1, .tail 1 1]) True (thruV (thruK codes l 0 (s25 host rc sz))) (H ++ [c0, c, .dead, .cells (sesRo (thruK codes l 0 (s25 host rc sz)).s), .dead, .dead, .dead, c2, .tail 1 1, .tail 1 1]) := fun c0 c c2 => .of fun _ => by
    have hat : SesAt (H ++ [c0, c, .dead, .cells (sesAV (s25 host rc sz) (H.length + 4) 1 (H.length + 5) 1), .tail 1 1, .tail 1 1, .dead, c2, .tail 1 1, .tail 1 1]) (H.length + 3) (H.length + 4) (H.length + 5) (s25 host rc sz) 1 1 := by
      refine ⟨?_, ?_, ?_, by omega⟩ <;> simp [getE, getE0]
    refine (through_d hat (s25_good host rc sz) rfl l codes hf.1 hff hcl hcb).hs ?_
    rintro y H1 ⟨rfl, rfl⟩
    refine ⟨_, HS.eq ?_, rfl, rfl⟩
    simp [sdone, setE, setE0]
  have hthr2 : ∀ c0 c c2 k1 k, Ctr (env n0 w0 gl) 20 [.ref (H.length + 7) 0, .sl 1 [.sl l.flatten.length (bytesAV l.flatten) k1] k, .sl codes.length (intsAV codes) .ro] (H ++ [c0, c, .dead, c2, .dead, .dead, .dead, .cells (sesAV (s25 host rc sz) (H.length + 8) 1 (H.length + 9) 1), .tail 1 1, .tail 1 1]) True (thruV (thruK codes [l.flatten] 0 (s25 host rc sz))) (H ++ [c0, c, .dead, c2, .dead, .dead, .dead, .cells (sesRo (thruK codes [l.flatten] 0 (s25 host rc sz)).s), .dead, .dead]) := fun c0 c c2 k1 k => ⟨fun _ => by
    have hat : SesAt (H ++ [c0, c, .dead, c2, .dead, .dead, .dead, .cells (sesAV (s25 host rc sz) (H.length + 8) 1 (H.length + 9) 1), .tail 1 1, .tail 1 1]) (H.length + 7) (H.length + 8) (H.length + 9) (s25 host rc sz) 1 1 := by
      refine ⟨?_, ?_, ?_, by omega⟩ <;> simp [getE, getE0]
    have hthr0 : AEnter (env n0 w0 gl) 20 [.ref (H.length + 7) 0, .sl [l.flatten].length (linesAV [l.flatten]) .ro, .sl codes.length (intsAV codes) .ro] (H ++ [c0, c, .dead, c2, .dead, .dead, .dead, .cells (sesAV (s25 host rc sz) (H.length + 8) 1 (H.length + 9) 1), .tail 1 1, .tail 1 1]) (fun y H' => y = .ret (thruV (thruK codes [l.flatten] 0 (s25 host rc sz))) ∧ H' = (H ++ [c0, c, .dead, c2, .dead, .dead, .dead, .cells (sesRo (thruK codes [l.flatten] 0 (s25 host rc sz)).s), .dead, .dead])) := by
      refine (through_d hat (s25_good host rc sz) rfl [l.flatten] codes (by simp) (by simpa using hff) hcl hcb).hs ?_
      rintro y H1 ⟨rfl, rfl⟩
      refine ⟨_, HS.eq ?_, rfl, rfl⟩
      simp [sdone, setE, setE0]
    refine acall_weaker ((Ctr.of (pre := True) fun _ => hthr0).call trivial) fun g cs h => ⟨h.1, fun j => ?_⟩
    match j with
    | 0 => exact h.2 0
    | 1 => exact slW (xs := [.sl l.flatten.length (bytesAV l.flatten) k1]) (ys := [.sl l.flatten.length (bytesAV l.flatten) .ro]) (tok := k) rfl (fun k c hc => by
        match k, hc with
        | 0, hc => exact sl_ro g c hc
        | k + 1, hc => exact hc) (h.2 1)
    | 2 => exact h.2 2
    | j + 3 => exact h.2 (j + 3)⟩
  unfold thruV at hthr1 hthr2
  have hr1 := thru_rc codes l 0 (s25 host rc sz) (s25_good host rc sz).inv
  have hr2 := thru_rc codes [l.flatten] 0 (s25 host rc sz) (s25_good host rc sz).inv
  have hr0 : (s25 host rc sz).rc ≠ 0 := by have := (s25_good host rc sz).lim.rc; omega
  rw [← hr1] at hr0
  rw [← hr1] at hr2
  obtain ⟨c1, c2, c3, _⟩ := hcut
  rw [← c1, ← c2] at hthr2
  generalize (thruK codes [l.flatten] 0 (s25 host rc sz)).s = s2 at hthr2 hr2 c3
  generalize (thruK codes l 0 (s25 host rc sz)).s = s1 at hthr1 hr0 hr2 c3
  have hr3 : s2.rc ≠ 0 := by rw [hr2]; exact hr0
  generalize (thruK codes l 0 (s25 host rc sz)).out = tout at hthr1 hthr2
  generalize (thruK codes l 0 (s25 host rc sz)).msgs = M at hthr1 hthr2 hok hMn
  have hc1 : ∀ c0 c c2 k, Ctr (env n0 w0 gl) 19 [.ref (H.length + 3) 0] (H ++ (c0 :: c :: c2 :: .cells (sesRo s1) :: k)) True (.bool s1.shut) (H ++ (c0 :: c :: c2 :: .cells (sesRo s1) :: k)) := fun c0 c c2 k => .of fun _ => closed_ro (by simp [getE, getE0]) hr0
  have hc2 : ∀ c0 c c2 c3 c4 c5 c6 k, Ctr (env n0 w0 gl) 19 [.ref (H.length + 7) 0] (H ++ (c0 :: c :: c2 :: c3 :: c4 :: c5 :: c6 :: .cells (sesRo s2) :: k)) True (.bool s1.shut) (H ++ (c0 :: c :: c2 :: c3 :: c4 :: c5 :: c6 :: .cells (sesRo s2) :: k)) := fun c0 c c2 c3' c4 c5 c6 k => .of fun _ => by
    have := closed_ro (n0 := n0) (w0 := w0) (gl := gl) (H := H ++ (c0 :: c :: c2 :: c3' :: c4 :: c5 :: c6 :: .cells (sesRo s2) :: k)) (a := H.length + 7) (s := s2) (by simp [getE, getE0]) hr3
    rw [← c3] at this; exact this
  have hel := envs_len M
  have hbln := bods_len M
  have hh := And.intro hft (And.intro hhl (And.intro hl1 (And.intro hel hbln)))
  refine enter (md := fun _ => 0) Tryz.func4 (fun hfit hgl => ?_)
  generalize hr5 : Code.region 5 _ _ = r5
  generalize hr11 : Code.region 11 _ _ = r11
  repeat' (first | refine go ?_ | (refine br (fun hc => ?_) (fun hc => ?_) <;> try (exfalso; omega)) | fail)
  rw [← hr5]
  repeat' (first | refine gos ?_ | (refine br (fun hc => ?_) (fun hc => ?_) <;> try (exfalso; omega)) | fail)
  refine wseq_shift (Shift.tail 1 7 0 rfl) ?_
  simp only [List.set_cons_succ, List.set_cons_zero, List.append_assoc, List.cons_append, List.nil_append, List.length_append, List.length_cons, List.length_nil, Nat.zero_add, Nat.reduceAdd]
  repeat' (first | refine go ?_ | (refine br (fun hc => ?_) (fun hc => ?_) <;> try (exfalso; omega)) | fail)
  refine loop (fun i : Nat => (.agg [.str host, .int .i64 rc, .int .i64 sz] :: .sl l.length (linesAV l) .ro :: .sl codes.length (intsAV codes) .ro :: .ref H.length 0 :: .top :: .top :: .bool false :: .sl (l.take i).flatten.length (bytesAV (l.take i).flatten) (.at (H.length + 1) (l.take i).flatten.length) :: .top :: .top :: .top :: .top :: .top :: .top :: .top :: .top :: .top :: .top :: .top :: .top :: .top :: .top :: .top :: .top :: .top :: .top :: .top :: .top :: .top :: .top :: .top :: .top :: .top :: .top :: .top :: .sl l.length (linesAV l) .ro :: .int .i64 l.length :: .int .i64 (i : Int) :: .top :: .top :: .top :: .top :: .top :: .top :: .top :: .top :: .top :: .top :: .top :: .top :: .top :: .top :: .top :: .top :: .top :: .top :: .top :: .top :: .top :: .top :: .top :: .top :: .top :: .top :: .top :: .top :: .top :: .top :: .top :: .top :: .top :: .top :: .top :: .top :: .top :: .top :: .top :: .top :: .top :: .top :: .top :: .top :: .top :: .top :: .top :: .top :: .top :: .top :: .top :: .top :: .top :: .top :: .top :: .top :: .top :: .top :: .top :: .top :: .top :: .top :: .top :: .top :: .top :: .top :: .top :: .top :: .top :: .top :: .top :: .top :: .top :: .top :: .top :: .top :: .top :: .top :: .top :: .top :: .top :: .top :: .top :: .top :: .top :: [])) (fun i => H ++ [.cells [.str host, .int .i64 rc, .int .i64 sz], .tail 1 (l.take i).flatten.length]) (fun i => i ≤ l.length) (fun i => l.length - i) 0 (Nat.zero_le _) ?_ (by simp only [List.take_zero, List.flatten_nil, List.length_nil]; exact Shift.auto)
  intro i hi
  by_cases hlt : i < l.length
  · have hat := rlines_at hlt
    have hts := flat_succ hlt
    have htl := flat_take l (i + 1)
    have htx : (l.take (i + 1)).flatten = (l.take i).flatten ++ l[i] := by rw [List.take_add_one, List.getElem?_eq_getElem hlt, List.flatten_append]; simp
    generalize hbe : l[i] = x at *
    have hob : (l.take i).flatten.length + x.length ≤ 100000000 := by omega
    have hh := And.intro hat hla
    repeat' (first | refine go ?_ | (refine br (fun hc => ?_) (fun hc => ?_) <;> try (exfalso; omega)) | fail)
    rw [← bytesAV_append, ← htx, ← hts]
    exact again (i + 1) (by omega) (by omega)
  · obtain rfl : i = l.length := by omega
    rw [List.take_length]
    have hh := And.intro hel hbln
    repeat' (first | refine go ?_ | (refine br (fun hc => ?_) (fun hc => ?_) <;> try (exfalso; omega)) | fail)
    rw [← hr11]
    repeat (refine w_seq ?_)
    refine w_drawnP (fun X => X[H.length]? = some (.cells [.str host, .int .i64 rc, .int .i64 sz])) (by intro _ h; cases h) (by simp only [List.length_cons, List.length_nil, Nat.reduceAdd]; exact rfl) ?_
    refine goP ?_
    refine wseq_shift (Shift.ro 7 rfl) ?_
    simp only [List.set_cons_succ, List.set_cons_zero]
    repeat' (first | refine go ?_ | (refine br (fun hc => ?_) (fun hc => ?_) <;> try (exfalso; omega)) | fail)
    refine loop (fun i : Nat => (.agg [.str host, .int .i64 rc, .int .i64 sz] :: .top :: .top :: .top :: .top :: .top :: .bool false :: .top :: .top :: .top :: .top :: .top :: .top :: .sl M.length (envsAV M) .ro :: .sl M.length (bodsAV M) .ro :: .top :: .sl M.length (envsAV M) .ro :: .sl M.length (bodsAV M) .ro :: .top :: .top :: .top :: .top :: .top :: .top :: .top :: .top :: .top :: .top :: .top :: .top :: .top :: .top :: .top :: .top :: .top :: .top :: .top :: .top :: .top :: .top :: .top :: .top :: .top :: .top :: .top :: .top :: .top :: .top :: .top :: .top :: .top :: .top :: .top :: .top :: .top :: .top :: .top :: .top :: .top :: .top :: .top :: .top :: .top :: .top :: .top :: .top :: .top :: .top :: .top :: .top :: .top :: .top :: .top :: .top :: .top :: .top :: .top :: .top :: .top :: .top :: .top :: .top :: .top :: .top :: .top :: .top :: .top :: .top :: .top :: .top :: .top :: .top :: .top :: .top :: .top :: .top :: .top :: .int .i64 M.length :: .int .i64 (i : Int) :: .top :: .top :: .top :: .top :: .top :: .top :: .top :: .top :: .top :: .top :: .top :: .top :: .top :: .top :: .top :: .top :: .top :: .top :: .top :: .top :: .top :: .top :: .top :: .top :: [])) (fun _ => H) (fun i => i ≤ M.length) (fun i => M.length - i) 0 (Nat.zero_le _) ?_
    intro i hi
    by_cases hlt : i < M.length
    · have hat := envs_at hlt
      have hab := bods_at hlt
      obtain ⟨k1, k2, k3, k4⟩ := hok _ (List.getElem_mem hlt)
      have hrc : (s25 host rc sz).rc = clampN 100 rc := rfl
      have hc1 := clamp_in (M := 100) (x := rc) (by decide)
      rw [hrc] at k3
      generalize hm : M[i] = m at *
      have htl : m.to.length ≤ 100 := by omega
      have hsm : ∀ X, Ctr (env n0 w0 gl) 15 [.agg [.str m.fro, .sl m.to.length (m.to.map .str) .ro, .int .i64 0], .agg [.str m.fro, .sl m.to.length (m.to.map .str) .ro, .int .i64 0]] X True (.bool true) X := fun X => .of fun _ => same25_e m.fro m.to 0 (by omega)
      have hh := And.intro hat (And.intro hab (And.intro hel hbln))
      repeat' (first | refine go ?_ | (refine br (fun hc => ?_) (fun hc => ?_) <;> try (exfalso; omega)) | fail)
      exact again (i + 1) (by omega)
    · obtain rfl : i = M.length := by omega
      repeat' (first | refine go ?_ | (refine br (fun hc => ?_) (fun hc => ?_) <;> try (exfalso; omega)) | fail)
      exact .now ⟨rfl, rfl⟩
end Go.Ab.Tryz
