/- Walks: the reference's Parse. -/
import Derived.Test.YtlcbdgklbjocnaaDoorLRef08
import Derived.Test.YtlcbdgklbjocnaaDoorLHead7
set_option linter.unusedSimpArgs false
set_option linter.unusedVariables false
set_option maxHeartbeats 4000000
set_option maxRecDepth 4000
namespace Go.Ab.Tryd
open Go Go.Ab Go.Proofs
attribute [local irreducible] W Wl Wop TrA WSeq WLoopS FPost DPost RPost WRound DK onEnd
variable {n0 : Nat} {w0 : World} {gl : Nat → List AV} {H : List AO}
attribute [local simp] belowL_bytesAV

theorem headR_go {b : List UInt8} {pre : List (List UInt8)} {j : Flds × Nat} (h1 : linesOf b = pre) (h2 : foldR hstep ([], 0) pre = .go j) : headR b = some j := by
  unfold headR; rw [h1, h2]
theorem headR_stop {b : List UInt8} {pre post : List (List UInt8)} {x : List UInt8} {j o : Flds × Nat} (h1 : linesOf b = pre ++ x :: post) (h2 : foldR hstep ([], 0) pre = .go j) (h3 : hstep j x = .stop o) : headR b = some o := by
  unfold headR; rw [h1, foldR_stop h2 h3]
theorem headR_die {b : List UInt8} {pre post : List (List UInt8)} {x : List UInt8} {j : Flds × Nat} {u : Nat} (h1 : linesOf b = pre ++ x :: post) (h2 : foldR hstep ([], 0) pre = .go j) (h3 : hstep j x = .die u) : headR b = none := by
  unfold headR; rw [h1, foldR_die h2 h3]
theorem cut_index {s : List UInt8} {c : UInt8} : (cutAt c s = none ∧ Lib.indexByte s c = -1) ∨ ∃ k : Nat, k < s.length ∧ Lib.indexByte s c = (k : Int) ∧ cutAt c s = some (s.take k, s.drop (k + 1)) := by
  rcases cutAt_idx c s with ⟨h1, h2⟩ | h
  · exact .inl ⟨h2, h1⟩
  · exact .inr h

instance ref_parse_t (b : List UInt8) : Ctr (env n0 w0 gl) 25 [.sl b.length (bytesAV b) .ro] H (b.length < 4294967281) (parseV (headP b)) H := .of fun hb => by
  refine enter (md := fun _ => 0) Tryd.func25 (fun hfit hgl => ?_)
  refine gos ?_
  refine wseq_normal ?_
  refine gos ?_
  refine wseq_shift (Shift.vec 2 5 rfl) ?_
  simp only [List.set_cons_succ, List.set_cons_zero]
  repeat' (first | refine go ?_ | (refine br (fun hc => ?_) (fun hc => ?_) <;> try (exfalso; omega)) | fail)
  refine loop (fun j : Flds × Nat => (.sl b.length (bytesAV b) .ro :: .top :: .top :: .top :: .top :: .vsl H.length j.1.length :: .int .i64 j.2 :: .top :: .top :: .top :: .top :: .top :: .top :: .top :: .top :: .top :: .top :: .top :: .top :: .top :: .top :: .top :: .top :: .top :: .top :: .top :: .top :: .top :: .top :: .top :: .top :: .top :: .top :: .top :: .top :: .top :: .top :: .top :: .top :: .top :: .top :: .top :: .top :: .top :: .top :: .top :: .top :: .top :: .top :: .top :: .top :: .top :: .top :: .top :: .top :: .top :: .top :: .top :: .top :: .top :: .top :: .top :: .top :: .top :: .top :: .top :: .top :: .top :: .top :: .top :: .top :: .top :: .top :: .top :: .top :: .top :: .top :: .top :: .top :: .top :: .top :: .top :: .top :: .top :: .top :: .top :: .top :: .top :: .top :: .top :: .top :: .top :: .top :: .top :: .top :: .top :: .top :: .top :: .top :: .top :: .top :: .top :: [])) (fun j => H ++ [.vec 2 j.1.length (fldAV j.1)]) (fun j => j.2 ≤ b.length ∧ ∃ pre, linesOf b = pre ++ linesOf (b.drop j.2) ∧ foldR hstep ([], 0) pre = .go j) (fun j => b.length - j.2) ([], 0) ⟨Nat.zero_le _, [], rfl, rfl⟩ ?_
  rintro ⟨l, u⟩ ⟨hu, pre, h1, h2⟩
  simp only at hu h1 h2 ⊢
  have hfl := fldAV_len l
  have hiv := hstep_inv pre _ _ (by simp) h2
  simp only at hiv
  have hus := hstep_used pre _ _ h2
  have hll : l.length ≤ b.length := by
    have hcount := linesOf_count b
    rw [h1, List.length_append] at hcount
    have := hus.2
    simp only [List.length_nil, Nat.zero_add] at this
    omega
  have hbd : (bytesAV b).drop u = bytesAV (b.drop u) := bytesAV_drop b u
  have hbl : (b.drop u).length = b.length - u := List.length_drop
  have htk : (bytesAV b).take b.length = bytesAV b := List.take_of_length_le (by rw [bytesAV_len]; omega)
  have hline : ∀ H, Ctr (env n0 w0 gl) 59 [.sl (b.length - u) (bytesAV (b.drop u)) .ro] H True (lineV (b.drop u)) H := fun H => ⟨fun _ => by have := (line_t (n0 := n0) (w0 := w0) (gl := gl) (H := H) (b.drop u)).call (by omega); rwa [hbl] at this⟩
  by_cases hlt : u < b.length
  · rcases hc : crlfAt (b.drop u) with _ | ⟨s, rest⟩
    · have hv : lineV (b.drop u) = .tup [.str [], .bool false] := by simp only [lineV, hc]
      rw [linesOf_none hc, List.append_nil] at h1
      have hR := headR_go h1 h2
      have hh := And.intro hv (And.intro hbd htk)
      obtain ⟨hlb, hub, hiv2⟩ := headR_inv hR
      have hP : headP b = if l.length ≤ 1000 ∧ u ≤ 100000 then (List.map trimF l, u, 0) else ([], 0, 2) := by unfold headP; rw [hR]
      by_cases hlu : l.length ≤ 1000 ∧ u ≤ 100000
      · rw [hP, if_pos hlu]
        clear hP
        repeat' (first | refine go ?_ | (refine br (fun hc => ?_) (fun hc => ?_) <;> try (exfalso; omega)) | fail)
        refine loop (fun i : Nat => (.top :: .top :: .top :: .top :: .top :: .vsl H.length l.length :: .int .i64 (u : Nat) :: .top :: .top :: .top :: .top :: .top :: .top :: .top :: .top :: .top :: .top :: .top :: .top :: .top :: .top :: .top :: .top :: .top :: .top :: .top :: .top :: .top :: .top :: .top :: .top :: .top :: .top :: .top :: .top :: .top :: .top :: .top :: .top :: .top :: .top :: .top :: .top :: .top :: .top :: .top :: .top :: .top :: .top :: .top :: .top :: .top :: .top :: .top :: .top :: .top :: .top :: .top :: .top :: .top :: .top :: .top :: .top :: .top :: .top :: .top :: .top :: .top :: .top :: .top :: .top :: .top :: .top :: .top :: .top :: .top :: .top :: .top :: .top :: .top :: .top :: .top :: .top :: .top :: .top :: .int .i64 l.length :: .int .i64 (i : Int) :: .top :: .top :: .top :: .top :: .top :: .top :: .top :: .top :: .top :: .top :: .top :: .top :: .top :: .top :: .top :: [])) (fun i => H ++ [.vec 2 l.length (fldAV (trimTo l i))]) (fun i => i ≤ l.length) (fun i => l.length - i) 0 (Nat.zero_le _) ?_
        intro i hi
        have hfl := fldAV_len (trimTo l i)
        rw [trimTo_len] at hfl
        by_cases hlt : i < l.length
        · have hbd := fldAV_body (l := trimTo l i) (i := i) (by rw [trimTo_len]; exact hlt)
          rw [trimTo_get hlt] at hbd
          have hbl := hiv2 (l.getD i ([], [])) (by rw [List.getD_eq_getElem?_getD, List.getElem?_eq_getElem hlt]; exact List.getElem_mem _)
          have hh := And.intro hbd hfl
          repeat' (first | refine go ?_ | (refine br (fun hc => ?_) (fun hc => ?_) <;> try (exfalso; omega)) | fail)
          refine againE (i + 1) (by omega) (by omega) ?_
          have e := fldAV_setBody (l := trimTo l i) (i := i) (v := Lib.trimS (l.getD i ([], [])).2 [32, 9]) (by rw [trimTo_len]; exact hlt)
          rw [trimTo_get hlt] at e
          have e2 := trimTo_succ hlt
          unfold trimF at e2
          rw [e2] at e
          rw [← e]
          simp [setRange]
        · obtain rfl : i = l.length := by omega
          have e : trimTo l l.length = List.map trimF l := by simp [trimTo]
          rw [e]
          refine gos ?_
          refine wseq_normal ?_
          refine gos ?_
          refine wseq_normal ?_
          refine gos ?_
          refine wseq_shift (Shift.know 2 (sz := 2) rfl (by rw [List.getElem?_append_right (Nat.le_refl _), Nat.sub_self]; rfl)) ?_
          simp only [List.set_cons_succ, List.set_cons_zero, setE0]
          repeat' (first | refine go ?_ | (refine br (fun hc => ?_) (fun hc => ?_) <;> try (exfalso; omega)) | fail)
          refine .junkd ⟨?_, rfl⟩
          simp [parseV, tokP]
      · rw [hP, if_neg hlu]
        clear hP
        repeat' (first | refine go ?_ | (refine br (fun hc => ?_) (fun hc => ?_) <;> try (exfalso; omega)) | fail)
        all_goals exact .junkd ⟨rfl, rfl⟩
    · have hv : lineV (b.drop u) = .tup [.str s, .bool true] := by simp only [lineV, hc]
      have hcl := crlfAt_len hc
      have hrest : rest = b.drop (u + (s.length + 2)) := by
        rcases crlfAt_idx (b.drop u) with ⟨_, h⟩ | ⟨k, hk, _, h⟩
        · rw [h] at hc; simp at hc
        · rw [h] at hc
          simp only [Option.some.injEq, Prod.mk.injEq] at hc
          obtain ⟨rfl, rfl⟩ := hc
          rw [List.drop_drop, List.length_take, Nat.min_eq_left (by omega)]
      rw [linesOf_some hc, hrest] at h1
      rw [hbl] at hcl
      by_cases h0 : s.length = 0
      · have hst : hstep (l, u) s = .stop (l, u + 2) := by unfold hstep; rw [if_pos h0]
        have hR := headR_stop h1 h2 hst
        have hh := And.intro hv (And.intro hbd htk)
        obtain ⟨hlb, hub, hiv2⟩ := headR_inv hR
        have hP : headP b = if l.length ≤ 1000 ∧ (u + 2) ≤ 100000 then (List.map trimF l, (u + 2), 0) else ([], 0, 2) := by unfold headP; rw [hR]
        by_cases hlu : l.length ≤ 1000 ∧ (u + 2) ≤ 100000
        · rw [hP, if_pos hlu]
          clear hP
          repeat' (first | refine go ?_ | (refine br (fun hc => ?_) (fun hc => ?_) <;> try (exfalso; omega)) | fail)
          refine loop (fun i : Nat => (.top :: .top :: .top :: .top :: .top :: .vsl H.length l.length :: .int .i64 ((u + 2) : Nat) :: .top :: .top :: .top :: .top :: .top :: .top :: .top :: .top :: .top :: .top :: .top :: .top :: .top :: .top :: .top :: .top :: .top :: .top :: .top :: .top :: .top :: .top :: .top :: .top :: .top :: .top :: .top :: .top :: .top :: .top :: .top :: .top :: .top :: .top :: .top :: .top :: .top :: .top :: .top :: .top :: .top :: .top :: .top :: .top :: .top :: .top :: .top :: .top :: .top :: .top :: .top :: .top :: .top :: .top :: .top :: .top :: .top :: .top :: .top :: .top :: .top :: .top :: .top :: .top :: .top :: .top :: .top :: .top :: .top :: .top :: .top :: .top :: .top :: .top :: .top :: .top :: .top :: .top :: .int .i64 l.length :: .int .i64 (i : Int) :: .top :: .top :: .top :: .top :: .top :: .top :: .top :: .top :: .top :: .top :: .top :: .top :: .top :: .top :: .top :: [])) (fun i => H ++ [.vec 2 l.length (fldAV (trimTo l i))]) (fun i => i ≤ l.length) (fun i => l.length - i) 0 (Nat.zero_le _) ?_
          intro i hi
          have hfl := fldAV_len (trimTo l i)
          rw [trimTo_len] at hfl
          by_cases hlt : i < l.length
          · have hbd := fldAV_body (l := trimTo l i) (i := i) (by rw [trimTo_len]; exact hlt)
            rw [trimTo_get hlt] at hbd
            have hbl := hiv2 (l.getD i ([], [])) (by rw [List.getD_eq_getElem?_getD, List.getElem?_eq_getElem hlt]; exact List.getElem_mem _)
            have hh := And.intro hbd hfl
            repeat' (first | refine go ?_ | (refine br (fun hc => ?_) (fun hc => ?_) <;> try (exfalso; omega)) | fail)
            refine againE (i + 1) (by omega) (by omega) ?_
            have e := fldAV_setBody (l := trimTo l i) (i := i) (v := Lib.trimS (l.getD i ([], [])).2 [32, 9]) (by rw [trimTo_len]; exact hlt)
            rw [trimTo_get hlt] at e
            have e2 := trimTo_succ hlt
            unfold trimF at e2
            rw [e2] at e
            rw [← e]
            simp [setRange]
          · obtain rfl : i = l.length := by omega
            have e : trimTo l l.length = List.map trimF l := by simp [trimTo]
            rw [e]
            refine gos ?_
            refine wseq_normal ?_
            refine gos ?_
            refine wseq_normal ?_
            refine gos ?_
            refine wseq_shift (Shift.know 2 (sz := 2) rfl (by rw [List.getElem?_append_right (Nat.le_refl _), Nat.sub_self]; rfl)) ?_
            simp only [List.set_cons_succ, List.set_cons_zero, setE0]
            repeat' (first | refine go ?_ | (refine br (fun hc => ?_) (fun hc => ?_) <;> try (exfalso; omega)) | fail)
            refine .junkd ⟨?_, rfl⟩
            simp [parseV, tokP]
        · rw [hP, if_neg hlu]
          clear hP
          repeat' (first | refine go ?_ | (refine br (fun hc => ?_) (fun hc => ?_) <;> try (exfalso; omega)) | fail)
          all_goals exact .junkd ⟨rfl, rfl⟩
      · by_cases hbk : (s.getD 0 0).toNat = 32 ∨ (s.getD 0 0).toNat = 9
        · by_cases hq : l.length = 0
          · have hst : hstep (l, u) s = .die u := by unfold hstep; rw [if_neg h0, if_pos hbk, if_pos hq]
            have hR := headR_die h1 h2 hst
            have hP : headP b = ([], 0, 80) := by unfold headP; rw [hR]
            rw [hP]
            have hh := And.intro hv (And.intro hbd (And.intro htk (tf_true (p := blankB (s.getD 0 0)) hbk)))
            repeat' (first | refine go ?_ | (refine br (fun hc => ?_) (fun hc => ?_) <;> try (exfalso; omega)) | fail)
            exact .junkd ⟨rfl, rfl⟩
          · have hst : hstep (l, u) s = .go (addLast l s, u + (s.length + 2)) := by unfold hstep; rw [if_neg h0, if_pos hbk, if_neg hq]
            have hla := fldAV_last (l := l) (by omega)
            have hh := And.intro hv (And.intro hbd (And.intro htk (And.intro (tf_true (p := blankB (s.getD 0 0)) hbk) (And.intro hla hfl))))
            have hlb := hiv (l.getD (l.length - 1) ([], [])) (by rw [List.getD_eq_getElem?_getD, List.getElem?_eq_getElem (by omega)]; exact List.getElem_mem _)
            repeat' (first | refine go ?_ | (refine br (fun hc => ?_) (fun hc => ?_) <;> try (exfalso; omega)) | fail)
            have e := setRange_last (l := l) (s := s) (by omega) rfl
            simp only [setRange, List.length_cons, List.length_nil, Nat.zero_add, Nat.add_assoc, Nat.reduceAdd, List.append_assoc, List.cons_append, List.nil_append] at e
            have e2 : (addLast l s).length = l.length := by simp [addLast]; omega
            refine againE (addLast l s, u + (s.length + 2)) ⟨by simp only; omega, pre ++ [s], by rw [h1]; simp, foldR_go h2 hst⟩ (by simp only; omega) ?_ (by simp only [e2]; repeat (first | exact fgt_nil | refine fgt_top ?_ | refine fgt_same rfl ?_ | refine fgt_same (by simp) ?_ | refine fgt_same (by congr 1; omega) ?_))
            simp [e2]
            simpa using e
        · rcases cut_index (s := s) (c := 58) with ⟨hcu, hix⟩ | ⟨k, hk, hix, hcu⟩
          · have hst : hstep (l, u) s = .stop (l, u) := by unfold hstep; rw [if_neg h0, if_neg hbk, hcu]
            have hR := headR_stop h1 h2 hst
            have hh := And.intro hv (And.intro hbd (And.intro htk (And.intro (tf_false (p := blankB (s.getD 0 0)) hbk) hix)))
            obtain ⟨hlb, hub, hiv2⟩ := headR_inv hR
            have hP : headP b = if l.length ≤ 1000 ∧ u ≤ 100000 then (List.map trimF l, u, 0) else ([], 0, 2) := by unfold headP; rw [hR]
            by_cases hlu : l.length ≤ 1000 ∧ u ≤ 100000
            · rw [hP, if_pos hlu]
              clear hP
              repeat' (first | refine go ?_ | (refine br (fun hc => ?_) (fun hc => ?_) <;> try (exfalso; omega)) | fail)
              refine loop (fun i : Nat => (.top :: .top :: .top :: .top :: .top :: .vsl H.length l.length :: .int .i64 (u : Nat) :: .top :: .top :: .top :: .top :: .top :: .top :: .top :: .top :: .top :: .top :: .top :: .top :: .top :: .top :: .top :: .top :: .top :: .top :: .top :: .top :: .top :: .top :: .top :: .top :: .top :: .top :: .top :: .top :: .top :: .top :: .top :: .top :: .top :: .top :: .top :: .top :: .top :: .top :: .top :: .top :: .top :: .top :: .top :: .top :: .top :: .top :: .top :: .top :: .top :: .top :: .top :: .top :: .top :: .top :: .top :: .top :: .top :: .top :: .top :: .top :: .top :: .top :: .top :: .top :: .top :: .top :: .top :: .top :: .top :: .top :: .top :: .top :: .top :: .top :: .top :: .top :: .top :: .top :: .int .i64 l.length :: .int .i64 (i : Int) :: .top :: .top :: .top :: .top :: .top :: .top :: .top :: .top :: .top :: .top :: .top :: .top :: .top :: .top :: .top :: [])) (fun i => H ++ [.vec 2 l.length (fldAV (trimTo l i))]) (fun i => i ≤ l.length) (fun i => l.length - i) 0 (Nat.zero_le _) ?_
              intro i hi
              have hfl := fldAV_len (trimTo l i)
              rw [trimTo_len] at hfl
              by_cases hlt : i < l.length
              · have hbd := fldAV_body (l := trimTo l i) (i := i) (by rw [trimTo_len]; exact hlt)
                rw [trimTo_get hlt] at hbd
                have hbl := hiv2 (l.getD i ([], [])) (by rw [List.getD_eq_getElem?_getD, List.getElem?_eq_getElem hlt]; exact List.getElem_mem _)
                have hh := And.intro hbd hfl
                repeat' (first | refine go ?_ | (refine br (fun hc => ?_) (fun hc => ?_) <;> try (exfalso; omega)) | fail)
                refine againE (i + 1) (by omega) (by omega) ?_
                have e := fldAV_setBody (l := trimTo l i) (i := i) (v := Lib.trimS (l.getD i ([], [])).2 [32, 9]) (by rw [trimTo_len]; exact hlt)
                rw [trimTo_get hlt] at e
                have e2 := trimTo_succ hlt
                unfold trimF at e2
                rw [e2] at e
                rw [← e]
                simp [setRange]
              · obtain rfl : i = l.length := by omega
                have e : trimTo l l.length = List.map trimF l := by simp [trimTo]
                rw [e]
                refine gos ?_
                refine wseq_normal ?_
                refine gos ?_
                refine wseq_normal ?_
                refine gos ?_
                refine wseq_shift (Shift.know 2 (sz := 2) rfl (by rw [List.getElem?_append_right (Nat.le_refl _), Nat.sub_self]; rfl)) ?_
                simp only [List.set_cons_succ, List.set_cons_zero, setE0]
                repeat' (first | refine go ?_ | (refine br (fun hc => ?_) (fun hc => ?_) <;> try (exfalso; omega)) | fail)
                refine .junkd ⟨?_, rfl⟩
                simp [parseV, tokP]
            · rw [hP, if_neg hlu]
              clear hP
              repeat' (first | refine go ?_ | (refine br (fun hc => ?_) (fun hc => ?_) <;> try (exfalso; omega)) | fail)
              all_goals exact .junkd ⟨rfl, rfl⟩
          · by_cases hN : NameOk (s.take k)
            · have hst : hstep (l, u) s = .go (l ++ [(s.take k, s.drop (k + 1))], u + (s.length + 2)) := by unfold hstep; rw [if_neg h0, if_neg hbk, hcu]; simp only [tf_true hN]; rfl
              have hh := And.intro hv (And.intro hbd (And.intro htk (And.intro (tf_false (p := blankB (s.getD 0 0)) hbk) (And.intro hix (tf_true hN)))))
              repeat' (first | refine go ?_ | (refine br (fun hc => ?_) (fun hc => ?_) <;> try (exfalso; omega)) | fail)
              refine againE (l ++ [(s.take k, s.drop (k + 1))], u + (s.length + 2)) ⟨by simp only; omega, pre ++ [s], by rw [h1]; simp, foldR_go h2 hst⟩ (by simp only; omega) ?_ (by repeat (first | exact fgt_nil | refine fgt_top ?_ | refine fgt_same rfl ?_ | refine fgt_same (by simp) ?_ | refine fgt_same (by congr 1; omega) ?_))
              simp [fldAV, show ((k : Int) + 1).toNat = k + 1 by omega]
            · have hst : hstep (l, u) s = .stop (l, u) := by unfold hstep; rw [if_neg h0, if_neg hbk, hcu]; simp only [tf_false hN]; rfl
              have hR := headR_stop h1 h2 hst
              have hh := And.intro hv (And.intro hbd (And.intro htk (And.intro (tf_false (p := blankB (s.getD 0 0)) hbk) (And.intro hix (tf_false hN)))))
              obtain ⟨hlb, hub, hiv2⟩ := headR_inv hR
              have hP : headP b = if l.length ≤ 1000 ∧ u ≤ 100000 then (List.map trimF l, u, 0) else ([], 0, 2) := by unfold headP; rw [hR]
              by_cases hlu : l.length ≤ 1000 ∧ u ≤ 100000
              · rw [hP, if_pos hlu]
                clear hP
                repeat' (first | refine go ?_ | (refine br (fun hc => ?_) (fun hc => ?_) <;> try (exfalso; omega)) | fail)
                refine loop (fun i : Nat => (.top :: .top :: .top :: .top :: .top :: .vsl H.length l.length :: .int .i64 (u : Nat) :: .top :: .top :: .top :: .top :: .top :: .top :: .top :: .top :: .top :: .top :: .top :: .top :: .top :: .top :: .top :: .top :: .top :: .top :: .top :: .top :: .top :: .top :: .top :: .top :: .top :: .top :: .top :: .top :: .top :: .top :: .top :: .top :: .top :: .top :: .top :: .top :: .top :: .top :: .top :: .top :: .top :: .top :: .top :: .top :: .top :: .top :: .top :: .top :: .top :: .top :: .top :: .top :: .top :: .top :: .top :: .top :: .top :: .top :: .top :: .top :: .top :: .top :: .top :: .top :: .top :: .top :: .top :: .top :: .top :: .top :: .top :: .top :: .top :: .top :: .top :: .top :: .top :: .top :: .int .i64 l.length :: .int .i64 (i : Int) :: .top :: .top :: .top :: .top :: .top :: .top :: .top :: .top :: .top :: .top :: .top :: .top :: .top :: .top :: .top :: [])) (fun i => H ++ [.vec 2 l.length (fldAV (trimTo l i))]) (fun i => i ≤ l.length) (fun i => l.length - i) 0 (Nat.zero_le _) ?_
                intro i hi
                have hfl := fldAV_len (trimTo l i)
                rw [trimTo_len] at hfl
                by_cases hlt : i < l.length
                · have hbd := fldAV_body (l := trimTo l i) (i := i) (by rw [trimTo_len]; exact hlt)
                  rw [trimTo_get hlt] at hbd
                  have hbl := hiv2 (l.getD i ([], [])) (by rw [List.getD_eq_getElem?_getD, List.getElem?_eq_getElem hlt]; exact List.getElem_mem _)
                  have hh := And.intro hbd hfl
                  repeat' (first | refine go ?_ | (refine br (fun hc => ?_) (fun hc => ?_) <;> try (exfalso; omega)) | fail)
                  refine againE (i + 1) (by omega) (by omega) ?_
                  have e := fldAV_setBody (l := trimTo l i) (i := i) (v := Lib.trimS (l.getD i ([], [])).2 [32, 9]) (by rw [trimTo_len]; exact hlt)
                  rw [trimTo_get hlt] at e
                  have e2 := trimTo_succ hlt
                  unfold trimF at e2
                  rw [e2] at e
                  rw [← e]
                  simp [setRange]
                · obtain rfl : i = l.length := by omega
                  have e : trimTo l l.length = List.map trimF l := by simp [trimTo]
                  rw [e]
                  refine gos ?_
                  refine wseq_normal ?_
                  refine gos ?_
                  refine wseq_normal ?_
                  refine gos ?_
                  refine wseq_shift (Shift.know 2 (sz := 2) rfl (by rw [List.getElem?_append_right (Nat.le_refl _), Nat.sub_self]; rfl)) ?_
                  simp only [List.set_cons_succ, List.set_cons_zero, setE0]
                  repeat' (first | refine go ?_ | (refine br (fun hc => ?_) (fun hc => ?_) <;> try (exfalso; omega)) | fail)
                  refine .junkd ⟨?_, rfl⟩
                  simp [parseV, tokP]
              · rw [hP, if_neg hlu]
                clear hP
                repeat' (first | refine go ?_ | (refine br (fun hc => ?_) (fun hc => ?_) <;> try (exfalso; omega)) | fail)
                all_goals exact .junkd ⟨rfl, rfl⟩
  · have he : linesOf (b.drop u) = [] := by
      rw [List.drop_eq_nil_of_le (by omega)]; exact linesOf_none rfl
    rw [he, List.append_nil] at h1
    have hR := headR_go h1 h2
    have hh := hbd
    obtain ⟨hlb, hub, hiv2⟩ := headR_inv hR
    have hP : headP b = if l.length ≤ 1000 ∧ u ≤ 100000 then (List.map trimF l, u, 0) else ([], 0, 2) := by unfold headP; rw [hR]
    by_cases hlu : l.length ≤ 1000 ∧ u ≤ 100000
    · rw [hP, if_pos hlu]
      clear hP
      repeat' (first | refine go ?_ | (refine br (fun hc => ?_) (fun hc => ?_) <;> try (exfalso; omega)) | fail)
      refine loop (fun i : Nat => (.top :: .top :: .top :: .top :: .top :: .vsl H.length l.length :: .int .i64 (u : Nat) :: .top :: .top :: .top :: .top :: .top :: .top :: .top :: .top :: .top :: .top :: .top :: .top :: .top :: .top :: .top :: .top :: .top :: .top :: .top :: .top :: .top :: .top :: .top :: .top :: .top :: .top :: .top :: .top :: .top :: .top :: .top :: .top :: .top :: .top :: .top :: .top :: .top :: .top :: .top :: .top :: .top :: .top :: .top :: .top :: .top :: .top :: .top :: .top :: .top :: .top :: .top :: .top :: .top :: .top :: .top :: .top :: .top :: .top :: .top :: .top :: .top :: .top :: .top :: .top :: .top :: .top :: .top :: .top :: .top :: .top :: .top :: .top :: .top :: .top :: .top :: .top :: .top :: .top :: .int .i64 l.length :: .int .i64 (i : Int) :: .top :: .top :: .top :: .top :: .top :: .top :: .top :: .top :: .top :: .top :: .top :: .top :: .top :: .top :: .top :: [])) (fun i => H ++ [.vec 2 l.length (fldAV (trimTo l i))]) (fun i => i ≤ l.length) (fun i => l.length - i) 0 (Nat.zero_le _) ?_
      intro i hi
      have hfl := fldAV_len (trimTo l i)
      rw [trimTo_len] at hfl
      by_cases hlt : i < l.length
      · have hbd := fldAV_body (l := trimTo l i) (i := i) (by rw [trimTo_len]; exact hlt)
        rw [trimTo_get hlt] at hbd
        have hbl := hiv2 (l.getD i ([], [])) (by rw [List.getD_eq_getElem?_getD, List.getElem?_eq_getElem hlt]; exact List.getElem_mem _)
        have hh := And.intro hbd hfl
        repeat' (first | refine go ?_ | (refine br (fun hc => ?_) (fun hc => ?_) <;> try (exfalso; omega)) | fail)
        refine againE (i + 1) (by omega) (by omega) ?_
        have e := fldAV_setBody (l := trimTo l i) (i := i) (v := Lib.trimS (l.getD i ([], [])).2 [32, 9]) (by rw [trimTo_len]; exact hlt)
        rw [trimTo_get hlt] at e
        have e2 := trimTo_succ hlt
        unfold trimF at e2
        rw [e2] at e
        rw [← e]
        simp [setRange]
      · obtain rfl : i = l.length := by omega
        have e : trimTo l l.length = List.map trimF l := by simp [trimTo]
        rw [e]
        refine gos ?_
        refine wseq_normal ?_
        refine gos ?_
        refine wseq_normal ?_
        refine gos ?_
        refine wseq_shift (Shift.know 2 (sz := 2) rfl (by rw [List.getElem?_append_right (Nat.le_refl _), Nat.sub_self]; rfl)) ?_
        simp only [List.set_cons_succ, List.set_cons_zero, setE0]
        repeat' (first | refine go ?_ | (refine br (fun hc => ?_) (fun hc => ?_) <;> try (exfalso; omega)) | fail)
        refine .junkd ⟨?_, rfl⟩
        simp [parseV, tokP]
    · rw [hP, if_neg hlu]
      clear hP
      repeat' (first | refine go ?_ | (refine br (fun hc => ?_) (fun hc => ?_) <;> try (exfalso; omega)) | fail)
      all_goals exact .junkd ⟨rfl, rfl⟩

end Go.Ab.Tryd
