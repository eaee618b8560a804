/- Walks: any bytes read as a message, by the document: the walk. -/
import Derived.Test.YtpdjgbpmlckepaaDoorLDec4
set_option linter.unusedSimpArgs false
set_option linter.unusedVariables false
set_option maxHeartbeats 8000000
set_option maxRecDepth 4000
namespace Go.Ab.Tryd
open Go Go.Ab Go.Proofs
attribute [local irreducible] W Wl Wop TrA WSeq WLoopS FPost DPost RPost WRound DK onEnd
attribute [local simp] belowL_bytesAV belowL_strsM belowL_appM
variable {n0 : Nat} {w0 : World} {gl : Nat → List AV} {H : List AO}

theorem takeS_all (b : List UInt8) (hb : b.length ≤ 10000) : ∀ i k, ((takeS b i).1.getD k []).length ≤ 10000
  | 0, k => by simp [takeS]
  | i + 1, k => by
    have ih := takeS_all b hb i
    have hl := takeS_len b i
    simp only [takeS]
    cases h : cut15R (takeS b i).2 with
    | none => simpa using ih k
    | some xn =>
      obtain ⟨x, n⟩ := xn
      have hx := (cut15R_pos h).2.2
      simp only [List.getD_eq_getElem?_getD] at ih ⊢
      rcases Nat.lt_trichotomy k (takeS b i).1.length with h1 | h1 | h1
      · rw [List.getElem?_append_left h1]; exact ih k
      · rw [h1, List.getElem?_append_right (Nat.le_refl _)]; simp; omega
      · rw [List.getElem?_append_right (by omega), List.getElem?_eq_none (by simp; omega)]; simp
theorem parts_at2 {l : List (List UInt8)} {i : Nat} (h : i < l.length) : (partsAV (roP l)).getD i .top = .sl (l.getD i []).length (bytesAV (l.getD i [])) .ro := by
  simp [partsAV, roP, List.getD_eq_getElem?_getD, h]
theorem parts_len2 (l : List (List UInt8)) : (partsAV (roP l)).length = l.length := by simp [partsAV, roP]

theorem rdecode_t [ht : Tab10 n0 w0] (b : List UInt8) (hb : b.length ≤ 10000) : AEnter (env n0 w0 gl) 11 [.sl b.length (bytesAV b) .ro] H (fun y H' => y = .ret (decV b) ∧ H' = H) := by
  have hnone : (∀ m : Msg, m.Small → m.EncOk → m.enc = b → False) → decV b = .tup [.agg [.int .i64 0, .str [], .str [], .sl 0 [] .full, .int .i64 0, .sl 0 [] .full], .int .i64 150] := fun h => by
    unfold decV; rw [decM_none h]
  refine enter (md := fun _ => 0) Tryd.func11 (fun hfit hgl => ?_)
  refine gos ?_
  refine wseq_normal ?_
  refine gos ?_
  refine wseq_shift (Shift.vec 1 4 rfl) ?_
  simp only [List.set_cons_succ, List.set_cons_zero, List.append_assoc, List.cons_append, List.nil_append, List.length_append, List.length_cons, List.length_nil, Nat.zero_add]
  repeat' (first | refine go ?_ | (refine br (fun hc => ?_) (fun hc => ?_) <;> try (exfalso; omega)) | fail)
  refine loop (fun i : Nat => (.sl b.length (bytesAV b) .ro :: .top :: .ref H.length 0 :: .int .i64 0 :: .vsl (H.length + 1) i :: .sl (takeS b i).2.length (bytesAV (takeS b i).2) .ro :: .top :: .top :: .top :: .top :: .top :: .top :: .top :: .top :: .top :: .top :: .top :: .top :: .top :: .top :: .top :: .top :: .top :: .top :: .top :: .top :: .top :: .top :: .top :: .top :: .top :: .top :: .top :: .top :: .top :: .top :: .top :: .top :: .top :: .top :: .top :: .top :: .top :: .top :: .top :: .top :: .top :: .top :: .top :: .top :: .top :: .top :: .top :: .top :: .top :: .top :: .top :: .top :: .top :: .top :: .top :: .top :: .top :: .top :: .top :: .top :: .top :: .top :: .top :: .top :: .top :: .top :: .top :: .top :: .top :: .top :: .top :: .top :: .top :: .top :: .top :: .top :: .top :: .top :: .top :: .top :: .top :: .top :: .top :: .top :: .top :: .top :: .top :: .top :: .top :: .top :: .top :: .top :: .top :: .top :: .top :: .top :: .top :: .top :: .top :: .top :: .top :: .top :: .top :: .top :: .top :: [])) (fun i => H ++ [.cells [.int .i64 0, .str [], .str [], .sl 0 [] .full, .int .i64 0, .sl 0 [] .full], .vec 1 i (partsAV (roP (takeS b i).1))]) (fun i => i ≤ 110 ∧ (takeS b i).1.length = i) (fun i => 110 - i) 0 ⟨by omega, rfl⟩ ?_
  rintro i ⟨hi, hlen⟩
  have hrl := takeS_len b i
  have hpl := parts_len2 (takeS b i).1
  rw [hlen] at hpl
  have hcase : (i < 110 ∧ ∃ x n, cut15R (takeS b i).2 = some (x, n)) ∨ (i < 110 ∧ cut15R (takeS b i).2 = none) ∨ i = 110 := by
    by_cases h : i < 110
    · cases hc : cut15R (takeS b i).2 with
      | none => exact .inr (.inl ⟨h, rfl⟩)
      | some p => exact .inl ⟨h, p.1, p.2, rfl⟩
    · exact .inr (.inr (by omega))
  rcases hcase with ⟨hlt, x, n, hc⟩ | ⟨hlt, hc⟩ | hi110
  · have hts := takeS_some hc
    have htk : ∀ H, Ctr (env n0 w0 gl) 42 [.sl (takeS b i).2.length (bytesAV (takeS b i).2) .ro] H True (.tup [.sl x.length (bytesAV x) .ro, .sl ((takeS b i).2.drop n).length (bytesAV ((takeS b i).2.drop n)) .ro, .bool true]) H := fun H => ⟨fun _ => by
      have := (ref_take_t (n0 := n0) (w0 := w0) (gl := gl) (H := H) (takeS b i).2).call (by omega)
      simp only [takeV, hc] at this
      exact this⟩
    have hh := hpl
    have e1 : (takeS b (i + 1)).1 = (takeS b i).1 ++ [x] := by rw [hts]
    have e2 : (takeS b (i + 1)).2 = (takeS b i).2.drop n := by rw [hts]
    repeat' (first | refine go ?_ | (refine br (fun hc => ?_) (fun hc => ?_) <;> try (exfalso; omega)) | fail)
    rw [← partsAV_snoc, ← e1, ← e2, show (takeS b i).2.length - n = (takeS b (i + 1)).2.length by rw [e2, List.length_drop]]
    exact again (i + 1) ⟨by omega, by rw [e1, List.length_append, hlen]; rfl⟩ (by omega)
  case' inr.inl =>
    have htk : ∀ H, Ctr (env n0 w0 gl) 42 [.sl (takeS b i).2.length (bytesAV (takeS b i).2) .ro] H True (.tup [.sl 0 [] .full, .sl (takeS b i).2.length (bytesAV (takeS b i).2) .ro, .bool false]) H := fun H => ⟨fun _ => by
      have := (ref_take_t (n0 := n0) (w0 := w0) (gl := gl) (H := H) (takeS b i).2).call (by omega)
      simp only [takeV, hc] at this
      exact this⟩
    have hh := hpl
    have hT : takeS b 110 = takeS b i := by
      have := takeS_stuck hc (110 - i)
      rwa [show i + (110 - i) = 110 by omega] at this
    refine gos ?_
    refine wseq_normal ?_
    refine gos ?_
    refine wseq_normal ?_
    refine gos ?_
    refine wseq_normal ?_
    refine gos ?_
    refine wseq_normal ?_
    refine gos ?_
    refine wseq_shift (Shift.know 4 (sz := 1) rfl (by simp; rfl)) ?_
    clear hc htk
  case' inr.inr =>
    have hT : takeS b 110 = takeS b i := by rw [hi110]
    have hlt : ¬ i < 110 := by omega
    have hh := hpl
    refine gos ?_
    refine wseq_normal ?_
    refine gos ?_
    refine wseq_shift (Shift.know 4 (sz := 1) rfl (by simp; rfl)) ?_
    clear hi110
  all_goals
    have hpl2 := hpl
    clear hpl hh hlt
    have href := fun m hS hE hq => ref_of (m := m) (b := b) hS hE hq
    rw [← hT] at hlen hrl hpl2 ⊢
    have hall := takeS_all b hb 110
    clear hT
    generalize takeS b 110 = lr at *
    obtain ⟨l, r⟩ := lr
    simp only at hlen hrl hpl2 href hall ⊢
    subst hlen
    simp only [List.set_cons_succ, List.set_cons_zero, getE, setE]
    by_cases hsh : l.length < 7 ∨ 0 < r.length
    · rw [hnone fun m hS hE hq => by
        obtain ⟨k1, k2, _⟩ := href m hS hE hq
        rw [k1] at hsh
        simp only [List.length_nil] at hsh
        omega]
      by_cases h7 : l.length < 7
      · have hh := hpl2
        repeat' (first | refine go ?_ | (refine br (fun hc => ?_) (fun hc => ?_) <;> try (exfalso; omega)) | fail)
        all_goals exact .junkd ⟨rfl, rfl⟩
      · have h0 : 0 < r.length := by omega
        have hh := hpl2
        repeat' (first | refine go ?_ | (refine br (fun hc => ?_) (fun hc => ?_) <;> try (exfalso; omega)) | fail)
        all_goals exact .junkd ⟨rfl, rfl⟩
    · have h7 : 7 ≤ l.length := by omega
      have h0 : r.length = 0 := by omega
      have p0 := parts_at2 (l := l) (i := 0) (by omega)
      have p1 := parts_at2 (l := l) (i := 1) (by omega)
      have p2 := parts_at2 (l := l) (i := 2) (by omega)
      have p3 := parts_at2 (l := l) (i := 3) (by omega)
      have pz := parts_at2 (l := l) (i := l.length - 1) (by omega)
      have hN1 : ((l.length : Int) - 1).toNat = l.length - 1 := by omega
      have hd5 : List.drop 5 (List.take (l.length - 1) (partsAV (roP l))) = partsAV (roP ((l.take (l.length - 1)).drop 5)) := by simp [partsAV, roP]
      have hTl : ((l.take (l.length - 1)).drop 5).length = l.length - 1 - 5 := by rw [List.length_drop, List.length_take]; omega
      have hnb : ∀ k H, (l.getD k []).length ≤ 10000 → Ctr (env n0 w0 gl) 43 [.str (l.getD k [])] H True (.tup [.int .i64 (numN (l.getD k [])), .bool (numB (l.getD k []))]) H := fun k H h => ⟨fun _ => by
        have := (number_t (n0 := n0) (w0 := w0) (gl := gl) (H := H) (l.getD k [])).call (by omega)
        rwa [numV_eq] at this⟩
      have hb0 := fun H => hnb 0 H (hall 0)
      have hb3 := fun H => hnb 3 H (hall 3)
      have hcons : ∃ x l', l = x :: l' := by
        cases l with
        | nil => simp at h7
        | cons x l => exact ⟨x, l, rfl⟩
      have p0a : (List.take 1 (partsAV (roP l))).headD .top = .sl (l.getD 0 []).length (bytesAV (l.getD 0 [])) .ro := by
        obtain ⟨x, l', rfl⟩ := hcons; rfl
      have p0b : (partsAV (roP l)).headD .top = .sl (l.getD 0 []).length (bytesAV (l.getD 0 [])) .ro := by
        obtain ⟨x, l', rfl⟩ := hcons; rfl
      have hl7 : ((l.length : Int) < 7) = False := eq_false (by omega)
      have hr0 : (0 < (r.length : Int)) = False := eq_false (by omega)
      have hf : decide False = false := rfl
      have hh := And.intro hl7 <| And.intro hr0 <| And.intro hf <| And.intro p0a <| And.intro p0b <| And.intro hpl2 (And.intro p0 (And.intro p1 (And.intro p2 (And.intro p3 (And.intro pz (And.intro hN1 (And.intro hd5 hTl.symm)))))))
      refine gos ?_
      refine wseq_normal ?_
      refine gos ?_
      refine wseq_normal ?_
      refine w_seq ?_
      refine w_drawnP (fun _ => True) (by intro _ h; cases h) (by simp only [List.length_cons, List.length_nil, Nat.reduceAdd]; exact rfl) ?_
      refine goP ?_
      refine wseq_normal ?_
      repeat' (first | refine go ?_ | (refine br (fun hc => ?_) (fun hc => ?_) <;> try (exfalso; omega)) | fail)
      have hm : refM l = ⟨numN (l.getD 0 []), l.getD 1 [], l.getD 2 [], (l.take (l.length - 1)).drop 5, numN (l.getD 3 []), l.getD (l.length - 1) []⟩ := rfl
      have hTall : ∀ i, (((l.take (l.length - 1)).drop 5).getD i []).length ≤ 10000 := fun i => by
        have := hall (5 + i)
        simp only [List.getD_eq_getElem?_getD, List.getElem?_drop, List.getElem?_take] at this ⊢
        split
        · exact this
        · simp
      have hnn : ∀ s, 0 ≤ numN s ∧ numN s ≤ 9223372036854775807 := fun s => by
        unfold numN
        split
        · rename_i hf; have := hf.2; omega
        · omega
      have hi1 := hnn (l.getD 0 [])
      have hi3 := hnn (l.getD 3 [])
      have hc1 := hall 1
      have hc2 := hall 2
      have hcz := hall (l.length - 1)
      clear hh hb0 hb3 hnb p0 p1 p2 p3 pz p0a p0b hd5 hnn
      rw [hm] at href
      clear hm
      generalize (l.take (l.length - 1)).drop 5 = T at *
      generalize numN (l.getD 0 []) = id at *
      generalize numN (l.getD 3 []) = at_ at *
      generalize l.getD 1 [] = cls at *
      generalize l.getD 2 [] = fro at *
      generalize l.getD (l.length - 1) [] = body at *
      have hTle : T.length ≤ 110 := by omega
      have hpT := parts_len2 T
      have hk : (List.take (l.length - 1) l).length - 5 = T.length := by rw [hTl, List.length_take]; omega
      rw [hk]
      refine loop (fun lst : List (List UInt8) => (.sl b.length (bytesAV b) .ro :: .top :: .ref H.length 0 :: .int .i64 0 :: .top :: .top :: .top :: .top :: .top :: .ref (H.length + 2) 0 :: .top :: .top :: .top :: .top :: .top :: .top :: .top :: .top :: .top :: .top :: .top :: .top :: .top :: .top :: .top :: .top :: .top :: .top :: .top :: .top :: .top :: .top :: .top :: .top :: .top :: .top :: .top :: .top :: .top :: .top :: .top :: .top :: .top :: .top :: .top :: .top :: .top :: .top :: .top :: .top :: .top :: .top :: .top :: .top :: .top :: .top :: .top :: .top :: .top :: .top :: .top :: .top :: .top :: .top :: .top :: .top :: .top :: .top :: .top :: .top :: .top :: .top :: .top :: .top :: .top :: .top :: .top :: .top :: .top :: .sl T.length (partsAV (roP T)) .ro :: .int .i64 T.length :: .int .i64 (lst.length : Int) :: .top :: .top :: .top :: .top :: .top :: .top :: .top :: .top :: .top :: .top :: .top :: .top :: .top :: .top :: .top :: .top :: .top :: .top :: .top :: .top :: .top :: .top :: .top :: .top :: .top :: .top :: .top :: .top :: .top :: []))
        (fun lst => H ++ ([.cells [.int .i64 0, .str [], .str [], .sl 0 [] .full, .int .i64 0, .sl 0 [] .full], .dead, .cells [.int .i64 id, .str cls, .str fro, rcV lst (H.length + 3), .int .i64 at_, .sl body.length (bytesAV body) .ro]] ++ rcT lst))
        (fun lst => lst.length ≤ T.length ∧ lst = T.take lst.length) (fun lst => T.length - lst.length) [] ⟨Nat.zero_le _, by simp⟩ ?_
      rintro lst ⟨hl1, hl2⟩
      try simp only at hl1 hl2 ⊢
      by_cases hlt : lst.length < T.length
      · have hat := parts_at2 hlt
        have hx := hTall lst.length
        have hsucc : T.take (lst.length + 1) = lst ++ [T.getD lst.length []] := by
          rw [List.take_succ_eq_append_getElem hlt, ← hl2]; simp [List.getD_eq_getElem?_getD, hlt]
        rcases lst with _ | ⟨y, lst⟩
        · simp only [rcV, rcT, List.append_nil, List.length_nil] at hlt hat hx hsucc ⊢
          have hcons : ∃ x l', T = x :: l' := by
            cases T with
            | nil => simp at hlt
            | cons x l => exact ⟨x, l, rfl⟩
          have q0a : (List.take 1 (partsAV (roP T))).headD .top = .sl (T.getD 0 []).length (bytesAV (T.getD 0 [])) .ro := by
            obtain ⟨x, l', rfl⟩ := hcons; rfl
          have q0b : (partsAV (roP T)).headD .top = .sl (T.getD 0 []).length (bytesAV (T.getD 0 [])) .ro := by
            obtain ⟨x, l', rfl⟩ := hcons; rfl
          clear hcons
          generalize T.getD 0 [] = x at *
          have hh := And.intro hpT (And.intro hat (And.intro q0a (And.intro q0b hlt)))
          repeat' (first | refine go ?_ | (refine br (fun hc => ?_) (fun hc => ?_) <;> try (exfalso; omega)) | fail)
          exact again ([x]) ⟨by simp; omega, by simpa using hsucc.symm⟩ (by simp; omega)
        · simp only [rcV, rcT, List.cons_append, List.nil_append, List.length_cons] at hlt hat hx hsucc hl1 ⊢
          have hml : (lst.map AV.str).length = lst.length := List.length_map ..
          generalize T.getD (lst.length + 1) [] = x at *
          have hh := And.intro hpT (And.intro hat (And.intro hml hlt))
          repeat' (first | refine go ?_ | (refine br (fun hc => ?_) (fun hc => ?_) <;> try (exfalso; omega)) | fail)
          have hle : (y :: (lst ++ [x])).length = lst.length + 1 + 1 := by simp
          rw [show (((lst.length + 1 : Nat) : Int) + 1) = (((y :: (lst ++ [x])).length : Nat) : Int) by rw [hle]; simp]
          refine againJ (y :: (lst ++ [x])) ⟨by rw [hle]; omega, by rw [hle]; exact hsucc.symm⟩ (by rw [hle]; simp only [List.length_cons]; omega) [] (by simp) ?_
          rw [List.append_nil]
          refine Shift.fgt ?_
          repeat (first | exact fgt_nil | refine fgt_top ?_ | refine fgt_same rfl ?_)
      · have hlT : lst = T := by rw [hl2, List.take_of_length_le (by omega)]
        subst hlT
        have hml : (lst.map AV.str).length = lst.length := List.length_map ..
        simp only [List.cons_append, List.nil_append]
        refine gos ?_
        refine wseq_normal ?_
        refine gos ?_
        refine wseq_shift (Shift.cells (H.length + 2) (xs := [.int .i64 id, .str cls, .str fro, rcV lst (H.length + 3), .int .i64 at_, .sl body.length (bytesAV body) .ro]) (ys := [.int .i64 id, .str cls, .str fro, .sl lst.length (lst.map .str) .ro, .int .i64 at_, .sl body.length (bytesAV body) .ro]) (by simp) rfl (fun g k c q => by
          match k, q with
          | 0, q => exact q
          | 1, q => exact q
          | 2, q => exact q
          | 3, q => exact rcV_ro q
          | 4, q => exact q
          | 5, q => exact q
          | k + 6, q => exact q)) ?_
        rw [show ∀ (x y b0 b1 : AO) (z : List AO), (H ++ b0 :: b1 :: x :: z).set (H.length + 2) y = H ++ b0 :: b1 :: y :: z from fun _ _ _ _ _ => by simp]
        have hS : (Msg.mk id cls fro lst at_ body).Small := ⟨by simp only; omega, by simp only; omega, fun i hi => Nat.le_trans (hTall i) (by omega), by simp only; omega, by simp only; omega⟩
        by_cases hE : (Msg.mk id cls fro lst at_ body).EncOk
        · have hen : ∀ H, Ctr (env n0 w0 gl) 44 [.agg [.int .i64 id, .str cls, .str fro, .sl lst.length (lst.map .str) .ro, .int .i64 at_, .sl body.length (bytesAV body) .ro]] H True (.tup [.sl (Msg.mk id cls fro lst at_ body).enc.length (bytesAV (Msg.mk id cls fro lst at_ body).enc) .ro, .int .i64 0]) H := fun H => .of fun _ => ref_encode_ok (n0 := n0) (w0 := w0) (gl := gl) (H := H) _ hS hE
          by_cases hq : (Msg.mk id cls fro lst at_ body).enc = b
          · have hV : decV b = .tup [.agg [.int .i64 id, .str cls, .str fro, .sl lst.length (lst.map .str) .ro, .int .i64 at_, .sl body.length (bytesAV body) .ro], .int .i64 0] := by
              unfold decV; rw [decM_some hS hE hq]; rfl
            rw [hV]
            rw [hq] at hen
            have hh := hml
            repeat' (first | refine go ?_ | (refine br (fun hc => ?_) (fun hc => ?_) <;> try (exfalso; omega)) | fail)
            all_goals exact .junkd ⟨rfl, rfl⟩
          · rw [hnone fun m hS2 hE2 hq2 => by
              obtain ⟨_, _, k⟩ := href m hS2 hE2 hq2
              rw [k] at hq
              exact hq hq2]
            have hh := And.intro hml hq
            generalize (Msg.mk id cls fro lst at_ body).enc = en at *
            repeat' (first | refine go ?_ | (refine br (fun hc => ?_) (fun hc => ?_) <;> try (exfalso; omega)) | fail)
            all_goals exact .junkd ⟨rfl, rfl⟩
        · rw [hnone fun m hS2 hE2 hq2 => by
            obtain ⟨_, _, k⟩ := href m hS2 hE2 hq2
            rw [k] at hE
            exact hE hE2]
          have hen : ∀ H, Ctr (env n0 w0 gl) 44 [.agg [.int .i64 id, .str cls, .str fro, .sl lst.length (lst.map .str) .ro, .int .i64 at_, .sl body.length (bytesAV body) .ro]] H True (.tup [.sl 0 [] .full, .int .i64 150]) H := fun H => .of fun _ => ref_encode_bad (n0 := n0) (w0 := w0) (gl := gl) (H := H) _ hS hE
          have hh := hml
          repeat' (first | refine go ?_ | (refine br (fun hc => ?_) (fun hc => ?_) <;> try (exfalso; omega)) | fail)
          all_goals exact .junkd ⟨rfl, rfl⟩

end Go.Ab.Tryd
