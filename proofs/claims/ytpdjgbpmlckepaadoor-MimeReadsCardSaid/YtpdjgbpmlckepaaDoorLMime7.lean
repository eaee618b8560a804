/- Walks: a report taken apart, by the document. -/
import Derived.Test.YtpdjgbpmlckepaaDoorSMime3
import Derived.Test.YtpdjgbpmlckepaaDoorLMime5
import Derived.Test.YtpdjgbpmlckepaaDoorLLaw11
set_option linter.unusedSimpArgs false
set_option linter.unusedVariables false
set_option maxHeartbeats 8000000
set_option maxRecDepth 4000
namespace Go.Ab.Tryd
open Go Go.Ab Go.Proofs
attribute [local irreducible] W Wl Wop TrA WSeq WLoopS FPost DPost RPost WRound DK onEnd
attribute [local simp] belowL_bytesAV belowL_strsM belowL_appM
variable {n0 : Nat} {w0 : World} {gl : Nat → List AV} {H : List AO}

instance after_t (s p : List UInt8) : Ctr (env n0 w0 gl) 56 [.str s, .str p] H (s.length ≤ 1000000 ∧ p.length ≤ 1000000) (.tup [.str (afA p s), .str (afB p s), .bool (tf (AfOk p s))]) H := .of fun ⟨hs, hpl⟩ => by
  by_cases h1 : p.length ≤ s.length
  · by_cases h2 : s.take p.length = p
    · have hP : PrefOk p s := ⟨h1, h2⟩
      have hdl : (s.drop p.length).length = s.length - p.length := List.length_drop
      have hi : ∀ H, Ctr (env n0 w0 gl) 103 [.str (s.drop p.length), .str [13, 10]] H True (.int .i64 (Lib.index (s.drop p.length) [13, 10])) H := fun H => ⟨fun _ => (in_t (n0 := n0) (w0 := w0) (gl := gl) (H := H) (s.drop p.length) [13, 10]).call ⟨by omega, by decide⟩⟩
      rcases crlfAt_idx (s.drop p.length) with ⟨q1, q2⟩ | ⟨k, hk, q1, q2⟩
      · have hn : ¬ AfOk p s := fun h => h.2 q2
        have eA : afA p s = [] := by unfold afA; rw [if_neg hn]
        have eB : afB p s = s.drop p.length := by unfold afB; rw [if_neg hn, if_pos hP]
        rw [eA, eB, tf_false hn]
        rw [q1] at hi
        have htk : List.take (s.length - p.length) (List.drop p.length s) = List.drop p.length s := List.take_of_length_le (by omega)
        have hh := And.intro h2 (And.intro hdl (And.intro q1 htk))
        refine enter (md := fun _ => 0) Tryd.func56 (fun hfit hgl => ?_)
        repeat' (first | refine go ?_ | (refine br (fun hc => ?_) (fun hc => ?_) <;> try (exfalso; omega)) | fail)
        refine wop_ctr rfl rfl (fid := 103) (first := []) (cap := []) rfl (args := [.str (s.drop p.length), .str [13, 10]]) rfl (hi H) trivial rfl rfl rfl rfl ?_
        repeat' (first | refine go ?_ | (refine br (fun hc => ?_) (fun hc => ?_) <;> try (exfalso; omega)) | fail)
        all_goals exact .now ⟨rfl, rfl⟩
      · obtain ⟨r1, r2, r3⟩ := line_of q2
        have hn : AfOk p s := ⟨hP, r1⟩
        have eA : afA p s = (s.drop p.length).take k := by unfold afA; rw [if_pos hn, r2]
        have eB : afB p s = (s.drop p.length).drop (k + 2) := by unfold afB; rw [if_pos hn, r3]
        rw [eA, eB, tf_true hn]
        rw [q1] at hi
        have htk : List.take (s.length - p.length) (List.drop p.length s) = List.drop p.length s := List.take_of_length_le (by omega)
        have hh := And.intro h2 (And.intro hdl (And.intro q1 htk))
        refine enter (md := fun _ => 0) Tryd.func56 (fun hfit hgl => ?_)
        repeat' (first | refine go ?_ | (refine br (fun hc => ?_) (fun hc => ?_) <;> try (exfalso; omega)) | fail)
        refine wop_ctr rfl rfl (fid := 103) (first := []) (cap := []) rfl (args := [.str (s.drop p.length), .str [13, 10]]) rfl (hi H) trivial rfl rfl rfl rfl ?_
        repeat' (first | refine go ?_ | (refine br (fun hc => ?_) (fun hc => ?_) <;> try (exfalso; omega)) | fail)
        all_goals exact .now ⟨rfl, rfl⟩
    · have hn : ¬ AfOk p s := fun h => h2 h.1.2
      have eA : afA p s = [] := by unfold afA; rw [if_neg hn]
      have eB : afB p s = s := by unfold afB; rw [if_neg hn, if_neg (fun h => h2 h.2)]
      rw [eA, eB, tf_false hn]
      have hh := h2
      refine enter (md := fun _ => 0) Tryd.func56 (fun hfit hgl => ?_)
      repeat' (first | refine go ?_ | (refine br (fun hc => ?_) (fun hc => ?_) <;> try (exfalso; omega)) | fail)
      all_goals exact .now ⟨rfl, rfl⟩
  · have hn : ¬ AfOk p s := fun h => h1 h.1.1
    have eA : afA p s = [] := by unfold afA; rw [if_neg hn]
    have eB : afB p s = s := by unfold afB; rw [if_neg hn, if_neg (fun h => h1 h.1)]
    rw [eA, eB, tf_false hn]
    refine enter (md := fun _ => 0) Tryd.func56 (fun hfit hgl => ?_)
    repeat' (first | refine go ?_ | (refine br (fun hc => ?_) (fun hc => ?_) <;> try (exfalso; omega)) | fail)
    all_goals exact .now ⟨rfl, rfl⟩

end Go.Ab.Tryd
namespace Go.Ab.Tryd
open Go Go.Ab Go.Proofs
attribute [local irreducible] W Wl Wop TrA WSeq WLoopS FPost DPost RPost WRound DK onEnd
attribute [local irreducible] rfN rfS1 rfS2 rfFro rfS3 rfAt rfS4 tkF repS chkE aheadS
attribute [local simp] belowL_bytesAV belowL_strsM belowL_appM
variable {n0 : Nat} {w0 : World} {gl : Nat → List AV} {H : List AO}

unseal rfN rfS1 rfS2 rfFro rfS3 rfAt rfS4 in
theorem rf_defs (r : List UInt8) : afA w1 r = rfN r ∧ afB w1 r = rfS1 r ∧ afB (w2 (rfN r)) (rfS1 r) = rfS2 r ∧ afA w3 (rfS2 r) = rfFro r ∧ afB w3 (rfS2 r) = rfS3 r ∧ afA rcvB (rfS3 r) = rfAt r ∧ afB rcvB (rfS3 r) = rfS4 r := ⟨rfl, rfl, rfl, rfl, rfl, rfl, rfl⟩
unseal tkF in
theorem tkF_zero (s : List UInt8) : tkF s 0 = ([], s) := rfl

theorem rread_t [ht : Tab10 n0 w0] (r : List UInt8) (hr : r.length ≤ 10000) : AEnter (env n0 w0 gl) 15 [.sl r.length (bytesAV r) .ro] H (fun y H' => y = .ret (mmV r) ∧ H' = H) := by
  obtain ⟨d1, d2, d3, d4, d5, d6, d7⟩ := rf_defs r
  have hl1 : (rfN r).length ≤ 10000 ∧ (rfS1 r).length ≤ 10000 := by rw [← d1, ← d2]; have := afA_len w1 r; have := afB_len w1 r; omega
  have hl2 : (rfS2 r).length ≤ 10000 := by rw [← d3]; have := afB_len (w2 (rfN r)) (rfS1 r); omega
  have hl3 : (rfFro r).length ≤ 10000 ∧ (rfS3 r).length ≤ 10000 := by rw [← d4, ← d5]; have := afA_len w3 (rfS2 r); have := afB_len w3 (rfS2 r); omega
  have hl4 : (rfAt r).length ≤ 10000 ∧ (rfS4 r).length ≤ 10000 := by rw [← d6, ← d7]; have := afA_len rcvB (rfS3 r); have := afB_len rcvB (rfS3 r); omega
  have hw2 : (w2 (rfN r)).length ≤ 10004 := by unfold w2; simp; omega
  have a1 : ∀ H, Ctr (env n0 w0 gl) 56 [.str r, .str [77, 73, 77, 69, 45, 86, 101, 114, 115, 105, 111, 110, 58, 32, 49, 46, 48, 13, 10, 67, 111, 110, 116, 101, 110, 116, 45, 84, 121, 112, 101, 58, 32, 109, 117, 108, 116, 105, 112, 97, 114, 116, 47, 109, 105, 120, 101, 100, 59, 32, 98, 111, 117, 110, 100, 97, 114, 121, 61]] H True (.tup [.str (rfN r), .str (rfS1 r), .bool (tf (AfOk w1 r))]) H := fun H => ⟨fun _ => by
    have := (after_t (n0 := n0) (w0 := w0) (gl := gl) (H := H) r w1).call ⟨by omega, by decide⟩
    rwa [d1, d2] at this⟩
  have a2 : ∀ H, Ctr (env n0 w0 gl) 56 [.str (rfS1 r), .str (13 :: 10 :: 45 :: 45 :: rfN r)] H True (.tup [.str (afA (w2 (rfN r)) (rfS1 r)), .str (rfS2 r), .bool (tf (AfOk (w2 (rfN r)) (rfS1 r)))]) H := fun H => ⟨fun _ => by
    have := (after_t (n0 := n0) (w0 := w0) (gl := gl) (H := H) (rfS1 r) (w2 (rfN r))).call ⟨by omega, by omega⟩
    rwa [d3] at this⟩
  have a3 : ∀ H, Ctr (env n0 w0 gl) 56 [.str (rfS2 r), .str [67, 111, 110, 116, 101, 110, 116, 45, 84, 121, 112, 101, 58, 32, 116, 101, 120, 116, 47, 112, 108, 97, 105, 110, 13, 10, 13, 10, 83, 101, 110, 100, 101, 114, 58, 32]] H True (.tup [.str (rfFro r), .str (rfS3 r), .bool (tf (AfOk w3 (rfS2 r)))]) H := fun H => ⟨fun _ => by
    have := (after_t (n0 := n0) (w0 := w0) (gl := gl) (H := H) (rfS2 r) w3).call ⟨by omega, by decide⟩
    rwa [d4, d5] at this⟩
  have a4 : ∀ H, Ctr (env n0 w0 gl) 56 [.str (rfS3 r), .str [82, 101, 99, 101, 105, 118, 101, 100, 58, 32]] H True (.tup [.str (rfAt r), .str (rfS4 r), .bool (tf (AfOk rcvB (rfS3 r)))]) H := fun H => ⟨fun _ => by
    have := (after_t (n0 := n0) (w0 := w0) (gl := gl) (H := H) (rfS3 r) rcvB).call ⟨by omega, by decide⟩
    rwa [d6, d7] at this⟩
  have hnb : ∀ H, Ctr (env n0 w0 gl) 43 [.str (rfAt r)] H True (.tup [.int .i64 (numN (rfAt r)), .bool (numB (rfAt r))]) H := fun H => ⟨fun _ => by
    have := (number_t (n0 := n0) (w0 := w0) (gl := gl) (H := H) (rfAt r)).call (by omega)
    rwa [numV_eq] at this⟩
  have hnone : (∀ m, ¬ MmIs r m) → mmV r = .tup [.agg [.str [], .sl 0 [] .full, .int .i64 0], .sl 0 [] .full, .int .i64 110] := fun h => by
    unfold mmV; rw [mmM_none h]
  have hab : 0 ≤ numN (rfAt r) ∧ numN (rfAt r) ≤ 9223372036854775807 := by
    unfold numN
    split
    · rename_i hf; have := hf.2; omega
    · omega
  by_cases o1 : AfOk w1 r
  rotate_left 1
  · rw [tf_false o1] at a1
    rw [hnone fun m h => o1 (rf_is h).o1]
    refine enter (md := fun _ => 0) Tryd.func15 (fun hfit hgl => ?_)
    repeat' (first | refine go ?_ | (refine br (fun hc => ?_) (fun hc => ?_) <;> try (exfalso; omega)) | fail)
    all_goals exact .junkd ⟨rfl, rfl⟩
  rw [tf_true o1] at a1
  by_cases o2 : AfOk (w2 (rfN r)) (rfS1 r)
  rotate_left 1
  · rw [tf_false o2] at a2
    rw [hnone fun m h => o2 (rf_is h).o2]
    refine enter (md := fun _ => 0) Tryd.func15 (fun hfit hgl => ?_)
    repeat' (first | refine go ?_ | (refine br (fun hc => ?_) (fun hc => ?_) <;> try (exfalso; omega)) | fail)
    all_goals exact .junkd ⟨rfl, rfl⟩
  rw [tf_true o2] at a2
  by_cases o3 : AfOk w3 (rfS2 r)
  rotate_left 1
  · rw [tf_false o3] at a3
    rw [hnone fun m h => o3 (rf_is h).o3]
    refine enter (md := fun _ => 0) Tryd.func15 (fun hfit hgl => ?_)
    repeat' (first | refine go ?_ | (refine br (fun hc => ?_) (fun hc => ?_) <;> try (exfalso; omega)) | fail)
    all_goals exact .junkd ⟨rfl, rfl⟩
  rw [tf_true o3] at a3
  generalize hv4 : tf (AfOk rcvB (rfS3 r)) = v4 at a4
  have hv4' : v4 = true ∨ ∀ m, ¬ MmIs r m := by
    by_cases o4 : AfOk rcvB (rfS3 r)
    · left; rw [← hv4]; exact tf_true o4
    · right; exact fun m h => o4 (rf_is h).o4
  generalize hAN : numN (rfAt r) = a at *
  generalize numB (rfAt r) = nb at *
  refine enter (md := fun _ => 0) Tryd.func15 (fun hfit hgl => ?_)
  repeat' (first | refine go ?_ | (refine br (fun hc => ?_) (fun hc => ?_) <;> try (exfalso; omega)) | fail)
  refine loop (fun i : List (List UInt8) × List UInt8 × Bool => (.sl r.length (bytesAV r) .ro :: .top :: .ref H.length 0 :: .sl 0 [] .full :: .int .i64 0 :: .ref (H.length + 1) 0 :: .str (rfN r) :: .str i.2.1 :: .bool i.2.2 :: .top :: .top :: .top :: .top :: .top :: .top :: .top :: .top :: .top :: .top :: .top :: .top :: .top :: .top :: .top :: .top :: .top :: .top :: .top :: .top :: .top :: .top :: .top :: .top :: .top :: .top :: .top :: .top :: .top :: .top :: .top :: .top :: .top :: .top :: .top :: .top :: .top :: .top :: .top :: .top :: .top :: .top :: .top :: .top :: .top :: .top :: .top :: .top :: .top :: .top :: .top :: .top :: .top :: .top :: .top :: .top :: .top :: .top :: .top :: .top :: .top :: .top :: .top :: .top :: .top :: .top :: .top :: .top :: .top :: .top :: .top :: .top :: .top :: .top :: .top :: .top :: .top :: .top :: .top :: .top :: .top :: .top :: .top :: .top :: .top :: .top :: .top :: .top :: .top :: .top :: .top :: .top :: .top :: .top :: .top :: .top :: .top :: .top :: .top :: .top :: .top :: .top :: .top :: .top :: .top :: .top :: .top :: .top :: .top :: .top :: .top :: []))
    (fun i => H ++ ([.cells [.str [], .sl 0 [] .full, .int .i64 0], .cells [.str (rfFro r), rcV i.1 (H.length + 2), .int .i64 a]] ++ rcT i.1))
    (fun i => i.2.1.length ≤ 10000 ∧ i.1.length ≤ 100 ∧ (∀ x ∈ i.1, x.length ≤ 10000) ∧ ((i.2.2 = true ∧ tkF (rfS4 r) i.1.length = (i.1, i.2.1)) ∨ (i.2.2 = false ∧ ((∀ m, ¬ MmIs r m) ∨ (tkF (rfS4 r) 101).1 = i.1)))) (fun i => if i.2.2 then 102 - i.1.length else 0) ([], rfS4 r, v4) ⟨hl4.2, by simp, by simp, by
      cases v4 with
      | true => left; exact ⟨rfl, tkF_zero _⟩
      | false => right; exact ⟨rfl, .inl (hv4'.resolve_left (by simp))⟩⟩ ?_
  rintro ⟨l, s, v⟩ ⟨hs, hl, hall, hinv⟩
  simp only at hs hl hall hinv ⊢
  have hal := afA_len rcpB s
  have hbl := afB_len rcpB s
  have ha5 : ∀ H, Ctr (env n0 w0 gl) 56 [.str s, .str [82, 101, 99, 105, 112, 105, 101, 110, 116, 58, 32]] H True (.tup [.str (afA rcpB s), .str (afB rcpB s), .bool (tf (AfOk rcpB s))]) H := fun H => ⟨fun _ =>
    (after_t (n0 := n0) (w0 := w0) (gl := gl) (H := H) s rcpB).call ⟨by omega, by decide⟩⟩
  have hcase : (v = false ∧ ((∀ m, ¬ MmIs r m) ∨ (tkF (rfS4 r) 101).1 = l)) ∨ (v = true ∧ tkF (rfS4 r) l.length = (l, s) ∧ AfOk rcpB s ∧ l.length = 100) ∨ (v = true ∧ tkF (rfS4 r) l.length = (l, s) ∧ AfOk rcpB s ∧ l.length < 100) ∨ (v = true ∧ tkF (rfS4 r) l.length = (l, s) ∧ ¬ AfOk rcpB s) := by
    rcases hinv with ⟨h1, h2⟩ | h
    · right
      by_cases h3 : AfOk rcpB s
      · by_cases h4 : l.length = 100
        · exact .inl ⟨h1, h2, h3, h4⟩
        · exact .inr (.inl ⟨h1, h2, h3, by omega⟩)
      · exact .inr (.inr ⟨h1, h2, h3⟩)
    · exact .inl h
  have hx0 : (afA rcpB s).length ≤ 10000 := by omega
  have hT2 : AfOk rcpB s → tkF (rfS4 r) l.length = (l, s) → tkF (rfS4 r) (l.length + 1) = (l ++ [afA rcpB s], afB rcpB s) := fun h1 h2 => by
    rw [tkF_go (by rw [h2]; exact h1), h2]
  rcases hcase with ⟨rfl, hL⟩ | ⟨rfl, hT, hok, h100⟩ | ⟨rfl, hT, hok, h100⟩ | ⟨rfl, hT, hok⟩
  rotate_left 2
  · rw [tf_true hok] at ha5
    have hT3 := hT2 hok hT
    rcases l with _ | ⟨x, l⟩
    · simp only [rcV, rcT, List.append_nil]
      repeat' (first | refine go ?_ | (refine br (fun hc => ?_) (fun hc => ?_) <;> try (exfalso; omega)) | fail)
      exact again ([afA rcpB s], afB rcpB s, true) ⟨by simp only; omega, by simp, fun y hy => by simp only [List.mem_singleton] at hy; rw [hy]; exact hx0, .inl ⟨rfl, hT3⟩⟩ (by simp)
    · simp only [rcV, rcT, List.cons_append, List.nil_append]
      simp only [List.length_cons] at h100
      have hml : (l.map AV.str).length = l.length := List.length_map ..
      have hh := And.intro hml hml
      repeat' (first | refine go ?_ | (refine br (fun hc => ?_) (fun hc => ?_) <;> try (exfalso; omega)) | fail)
      refine againJ (x :: (l ++ [afA rcpB s]), afB rcpB s, true) ⟨by simp only; omega, by simp; omega, fun y hy => by
        rcases List.mem_cons.1 hy with h | h
        · exact hall y (by rw [h]; simp)
        · rcases List.mem_append.1 h with h | h
          · exact hall y (List.mem_cons_of_mem _ h)
          · rw [List.mem_singleton.1 h]; exact hx0, .inl ⟨rfl, by simpa using hT3⟩⟩ (by simp; omega) [] ?_
      simp
  · rw [tf_false hok] at ha5
    have hfin : (tkF (rfS4 r) 101).1 = l := by
      have := tkF_stuck (s := rfS4 r) (i := l.length) (by rw [hT]; exact hok) (101 - l.length)
      rw [show l.length + (101 - l.length) = 101 by omega, hT] at this
      rw [this]
    rcases l with _ | ⟨x, l⟩
    · simp only [rcV, rcT, List.append_nil]
      repeat' (first | refine go ?_ | (refine br (fun hc => ?_) (fun hc => ?_) <;> try (exfalso; omega)) | fail)
      exact again ([], afB rcpB s, false) ⟨by simp only; omega, by simp, by simp, .inr ⟨rfl, .inr hfin⟩⟩ (by simp)
    · simp only [rcV, rcT, List.cons_append, List.nil_append]
      have hml : (l.map AV.str).length = l.length := List.length_map ..
      simp only [List.length_cons] at hl
      have hh := And.intro hml hml
      repeat' (first | refine go ?_ | (refine br (fun hc => ?_) (fun hc => ?_) <;> try (exfalso; omega)) | fail)
      exact again (x :: l, afB rcpB s, false) ⟨by simp only; omega, by simp; omega, hall, .inr ⟨rfl, .inr hfin⟩⟩ (by simp; omega)
  case' inl =>
    have hfin : ∃ L, ((∀ m, ¬ MmIs r m) ∨ (tkF (rfS4 r) 101).1 = L) ∧ L.length ≤ 101 ∧ (∀ x ∈ L, x.length ≤ 10000) ∧ L = l := ⟨l, hL, by omega, hall, rfl⟩
    obtain ⟨L, hL1, hL2, hL3, hLl⟩ := hfin
    simp only [List.cons_append, List.nil_append]
    refine gos ?_
    refine wseq_normal ?_
    refine gos ?_
    refine wseq_shift (Shift.cells (H.length + 1) (xs := [.str (rfFro r), rcV l (H.length + 2), .int .i64 a]) (ys := [.str (rfFro r), .sl L.length (L.map .str) .ro, .int .i64 a]) (by simp) rfl (fun g k c q => by
      match k, q with
      | 0, q => exact q
      | 1, q => rw [hLl]; exact rcV_ro q
      | 2, q => exact q
      | k + 3, q => exact q)) ?_
    rw [show ∀ (x y b0 : AO) (z : List AO), (H ++ b0 :: x :: z).set (H.length + 1) y = H ++ b0 :: y :: z from fun _ _ _ _ => by simp]
    clear hinv
  case' inr.inl =>
    rw [tf_true hok] at ha5
    have hT3 := hT2 hok hT
    obtain ⟨x, l, rfl⟩ : ∃ x l', l = x :: l' := by
      cases l with
      | nil => simp at h100
      | cons x l => exact ⟨x, l, rfl⟩
    simp only [rcV, rcT, List.cons_append, List.nil_append]
    simp only [List.length_cons] at h100
    have hml : (l.map AV.str).length = l.length := List.length_map ..
    have hh := And.intro hml hml
    refine gos ?_
    refine wseq_normal ?_
    refine gos ?_
    refine wseq_normal ?_
    refine gos ?_
    refine wseq_normal ?_
    refine gos ?_
    refine wseq_normal ?_
    refine gos ?_
    refine wseq_normal ?_
    refine gos ?_
    refine wseq_normal ?_
    refine gos ?_
    refine wseq_normal ?_
    refine gos ?_
    obtain ⟨L, hLe⟩ : ∃ L, L = x :: (l ++ [afA rcpB s]) := ⟨_, rfl⟩
    have hL1 : (∀ m, ¬ MmIs r m) ∨ (tkF (rfS4 r) 101).1 = L := .inr (by
      rw [show (101 : Nat) = (x :: l).length + 1 by simp; omega, hT3, hLe]; simp)
    have hL2 : L.length ≤ 101 := by rw [hLe]; simp; omega
    have hL3 : ∀ y ∈ L, y.length ≤ 10000 := fun y hy => by
      rw [hLe] at hy
      rcases List.mem_cons.1 hy with h | h
      · exact hall y (by rw [h]; simp)
      · rcases List.mem_append.1 h with h | h
        · exact hall y (List.mem_cons_of_mem _ h)
        · rw [List.mem_singleton.1 h]; exact hx0
    have hq1 : L.length = l.length + 2 := by rw [hLe]; simp
    have hq2 : L.map AV.str = .str x :: (l.map .str ++ [.str (afA rcpB s)]) := by rw [hLe]; simp
    refine wseq_shift (Shift.cells (H.length + 1) (xs := [.str (rfFro r), .sl (l.length + 2) (.str x :: (l.map .str ++ [.str (afA rcpB s)])) (.at (H.length + 2) (l.length + 2)), .int .i64 a]) (ys := [.str (rfFro r), .sl L.length (L.map .str) .ro, .int .i64 a]) (by simp) rfl (fun g k c q => by
      match k, q with
      | 0, q => exact q
      | 1, q =>
        rw [hq1, hq2]
        exact sl_ro g _ q
      | 2, q => exact q
      | k + 3, q => exact q)) ?_
    rw [show ∀ (x y b0 : AO) (z : List AO), (H ++ b0 :: x :: z).set (H.length + 1) y = H ++ b0 :: y :: z from fun _ _ _ _ => by simp]
    clear hh hml
  all_goals
    have hES : EnvSmall (rfFro r) L a := ⟨by omega, by omega, fun x hx => by have := hL3 x hx; omega, by omega, hab.2⟩
    have hal2 := aheadS_len hES (n := rfN r) (by omega)
    have hah : ∀ H, Ctr (env n0 w0 gl) 57 [.agg [.str (rfFro r), .sl L.length (L.map .str) .ro, .int .i64 a], .str (rfN r)] H True (.str (aheadS (rfFro r) L a (rfN r))) H := fun H => .of fun _ => head11_e (rfFro r) L a (rfN r) .ro hES (by omega) (.inl rfl)
    have htl : (13 :: 10 :: 45 :: 45 :: (rfN r ++ [45, 45, 13, 10])) = tailS (rfN r) := by unfold tailS; simp
    have htl2 : (tailS (rfN r)).length = (rfN r).length + 8 := by unfold tailS; simp
    have hmm : ∀ m, MmIs r m → m.fro = rfFro r ∧ m.to = L ∧ m.a = a ∧ bdS m.b = rfN r := fun m h => by
      have q := rf_is h
      refine ⟨q.fro.symm, ?_, by rw [← q.at_, hAN], q.n.symm⟩
      rcases hL1 with h1 | h1
      · exact absurd h (h1 m)
      · rw [← h1, q.to.1]; exact q.to.2.symm
    have hcutm : ∀ m, MmIs r m → (aheadS (rfFro r) L a (rfN r)).length + (tailS (rfN r)).length ≤ r.length ∧ (r.take (r.length - (tailS (rfN r)).length)).drop (aheadS (rfFro r) L a (rfN r)).length = m.b := fun m h => by
      obtain ⟨k1, k2, k3, k4⟩ := hmm m h
      have := rep_cut h.2.2
      rwa [k1, k2, k3, k4] at this
    generalize hA : (aheadS (rfFro r) L a (rfN r)) = A at *
    have hml : (L.map AV.str).length = L.length := List.length_map ..
    by_cases hlen : A.length + (tailS (rfN r)).length ≤ r.length
    · generalize hbd : (r.take (r.length - (tailS (rfN r)).length)).drop A.length = bd at *
      have hbl : bd.length = r.length - (tailS (rfN r)).length - A.length := by rw [← hbd, List.length_drop, List.length_take]; omega
      have hbA : bytesAV bd = List.drop A.length (List.take (r.length - (tailS (rfN r)).length) (bytesAV r)) := by rw [← hbd]; simp [bytesAV]
      rw [htl2] at hbl hbA
      have hrep : ∀ H tok, Ctr (env n0 w0 gl) 58 [.agg [.str (rfFro r), .sl L.length (L.map .str) .ro, .int .i64 a], .sl bd.length (bytesAV bd) tok] H True (repV (rfFro r) L a bd) H := fun H tok => ⟨fun _ => by
        have := (report11_e (n0 := n0) (w0 := w0) (gl := gl) (H := H) (rfFro r) L a bd (by omega) (by omega) (fun i hi => by
          have := hL3 (L.getD i []) (by rw [List.getD_eq_getElem?_getD, List.getElem?_eq_getElem hi]; exact List.getElem_mem _)
          omega) (by omega) (by omega)).call
        exact this.weaker fun g cs h => rels_env h⟩
      unfold repV at hrep
      by_cases hck : chkE (rfFro r) L a bd.length = 0
      · rw [if_pos hck] at hrep
        by_cases hqr : repS (rfFro r) L a bd = r
        · have hV : mmV r = .tup [.agg [.str (rfFro r), .sl L.length (L.map .str) .ro, .int .i64 a], .sl bd.length (bytesAV bd) .ro, .int .i64 0] := by
            unfold mmV
            rw [mmM_some (m := ⟨rfFro r, L, a, bd⟩) ⟨hab.2, hck, hqr⟩]
          rw [hV]
          rw [hqr] at hrep
          have hh := And.intro hml (And.intro htl2 (And.intro hbl.symm hbA.symm))
          repeat' (first | refine go ?_ | (refine br (fun hc => ?_) (fun hc => ?_) <;> try (exfalso; omega)) | fail)
          refine Out.weak (b := .tup [.agg [.str (rfFro r), .sl L.length (L.map .str) .ro, .int .i64 a], .sl bd.length (bytesAV bd) .ro, .int .i64 0]) (fun g c q => tupW (by rfl) (fun j c q => by
            match j, q with
            | 0, q => exact q
            | 1, q => exact sl_ro g _ q
            | 2, q => exact q
            | j + 3, q => exact q) q) (.junkd ⟨rfl, rfl⟩)
        · rw [hnone fun m h => hqr (by
            obtain ⟨k1, k2, k3, k4⟩ := hmm m h
            have k5 := (hcutm m h).2
            have := h.2.2
            rw [k1, k2, k3, ← k5] at this
            exact this)]
          have hh := And.intro hml (And.intro htl2 (And.intro hbl.symm (And.intro hbA.symm hqr)))
          repeat' (first | refine go ?_ | (refine br (fun hc => ?_) (fun hc => ?_) <;> try (exfalso; omega)) | fail)
          all_goals exact .junkd ⟨rfl, rfl⟩
      · rw [if_neg hck] at hrep
        rw [hnone fun m h => hck (by
          obtain ⟨k1, k2, k3, k4⟩ := hmm m h
          have k5 := (hcutm m h).2
          have := h.2.1
          rw [k1, k2, k3, ← k5] at this
          exact this)]
        generalize chkE (rfFro r) L a bd.length = ck at *
        have hh := And.intro hml (And.intro htl2 (And.intro hbl.symm (And.intro hbA.symm hck)))
        repeat' (first | refine go ?_ | (refine br (fun hc => ?_) (fun hc => ?_) <;> try (exfalso; omega)) | fail)
        all_goals exact .junkd ⟨rfl, rfl⟩
    · rw [hnone fun m h => hlen (hcutm m h).1]
      have hh := And.intro hml htl2
      repeat' (first | refine go ?_ | (refine br (fun hc => ?_) (fun hc => ?_) <;> try (exfalso; omega)) | fail)
      all_goals exact .junkd ⟨rfl, rfl⟩

end Go.Ab.Tryd
