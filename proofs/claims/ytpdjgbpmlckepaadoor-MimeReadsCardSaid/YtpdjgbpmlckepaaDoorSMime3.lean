/- Plain laws: what a report is; a report taken apart as the document does. -/
import Derived.Test.YtpdjgbpmlckepaaDoorSMime2
import Derived.Test.YtpdjgbpmlckepaaDoorSNum2
set_option linter.unusedSimpArgs false
set_option linter.unusedVariables false
set_option maxHeartbeats 2000000
set_option maxRecDepth 4000
namespace Go.Ab.Tryd
open Go Go.Ab Go.Proofs
attribute [local irreducible] rdTo rdBody rdFro rdN tkM restN RdHead repS chkE aheadS

/-- A message and its envelope. -/
structure Mm where
  fro : List UInt8
  to : List (List UInt8)
  a : Int
  b : List UInt8
def MmIs (r : List UInt8) (m : Mm) : Prop := m.a ≤ 9223372036854775807 ∧ chkE m.fro m.to m.a m.b.length = 0 ∧ repS m.fro m.to m.a m.b = r
theorem chkE_zero {fro : List UInt8} {to : List (List UInt8)} {a : Int} {n : Nat} (h : chkE fro to a n = 0) : EnvOk fro to a ∧ to.length ≤ 100 ∧ n ≤ 1000000 := by
  unfold chkE at h
  by_cases he : EnvOk fro to a
  · rw [tf_true he] at h
    by_cases hl : to.length ≤ 100 ∧ n ≤ 1000000
    · exact ⟨he, hl⟩
    · simp [hl] at h
  · rw [tf_false he] at h; simp at h
theorem mm_rd {r : List UInt8} {m : Mm} (h : MmIs r m) : RdOk r m.a ∧ m = ⟨rdFro r, rdTo r, m.a, rdBody r m.a⟩ := by
  obtain ⟨h1, h2, h3⟩ := h
  obtain ⟨e1, e2, e3⟩ := chkE_zero h2
  obtain ⟨k1, k2, k3, k4⟩ := rd_rep e1 e2 e3 h1
  rw [h3] at k1 k2 k3 k4
  refine ⟨k1, ?_⟩
  rw [k2, k3, k4]
theorem rd_mm {r : List UInt8} {a : Int} (h : RdOk r a) (ha : a ≤ 9223372036854775807) : MmIs r ⟨rdFro r, rdTo r, a, rdBody r a⟩ := by
  obtain ⟨_, _, _, _, h5, h6⟩ := h
  exact ⟨ha, h5, h6⟩
theorem mm_inj {r : List UInt8} {m n : Mm} (h : MmIs r m) (k : MmIs r n) : m = n := by
  obtain ⟨h1, h2⟩ := mm_rd h
  obtain ⟨k1, k2⟩ := mm_rd k
  have e1 := h1.2.1
  rw [k1.2.1] at e1
  injection e1 with e1
  rw [h2, k2, e1]
open Classical in
noncomputable def mmM (r : List UInt8) : Option Mm := if h : ∃ m, MmIs r m then some h.choose else none
theorem mmM_some {r : List UInt8} {m : Mm} (h : MmIs r m) : mmM r = some m := by
  have hx : ∃ m, MmIs r m := ⟨m, h⟩
  unfold mmM; rw [dif_pos hx, mm_inj hx.choose_spec h]
theorem mmM_none {r : List UInt8} (h : ∀ m, ¬ MmIs r m) : mmM r = none := by unfold mmM; rw [dif_neg (fun ⟨m, hm⟩ => h m hm)]
theorem mmM_of {r : List UInt8} {m : Mm} (h : mmM r = some m) : MmIs r m := by
  unfold mmM at h
  split at h
  · rename_i hx; injection h with h; rw [← h]; exact hx.choose_spec
  · simp at h
noncomputable def mmV (r : List UInt8) : AV := match mmM r with
  | some m => .tup [.agg [.str m.fro, .sl m.to.length (m.to.map .str) .ro, .int .i64 m.a], .sl m.b.length (bytesAV m.b) .ro, .int .i64 0]
  | none => .tup [.agg [.str [], .sl 0 [] .full, .int .i64 0], .sl 0 [] .full, .int .i64 110]

/-- What stands behind a text up to a line's end. -/
def AfOk (p s : List UInt8) : Prop := PrefOk p s ∧ LineOk (s.drop p.length)
instance (s : List UInt8) : Decidable (LineOk s) := inferInstanceAs (Decidable (_ ≠ _))
instance (p s : List UInt8) : Decidable (AfOk p s) := inferInstanceAs (Decidable (_ ∧ _))
def afA (p s : List UInt8) : List UInt8 := if AfOk p s then lineA (s.drop p.length) else []
def afB (p s : List UInt8) : List UInt8 := if AfOk p s then lineB (s.drop p.length) else if PrefOk p s then s.drop p.length else s
theorem afA_len (p s : List UInt8) : (afA p s).length ≤ s.length := by
  unfold afA
  split
  · have := lineA_len (s.drop p.length); rw [List.length_drop] at this; omega
  · exact Nat.zero_le _
theorem afB_len (p s : List UInt8) : (afB p s).length ≤ s.length := by
  unfold afB
  split
  · have := lineB_len (s.drop p.length); rw [List.length_drop] at this; omega
  · split
    · rw [List.length_drop]; omega
    · exact Nat.le_refl _
theorem af_app (p : List UInt8) {x y : List UInt8} (h : 13 ∉ x) : AfOk p (p ++ (x ++ (13 :: 10 :: y))) ∧ afA p (p ++ (x ++ (13 :: 10 :: y))) = x ∧ afB p (p ++ (x ++ (13 :: 10 :: y))) = y := by
  obtain ⟨o, a, b⟩ := line_of (crlf_line (y := y) h)
  have hp := (pref_app p (x ++ (13 :: 10 :: y))).1
  have hd : (p ++ (x ++ (13 :: 10 :: y))).drop p.length = x ++ (13 :: 10 :: y) := List.drop_left
  have hk : AfOk p (p ++ (x ++ (13 :: 10 :: y))) := ⟨hp, by rw [hd]; exact o⟩
  refine ⟨hk, ?_, ?_⟩
  · unfold afA; rw [if_pos hk, hd, a]
  · unfold afB; rw [if_pos hk, hd, b]
def w1 : List UInt8 := [77, 73, 77, 69, 45, 86, 101, 114, 115, 105, 111, 110, 58, 32, 49, 46, 48, 13, 10] ++ ctB
def w2 (n : List UInt8) : List UInt8 := 13 :: 10 :: 45 :: 45 :: n
def w3 : List UInt8 := [67, 111, 110, 116, 101, 110, 116, 45, 84, 121, 112, 101, 58, 32, 116, 101, 120, 116, 47, 112, 108, 97, 105, 110, 13, 10, 13, 10, 83, 101, 110, 100, 101, 114, 58, 32]
def rfN (r : List UInt8) : List UInt8 := afA w1 r
def rfS1 (r : List UInt8) : List UInt8 := afB w1 r
def rfS2 (r : List UInt8) : List UInt8 := afB (w2 (rfN r)) (rfS1 r)
def rfFro (r : List UInt8) : List UInt8 := afA w3 (rfS2 r)
def rfS3 (r : List UInt8) : List UInt8 := afB w3 (rfS2 r)
def rfAt (r : List UInt8) : List UInt8 := afA rcvB (rfS3 r)
def rfS4 (r : List UInt8) : List UInt8 := afB rcvB (rfS3 r)
def tkF (s : List UInt8) : Nat → List (List UInt8) × List UInt8
  | 0 => ([], s)
  | i + 1 => if AfOk rcpB (tkF s i).2 then ((tkF s i).1 ++ [afA rcpB (tkF s i).2], afB rcpB (tkF s i).2) else tkF s i
theorem tkF_stuck {s : List UInt8} {i : Nat} (h : ¬ AfOk rcpB (tkF s i).2) : ∀ j, tkF s (i + j) = tkF s i
  | 0 => rfl
  | j + 1 => by
    have ih := tkF_stuck h j
    rw [← Nat.add_assoc]
    simp only [tkF, ih, if_neg h]
theorem tkF_go {s : List UInt8} {i : Nat} (h : AfOk rcpB (tkF s i).2) : tkF s (i + 1) = ((tkF s i).1 ++ [afA rcpB (tkF s i).2], afB rcpB (tkF s i).2) := by simp only [tkF, if_pos h]
theorem tkF_len (s : List UInt8) : ∀ i, (tkF s i).2.length ≤ s.length ∧ (tkF s i).1.length ≤ i ∧ ∀ x ∈ (tkF s i).1, x.length ≤ s.length
  | 0 => ⟨Nat.le_refl _, Nat.le_refl _, fun x hx => by simp [tkF] at hx⟩
  | i + 1 => by
    obtain ⟨h1, h2, h3⟩ := tkF_len s i
    simp only [tkF]
    split
    · have ha := afA_len rcpB (tkF s i).2
      have hb := afB_len rcpB (tkF s i).2
      refine ⟨by simp only; omega, by simp only [List.length_append, List.length_cons, List.length_nil]; omega, fun x hx => ?_⟩
      rcases List.mem_append.1 hx with h | h
      · exact h3 x h
      · simp only [List.mem_singleton] at h; subst h; omega
    · exact ⟨h1, by omega, h3⟩
/-- What the document finds in a report that is made. -/
structure RfIs (r : List UInt8) (m : Mm) : Prop where
  o1 : AfOk w1 r
  n : rfN r = bdS m.b
  o2 : AfOk (w2 (rfN r)) (rfS1 r)
  o3 : AfOk w3 (rfS2 r)
  fro : rfFro r = m.fro
  o4 : AfOk rcvB (rfS3 r)
  at_ : numN (rfAt r) = m.a
  to : tkF (rfS4 r) 101 = tkF (rfS4 r) m.to.length ∧ (tkF (rfS4 r) m.to.length).1 = m.to
theorem tkF_show (z : List UInt8) (m : List (List UInt8)) : ∀ (to : List (List UInt8)), (∀ x ∈ to, 13 ∉ x) → ∀ i, i ≤ to.length → tkF (linesB (to.map rcptL ++ m) ++ z) i = (to.take i, linesB ((to.drop i).map rcptL ++ m) ++ z) := by
  intro to hto i
  induction i with
  | zero => intro _; simp [tkF]
  | succ i ih =>
    intro hi
    have ih := ih (by omega)
    have hx := hto _ (List.getElem_mem (by omega : i < to.length))
    rw [List.drop_eq_getElem_cons (by omega : i < to.length), List.map_cons, List.cons_append, linesB_cons] at ih
    have e : rcptL to[i] ++ 13 :: 10 :: (linesB ((to.drop (i + 1)).map rcptL ++ m) ++ z) = rcpB ++ (to[i] ++ (13 :: 10 :: (linesB ((to.drop (i + 1)).map rcptL ++ m) ++ z))) := rfl
    rw [e] at ih
    obtain ⟨o, a, b⟩ := af_app rcpB (y := linesB ((to.drop (i + 1)).map rcptL ++ m) ++ z) hx
    rw [tkF_go (by rw [ih]; exact o), ih]
    simp only
    rw [a, b, List.take_succ_eq_append_getElem]
theorem rf_is {r : List UInt8} {m : Mm} (h : MmIs r m) : RfIs r m := by
  obtain ⟨fro, to, a, b⟩ := m
  obtain ⟨h1, h2, h3⟩ := h
  simp only at h1 h2 h3
  obtain ⟨⟨hf, ht, h0, hto⟩, hl, hb⟩ := chkE_zero h2
  have nf : 13 ∉ fro := by
    rcases hf with h | h
    · rw [List.length_eq_zero_iff.1 h]; simp
    · exact seen_no13 (mailbox_seen h)
  have nt : ∀ x ∈ to, 13 ∉ x := fun x hx => by
    obtain ⟨i, hi, rfl⟩ := List.getElem_of_mem hx
    have := hto i hi
    rw [List.getD_eq_getElem?_getD, List.getElem?_eq_getElem hi] at this
    exact seen_no13 (mailbox_seen this)
  have nb := bdS_no13 b
  have na := digs_no13 h0
  generalize hz : b ++ ([13, 10, 45, 45] ++ (bdS b ++ [45, 45, 13, 10])) = z
  have hr : r = linesB (aheadA fro a (bdS b)) ++ (linesB (to.map rcptL ++ aheadB (bdS b)) ++ z) := by
    rw [← h3]
    unfold repS aheadS aheadL; rw [hz, linesB_app, List.append_assoc]
  generalize hy : linesB (to.map rcptL ++ aheadB (bdS b)) ++ z = y4 at hr
  have e0 : r = w1 ++ (bdS b ++ (13 :: 10 :: (w2 (bdS b) ++ ([] ++ (13 :: 10 :: (w3 ++ (fro ++ (13 :: 10 :: (rcvB ++ (Lib.itoa a ++ (13 :: 10 :: y4))))))))))) := by
    rw [hr]; simp [linesB, aheadA, w1, w2, w3, ctB, rcvB]
  obtain ⟨p1, p2, p3⟩ := af_app w1 (x := bdS b) (y := w2 (bdS b) ++ ([] ++ (13 :: 10 :: (w3 ++ (fro ++ (13 :: 10 :: (rcvB ++ (Lib.itoa a ++ (13 :: 10 :: y4))))))))) nb
  rw [← e0] at p1 p2 p3
  have e1 : rfS1 r = w2 (bdS b) ++ ([] ++ (13 :: 10 :: (w3 ++ (fro ++ (13 :: 10 :: (rcvB ++ (Lib.itoa a ++ (13 :: 10 :: y4)))))))) := p3
  have en : rfN r = bdS b := p2
  obtain ⟨q1, _, q3⟩ := af_app (w2 (bdS b)) (x := []) (y := w3 ++ (fro ++ (13 :: 10 :: (rcvB ++ (Lib.itoa a ++ (13 :: 10 :: y4)))))) (by simp)
  rw [← e1] at q1 q3
  have e2 : rfS2 r = w3 ++ (fro ++ (13 :: 10 :: (rcvB ++ (Lib.itoa a ++ (13 :: 10 :: y4))))) := by unfold rfS2; rw [en]; exact q3
  obtain ⟨s1, s2, s3⟩ := af_app w3 (x := fro) (y := rcvB ++ (Lib.itoa a ++ (13 :: 10 :: y4))) nf
  rw [← e2] at s1 s2 s3
  have e3 : rfS3 r = rcvB ++ (Lib.itoa a ++ (13 :: 10 :: y4)) := s3
  obtain ⟨t1, t2, t3⟩ := af_app rcvB (x := Lib.itoa a) (y := y4) na
  rw [← e3] at t1 t2 t3
  have e4 : rfS4 r = y4 := t3
  have hn := numOk_itoa h0 h1
  have hT := tkF_show z (aheadB (bdS b)) to nt to.length (Nat.le_refl _)
  rw [List.take_length, List.drop_length, List.map_nil, List.nil_append, hy] at hT
  refine ⟨p1, en, by rw [en]; exact q1, s1, s2, t1, ?_, ?_, ?_⟩
  · show numN (rfAt r) = a
    rw [show rfAt r = Lib.itoa a from t2]
    unfold numN; rw [if_pos hn.1.1]; exact hn.2
  · simp only
    rw [e4]
    have := tkF_stuck (s := y4) (i := to.length) (by
      rw [hT]
      rintro ⟨h, _⟩
      have h2 : PrefOk rcpB (45 :: 45 :: (bdS b ++ (13 :: 10 :: (linesB [[67, 111, 110, 116, 101, 110, 116, 45, 84, 121, 112, 101, 58, 32, 109, 101, 115, 115, 97, 103, 101, 47, 114, 102, 99, 56, 50, 50], []] ++ z)))) := by
        have e : linesB (aheadB (bdS b)) ++ z = 45 :: 45 :: (bdS b ++ (13 :: 10 :: (linesB [[67, 111, 110, 116, 101, 110, 116, 45, 84, 121, 112, 101, 58, 32, 109, 101, 115, 115, 97, 103, 101, 47, 114, 102, 99, 56, 50, 50], []] ++ z))) := by simp [linesB, aheadB]
        rw [← e]; exact h
      exact not_rcp _ h2) (101 - to.length)
    rwa [show to.length + (101 - to.length) = 101 by omega] at this
  · simp only
    rw [e4, hT]

unseal repS in
/-- Where a message stands in its report. -/
theorem rep_cut {r : List UInt8} {fro : List UInt8} {to : List (List UInt8)} {a : Int} {b : List UInt8} (h : repS fro to a b = r) : (aheadS fro to a (bdS b)).length + (tailS (bdS b)).length ≤ r.length ∧ (r.take (r.length - (tailS (bdS b)).length)).drop (aheadS fro to a (bdS b)).length = b := by
  have h1 : r = (aheadS fro to a (bdS b) ++ b) ++ tailS (bdS b) := by rw [← h]; unfold repS tailS; simp
  clear h
  generalize aheadS fro to a (bdS b) = A at *
  generalize tailS (bdS b) = T at *
  subst h1
  have e : ((A ++ b) ++ T).length - T.length = (A ++ b).length := by simp only [List.length_append]; omega
  refine ⟨by simp only [List.length_append]; omega, ?_⟩
  rw [e, List.take_left]
  simp

end Go.Ab.Tryd
