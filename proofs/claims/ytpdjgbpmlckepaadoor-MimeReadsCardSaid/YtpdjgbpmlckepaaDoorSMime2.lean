/- Plain laws: a report, taken apart as its reader does. -/
import Derived.Test.YtpdjgbpmlckepaaDoorLMime3
import Derived.Test.YtpdjgbpmlckepaaDoorLPref
import Derived.Test.YtpdjgbpmlckepaaDoorSNum
import Derived.Test.YtpdjgbpmlckepaaDoorSBnc
import Derived.Test.YtpdjgbpmlckepaaDoorSHead
set_option linter.unusedSimpArgs false
set_option linter.unusedVariables false
set_option maxHeartbeats 2000000
set_option maxRecDepth 4000
namespace Go.Ab
open Go
/-- The first line, and what stands behind it. -/
def lineA (s : List UInt8) : List UInt8 := match crlfAt s with
  | some (x, _) => x
  | none => []
def lineB (s : List UInt8) : List UInt8 := match crlfAt s with
  | some (_, y) => y
  | none => s
def LineOk (s : List UInt8) : Prop := crlfAt s ≠ none
theorem lineB_len (s : List UInt8) : (lineB s).length ≤ s.length := by
  unfold lineB
  cases h : crlfAt s with
  | none => exact Nat.le_refl _
  | some p => have := crlfAt_len (x := p.1) (y := p.2) (by rw [h]); simp only; omega
theorem lineA_len (s : List UInt8) : (lineA s).length ≤ s.length := by
  unfold lineA
  cases h : crlfAt s with
  | none => exact Nat.zero_le _
  | some p => have := crlfAt_len (x := p.1) (y := p.2) (by rw [h]); simp only; omega
theorem lineB_lt {s : List UInt8} (h : LineOk s) : (lineB s).length + 2 + (lineA s).length = s.length := by
  unfold lineB lineA
  cases h2 : crlfAt s with
  | none => exact absurd h2 h
  | some p => have := crlfAt_len (x := p.1) (y := p.2) (by rw [h2]); simp only; omega
theorem crlf_line : ∀ {x y : List UInt8}, 13 ∉ x → crlfAt (x ++ (13 :: 10 :: y)) = some (x, y)
  | [], y, _ => by simp [crlfAt]
  | c :: x, y, h => by
    simp only [List.mem_cons, not_or] at h
    rw [List.cons_append, crlfAt, if_neg (fun e => h.1 e.1.symm), crlf_line h.2]; rfl
theorem line_of {s x y : List UInt8} (h : crlfAt s = some (x, y)) : LineOk s ∧ lineA s = x ∧ lineB s = y := by
  refine ⟨by unfold LineOk; rw [h]; simp, by unfold lineA; rw [h], by unfold lineB; rw [h]⟩
end Go.Ab
namespace Go.Ab.Tryd
open Go Go.Ab Go.Proofs

def PrefOk (p s : List UInt8) : Prop := p.length ≤ s.length ∧ s.take p.length = p
instance (p s : List UInt8) : Decidable (PrefOk p s) := inferInstanceAs (Decidable (_ ∧ _))
def prefA (p s : List UInt8) : List UInt8 := if PrefOk p s then s.drop p.length else s
theorem prefA_len (p s : List UInt8) : (prefA p s).length ≤ s.length := by unfold prefA; split <;> simp
theorem pref_app (p s : List UInt8) : PrefOk p (p ++ s) ∧ prefA p (p ++ s) = s := by
  have h : PrefOk p (p ++ s) := ⟨by simp, by simp⟩
  exact ⟨h, by unfold prefA; rw [if_pos h]; simp⟩
theorem prefV_eq (p s : List UInt8) : prefV p s = .tup [.str (prefA p s), .bool (tf (PrefOk p s))] := by
  unfold prefV prefR prefA
  by_cases h : PrefOk p s
  · rw [if_pos h, tf_true h]
    have h' : p.length ≤ s.length ∧ s.take p.length = p := h
    rw [if_pos h']
  · rw [if_neg h, tf_false h]
    have h' : ¬ (p.length ≤ s.length ∧ s.take p.length = p) := h
    rw [if_neg h']

/-- What stands ahead in the lines that are read. -/
def ctB : List UInt8 := [67, 111, 110, 116, 101, 110, 116, 45, 84, 121, 112, 101, 58, 32, 109, 117, 108, 116, 105, 112, 97, 114, 116, 47, 109, 105, 120, 101, 100, 59, 32, 98, 111, 117, 110, 100, 97, 114, 121, 61]
def sndB : List UInt8 := [83, 101, 110, 100, 101, 114, 58, 32]
def rcvB : List UInt8 := [82, 101, 99, 101, 105, 118, 101, 100, 58, 32]
def rcpB : List UInt8 := [82, 101, 99, 105, 112, 105, 101, 110, 116, 58, 32]
/-- The rest behind some lines. -/
def restN : Nat → List UInt8 → List UInt8
  | 0, r => r
  | k + 1, r => lineB (restN k r)
theorem restN_len : ∀ (k : Nat) (r : List UInt8), (restN k r).length ≤ r.length
  | 0, r => Nat.le_refl _
  | k + 1, r => Nat.le_trans (lineB_len _) (restN_len k r)
def rdN (r : List UInt8) : List UInt8 := prefA ctB (lineA (restN 1 r))
def rdFro (r : List UInt8) : List UInt8 := prefA sndB (lineA (restN 6 r))
def rdWhen (r : List UInt8) : List UInt8 := prefA rcvB (lineA (restN 7 r))
/-- Recipients, line by line. -/
def tkM (s : List UInt8) : Nat → List (List UInt8) × List UInt8
  | 0 => ([], s)
  | i + 1 => if PrefOk rcpB (lineA (tkM s i).2) then ((tkM s i).1 ++ [prefA rcpB (lineA (tkM s i).2)], lineB (tkM s i).2) else tkM s i
theorem tkM_stuck {s : List UInt8} {i : Nat} (h : ¬ PrefOk rcpB (lineA (tkM s i).2)) : ∀ j, tkM s (i + j) = tkM s i
  | 0 => rfl
  | j + 1 => by
    have ih := tkM_stuck h j
    rw [← Nat.add_assoc]
    simp only [tkM, ih, if_neg h]
theorem tkM_go {s : List UInt8} {i : Nat} (h : PrefOk rcpB (lineA (tkM s i).2)) : tkM s (i + 1) = ((tkM s i).1 ++ [prefA rcpB (lineA (tkM s i).2)], lineB (tkM s i).2) := by simp only [tkM, if_pos h]
theorem tkM_len (s : List UInt8) : ∀ i, (tkM s i).2.length ≤ s.length ∧ (tkM s i).1.length ≤ i ∧ ∀ x ∈ (tkM s i).1, x.length ≤ s.length
  | 0 => ⟨Nat.le_refl _, Nat.le_refl _, fun x hx => by simp [tkM] at hx⟩
  | i + 1 => by
    obtain ⟨h1, h2, h3⟩ := tkM_len s i
    simp only [tkM]
    split
    · have hb := lineB_len (tkM s i).2
      have ha := lineA_len (tkM s i).2
      have hp := prefA_len rcpB (lineA (tkM s i).2)
      refine ⟨by simp only; omega, by simp only [List.length_append, List.length_cons, List.length_nil]; omega, fun x hx => ?_⟩
      rcases List.mem_append.1 hx with h | h
      · exact h3 x h
      · simp only [List.mem_singleton] at h; subst h; omega
    · exact ⟨h1, by omega, h3⟩
def rdTo (r : List UInt8) : List (List UInt8) := (tkM (restN 8 r) 101).1
/-- What stands behind a message. -/
def tailS (n : List UInt8) : List UInt8 := [13, 10, 45, 45] ++ (n ++ [45, 45, 13, 10])
/-- Whether all lines ahead are what they should be. -/
def RdHead (r : List UInt8) : Prop := LineOk (restN 0 r) ∧ (LineOk (restN 1 r) ∧ PrefOk ctB (lineA (restN 1 r))) ∧ LineOk (restN 2 r) ∧ LineOk (restN 3 r) ∧ LineOk (restN 4 r) ∧ LineOk (restN 5 r) ∧ (LineOk (restN 6 r) ∧ PrefOk sndB (lineA (restN 6 r))) ∧ (LineOk (restN 7 r) ∧ PrefOk rcvB (lineA (restN 7 r)))
def rdBody (r : List UInt8) (a : Int) : List UInt8 := (r.take (r.length - (tailS (rdN r)).length)).drop (aheadS (rdFro r) (rdTo r) a (rdN r)).length
/-- Whether bytes are a report. -/
def RdOk (r : List UInt8) (a : Int) : Prop := RdHead r ∧ Lib.parseIntB 64 (rdWhen r) = .ok a ∧ LineOk (tkM (restN 8 r) 101).2 ∧ (aheadS (rdFro r) (rdTo r) a (rdN r)).length + (tailS (rdN r)).length ≤ r.length ∧ chkE (rdFro r) (rdTo r) a (rdBody r a).length = 0 ∧ repS (rdFro r) (rdTo r) a (rdBody r a) = r

theorem seen_no13 {s : List UInt8} (h : Seen s) : 13 ∉ s := fun hm => by have := h _ hm; revert this; decide
theorem digs_no13 {n : Int} (h : 0 ≤ n) : 13 ∉ Lib.itoa n := fun hm => by have := itoa_digs h _ hm; revert this; decide
theorem dec_no13 (u : Nat) : 13 ∉ Lib.decDigits u := fun hm => by have := sn_digits u _ hm; revert this; decide
theorem bdS_no13 (b : List UInt8) : 13 ∉ bdS b := by
  unfold bdS
  intro h
  rcases List.mem_append.1 h with h | h
  · revert h; decide
  · exact dec_no13 _ h
theorem linesB_cons (x : List UInt8) (l : List (List UInt8)) (z : List UInt8) : linesB (x :: l) ++ z = x ++ (13 :: 10 :: (linesB l ++ z)) := by simp [linesB]
theorem linesB_crlf {x : List UInt8} (h : 13 ∉ x) (l : List (List UInt8)) (z : List UInt8) : LineOk (linesB (x :: l) ++ z) ∧ lineA (linesB (x :: l) ++ z) = x ∧ lineB (linesB (x :: l) ++ z) = linesB l ++ z := by
  rw [linesB_cons]
  exact line_of (crlf_line h)
theorem tkM_show (z : List UInt8) (m : List (List UInt8)) (hm : ∀ y, m.head? = some y → 13 ∉ y ∧ ¬ PrefOk rcpB y) (hne : m ≠ []) : ∀ (to : List (List UInt8)), (∀ x ∈ to, 13 ∉ x) → ∀ i, i ≤ to.length → tkM (linesB (to.map rcptL ++ m) ++ z) i = (to.take i, linesB ((to.drop i).map rcptL ++ m) ++ z) := by
  intro to hto i
  induction i with
  | zero => intro _; simp [tkM]
  | succ i ih =>
    intro hi
    have ih := ih (by omega)
    have hx : 13 ∉ rcptL to[i] := by
      intro h
      have h2 := hto _ (List.getElem_mem (by omega : i < to.length))
      unfold rcptL at h
      simp only [List.mem_cons] at h
      rcases h with h | h | h | h | h | h | h | h | h | h | h | h
      all_goals first
        | exact h2 h
        | (revert h; decide)
    rw [List.drop_eq_getElem_cons (by omega : i < to.length)] at ih
    rw [List.map_cons, List.cons_append] at ih
    obtain ⟨_, e1, e2⟩ := linesB_crlf hx ((to.drop (i + 1)).map rcptL ++ m) z
    have hp : PrefOk rcpB (rcptL to[i]) ∧ prefA rcpB (rcptL to[i]) = to[i] := pref_app rcpB to[i]
    rw [tkM_go (by rw [ih]; simp only; rw [e1]; exact hp.1), ih]
    simp only
    rw [e1, e2, hp.2, List.take_succ_eq_append_getElem]
theorem not_rcp (n : List UInt8) : ¬ PrefOk rcpB (45 :: 45 :: n) := by
  rintro ⟨_, h⟩
  rw [show rcpB = [82, 101, 99, 105, 112, 105, 101, 110, 116, 58, 32] from rfl] at h
  simp at h
/-- A report that is made is one. -/
theorem rd_rep {fro : List UInt8} {to : List (List UInt8)} {a : Int} {b : List UInt8} (hE : EnvOk fro to a) (h1 : to.length ≤ 100) (hb : b.length ≤ 1000000) (ha : a ≤ 9223372036854775807) :
    RdOk (repS fro to a b) a ∧ rdFro (repS fro to a b) = fro ∧ rdTo (repS fro to a b) = to ∧ rdBody (repS fro to a b) a = b := by
  obtain ⟨hf, ht, h0, hto⟩ := hE
  have nf : 13 ∉ fro := by
    rcases hf with h | h
    · rw [List.length_eq_zero_iff.1 h]; simp
    · exact seen_no13 (mailbox_seen h)
  have nt : ∀ x ∈ to, 13 ∉ x := fun x hx => by
    obtain ⟨i, hi, rfl⟩ := List.getElem_of_mem hx
    have := hto i hi
    rw [List.getD_eq_getElem?_getD, List.getElem?_eq_getElem hi] at this
    exact seen_no13 (mailbox_seen this)
  have nb := bdS_no13 b
  have na := digs_no13 h0
  generalize hz : b ++ ([13, 10, 45, 45] ++ (bdS b ++ [45, 45, 13, 10])) = z
  have hr : repS fro to a b = linesB (aheadA fro a (bdS b) ++ (to.map rcptL ++ aheadB (bdS b))) ++ z := by
    unfold repS aheadS aheadL; rw [hz]
  have hrd : ∀ l1 l2 l3 l4 l5 l6 l7 l8 : List UInt8, aheadA fro a (bdS b) = [l1, l2, l3, l4, l5, l6, l7, l8] → 13 ∉ l1 → 13 ∉ l2 → 13 ∉ l3 → 13 ∉ l4 → 13 ∉ l5 → 13 ∉ l6 → 13 ∉ l7 → 13 ∉ l8 →
      (LineOk (restN 0 (repS fro to a b)) ∧ lineA (restN 0 (repS fro to a b)) = l1) ∧ (LineOk (restN 1 (repS fro to a b)) ∧ lineA (restN 1 (repS fro to a b)) = l2) ∧ (LineOk (restN 2 (repS fro to a b)) ∧ lineA (restN 2 (repS fro to a b)) = l3) ∧ (LineOk (restN 3 (repS fro to a b)) ∧ lineA (restN 3 (repS fro to a b)) = l4) ∧
      (LineOk (restN 4 (repS fro to a b)) ∧ lineA (restN 4 (repS fro to a b)) = l5) ∧ (LineOk (restN 5 (repS fro to a b)) ∧ lineA (restN 5 (repS fro to a b)) = l6) ∧ (LineOk (restN 6 (repS fro to a b)) ∧ lineA (restN 6 (repS fro to a b)) = l7) ∧ (LineOk (restN 7 (repS fro to a b)) ∧ lineA (restN 7 (repS fro to a b)) = l8) ∧
      restN 8 (repS fro to a b) = linesB (to.map rcptL ++ aheadB (bdS b)) ++ z := by
    intro l1 l2 l3 l4 l5 l6 l7 l8 hl n1 n2 n3 n4 n5 n6 n7 n8
    rw [hl] at hr
    have e0 : restN 0 (repS fro to a b) = linesB (l1 :: ([l2, l3, l4, l5, l6, l7, l8] ++ (to.map rcptL ++ aheadB (bdS b)))) ++ z := hr
    obtain ⟨o0, a0, b0⟩ := linesB_crlf n1 ([l2, l3, l4, l5, l6, l7, l8] ++ (to.map rcptL ++ aheadB (bdS b))) z
    rw [← e0] at o0 a0 b0
    have e1 : restN 1 (repS fro to a b) = linesB (l2 :: ([l3, l4, l5, l6, l7, l8] ++ (to.map rcptL ++ aheadB (bdS b)))) ++ z := b0
    obtain ⟨o1, a1, b1⟩ := linesB_crlf n2 ([l3, l4, l5, l6, l7, l8] ++ (to.map rcptL ++ aheadB (bdS b))) z
    rw [← e1] at o1 a1 b1
    have e2 : restN 2 (repS fro to a b) = linesB (l3 :: ([l4, l5, l6, l7, l8] ++ (to.map rcptL ++ aheadB (bdS b)))) ++ z := b1
    obtain ⟨o2, a2, b2⟩ := linesB_crlf n3 ([l4, l5, l6, l7, l8] ++ (to.map rcptL ++ aheadB (bdS b))) z
    rw [← e2] at o2 a2 b2
    have e3 : restN 3 (repS fro to a b) = linesB (l4 :: ([l5, l6, l7, l8] ++ (to.map rcptL ++ aheadB (bdS b)))) ++ z := b2
    obtain ⟨o3, a3, b3⟩ := linesB_crlf n4 ([l5, l6, l7, l8] ++ (to.map rcptL ++ aheadB (bdS b))) z
    rw [← e3] at o3 a3 b3
    have e4 : restN 4 (repS fro to a b) = linesB (l5 :: ([l6, l7, l8] ++ (to.map rcptL ++ aheadB (bdS b)))) ++ z := b3
    obtain ⟨o4, a4, b4⟩ := linesB_crlf n5 ([l6, l7, l8] ++ (to.map rcptL ++ aheadB (bdS b))) z
    rw [← e4] at o4 a4 b4
    have e5 : restN 5 (repS fro to a b) = linesB (l6 :: ([l7, l8] ++ (to.map rcptL ++ aheadB (bdS b)))) ++ z := b4
    obtain ⟨o5, a5, b5⟩ := linesB_crlf n6 ([l7, l8] ++ (to.map rcptL ++ aheadB (bdS b))) z
    rw [← e5] at o5 a5 b5
    have e6 : restN 6 (repS fro to a b) = linesB (l7 :: ([l8] ++ (to.map rcptL ++ aheadB (bdS b)))) ++ z := b5
    obtain ⟨o6, a6, b6⟩ := linesB_crlf n7 ([l8] ++ (to.map rcptL ++ aheadB (bdS b))) z
    rw [← e6] at o6 a6 b6
    have e7 : restN 7 (repS fro to a b) = linesB (l8 :: ([] ++ (to.map rcptL ++ aheadB (bdS b)))) ++ z := b6
    obtain ⟨o7, a7, b7⟩ := linesB_crlf n8 ([] ++ (to.map rcptL ++ aheadB (bdS b))) z
    rw [← e7] at o7 a7 b7
    exact ⟨⟨o0, a0⟩, ⟨o1, a1⟩, ⟨o2, a2⟩, ⟨o3, a3⟩, ⟨o4, a4⟩, ⟨o5, a5⟩, ⟨o6, a6⟩, ⟨o7, a7⟩, b7⟩
  have no13 : ∀ (p x : List UInt8), 13 ∉ p → 13 ∉ x → 13 ∉ p ++ x := fun p x hp hx h => (List.mem_append.1 h).elim hp hx
  obtain ⟨⟨o0, a0⟩, ⟨o1, a1⟩, ⟨o2, a2⟩, ⟨o3, a3⟩, ⟨o4, a4⟩, ⟨o5, a5⟩, ⟨o6, a6⟩, ⟨o7, a7⟩, b7⟩ := hrd _ _ _ _ _ _ _ _ rfl (by decide) (no13 ctB _ (by decide) nb) (by simp) (no13 [45, 45] _ (by decide) nb) (by decide) (by simp) (no13 sndB _ (by decide) nf) (no13 rcvB _ (by decide) na)
  have p1 : PrefOk ctB (lineA (restN 1 (repS fro to a b))) ∧ rdN (repS fro to a b) = bdS b := by
    unfold rdN; rw [a1]; exact pref_app ctB (bdS b)
  have p6 : PrefOk sndB (lineA (restN 6 (repS fro to a b))) ∧ rdFro (repS fro to a b) = fro := by
    unfold rdFro; rw [a6]; exact pref_app sndB fro
  have p7 : PrefOk rcvB (lineA (restN 7 (repS fro to a b))) ∧ rdWhen (repS fro to a b) = Lib.itoa a := by
    unfold rdWhen; rw [a7]; exact pref_app rcvB (Lib.itoa a)
  have hB : aheadB (bdS b) ≠ [] := by simp [aheadB]
  have hBh : ∀ y, (aheadB (bdS b)).head? = some y → 13 ∉ y ∧ ¬ PrefOk rcpB y := fun y hy => by
    simp only [aheadB, List.head?_cons, Option.some.injEq] at hy
    subst hy
    exact ⟨no13 [45, 45] _ (by decide) nb, not_rcp _⟩
  have ht1 := tkM_show z (aheadB (bdS b)) hBh hB to nt to.length (Nat.le_refl _)
  rw [List.take_length, List.drop_length, List.map_nil, List.nil_append] at ht1
  obtain ⟨oT, aT, _⟩ := linesB_crlf (no13 [45, 45] _ (by decide) nb) [[67, 111, 110, 116, 101, 110, 116, 45, 84, 121, 112, 101, 58, 32, 109, 101, 115, 115, 97, 103, 101, 47, 114, 102, 99, 56, 50, 50], []] z
  have ht2 : tkM (restN 8 (repS fro to a b)) 101 = (to, linesB (aheadB (bdS b)) ++ z) := by
    rw [b7]
    have := tkM_stuck (s := linesB (to.map rcptL ++ aheadB (bdS b)) ++ z) (i := to.length) (by
      rw [ht1]; simp only
      rw [show linesB (aheadB (bdS b)) ++ z = linesB (([45, 45] ++ bdS b) :: [[67, 111, 110, 116, 101, 110, 116, 45, 84, 121, 112, 101, 58, 32, 109, 101, 115, 115, 97, 103, 101, 47, 114, 102, 99, 56, 50, 50], []]) ++ z from rfl, aT]
      exact not_rcp _) (101 - to.length)
    rw [show to.length + (101 - to.length) = 101 by omega] at this
    rw [this, ht1]
  have pT : rdTo (repS fro to a b) = to := by unfold rdTo; rw [ht2]
  have hlr : (repS fro to a b).length = (aheadS fro to a (bdS b)).length + (b.length + (tailS (bdS b)).length) := by
    unfold repS tailS; simp only [List.length_append]
  have pB : rdBody (repS fro to a b) a = b := by
    unfold rdBody
    rw [p1.2, p6.2, pT, hlr]
    rw [show (aheadS fro to a (bdS b)).length + (b.length + (tailS (bdS b)).length) - (tailS (bdS b)).length = (aheadS fro to a (bdS b) ++ b).length by rw [List.length_append]; omega]
    rw [show repS fro to a b = (aheadS fro to a (bdS b) ++ b) ++ tailS (bdS b) by unfold repS tailS; simp]
    rw [List.take_left]
    simp
  refine ⟨⟨⟨o0, ⟨o1, p1.1⟩, o2, o3, o4, o5, ⟨o6, p6.1⟩, o7, p7.1⟩, ?_, ?_, ?_, ?_, ?_⟩, p6.2, pT, pB⟩
  · rw [p7.2]; exact parse_itoa h0 ha
  · rw [ht2]; exact oT
  · rw [p1.2, p6.2, pT, hlr]; omega
  · rw [p6.2, pT, pB]
    unfold chkE
    rw [tf_true (p := EnvOk fro to a) ⟨hf, ht, h0, hto⟩, if_pos rfl, if_pos ⟨h1, hb⟩]
  · rw [p6.2, pT, pB]

end Go.Ab.Tryd
