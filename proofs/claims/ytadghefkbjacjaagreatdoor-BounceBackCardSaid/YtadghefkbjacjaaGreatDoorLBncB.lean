/- Walks: a prefix cut off. -/
import Derived.Test.YtadghefkbjacjaaGreatDoorLHeadA
import Derived.Test.YtadghefkbjacjaaGreatDoorLMimeA
import Derived.Test.YtadghefkbjacjaaGreatDoorSNum
import Derived.Test.YtadghefkbjacjaaGreatDoorLBncA
import Derived.Test.YtadghefkbjacjaaGreatDoorLHeadB
import Derived.Test.YtadghefkbjacjaaGreatDoorLRefB
import Derived.Test.YtadghefkbjacjaaGreatDoorLNum
import Derived.Test.YtadghefkbjacjaaGreatDoorLConv2
import Derived.Lib.AtoiAllCases
section
set_option linter.unusedSimpArgs false
set_option linter.unusedVariables false
set_option maxHeartbeats 4000000
set_option maxRecDepth 4000
namespace Go.Ab.Tryz
open Go Go.Ab Go.Proofs
attribute [local irreducible] W Wl Wop TrA WSeq WLoopS FPost DPost RPost WRound DK onEnd
variable {n0 : Nat} {w0 : World} {gl : Nat → List AV} {H : List AO}

instance litePrefix_t (s p : List UInt8) : Ctr (env n0 w0 gl) 234 [.str s, .str p] H (s.length ≤ 1000000000 ∧ p.length ≤ 100) (.bool (decide (p.length ≤ s.length ∧ s.take p.length = p))) H := .of fun ⟨hs, hp⟩ => by
  by_cases h1 : p.length ≤ s.length
  · by_cases h2 : s.take p.length = p
    · rw [decide_eq_true ⟨h1, h2⟩]
      have hh := h2
      refine enter (md := fun _ => 0) Tryz.func234 (fun hfit hgl => ?_)
      repeat' (first | refine go ?_ | (refine br (fun hc => ?_) (fun hc => ?_) <;> try (exfalso; omega)) | fail)
      all_goals first
        | exact .now ⟨rfl, rfl⟩
        | (refine .now ⟨?_, rfl⟩; simp [h2])
    · rw [decide_eq_false fun h => h2 h.2]
      have hh := h2
      refine enter (md := fun _ => 0) Tryz.func234 (fun hfit hgl => ?_)
      repeat' (first | refine go ?_ | (refine br (fun hc => ?_) (fun hc => ?_) <;> try (exfalso; omega)) | fail)
      all_goals first
        | exact .now ⟨rfl, rfl⟩
        | (refine .now ⟨?_, rfl⟩; simp [h2])
  · rw [decide_eq_false fun h => h1 h.1]
    refine enter (md := fun _ => 0) Tryz.func234 (fun hfit hgl => ?_)
    repeat' (first | refine go ?_ | (refine br (fun hc => ?_) (fun hc => ?_) <;> try (exfalso; omega)) | fail)
    all_goals exact .now ⟨rfl, rfl⟩
/-- What a cut of a prefix answers. -/
def prefR (p s : List UInt8) : Option (List UInt8) := if p.length ≤ s.length ∧ s.take p.length = p then some (s.drop p.length) else none
def prefV (p s : List UInt8) : AV := match prefR p s with
  | some r => .tup [.str r, .bool true]
  | none => .tup [.str s, .bool false]
instance litePref_t (s p : List UInt8) : Ctr (env n0 w0 gl) 151 [.str s, .str p] H (s.length ≤ 1000000000 ∧ p.length ≤ 100) (prefV p s) H := .of fun ⟨hs, hp⟩ => by
  unfold prefV prefR
  by_cases h1 : p.length ≤ s.length ∧ s.take p.length = p
  · rw [if_pos h1]
    have h2 := h1.1
    have hh := decide_eq_true h1
    refine enter (md := fun _ => 0) Tryz.func151 (fun hfit hgl => ?_)
    repeat' (first | refine go ?_ | (refine br (fun hc => ?_) (fun hc => ?_) <;> try (exfalso; omega)) | fail)
    all_goals exact .now ⟨rfl, rfl⟩
  · rw [if_neg h1]
    have hh := decide_eq_false h1
    refine enter (md := fun _ => 0) Tryz.func151 (fun hfit hgl => ?_)
    repeat' (first | refine go ?_ | (refine br (fun hc => ?_) (fun hc => ?_) <;> try (exfalso; omega)) | fail)
    all_goals exact .now ⟨rfl, rfl⟩
instance pref_t (s p : List UInt8) : Ctr (env n0 w0 gl) 83 [.str s, .str p] H (s.length ≤ 1000000000 ∧ p.length ≤ 100) (prefV p s) H := .of fun ⟨hs, hp⟩ => by
  have hc := fun H => litePref_t (n0 := n0) (w0 := w0) (gl := gl) (H := H) s p
  unfold prefV at hc ⊢
  rcases hh : prefR p s with _ | r <;> simp only [hh] at hc ⊢
  all_goals
    refine enter (md := fun _ => 0) Tryz.func83 (fun hfit hgl => ?_)
    repeat' (first | refine go ?_ | (refine br (fun hc => ?_) (fun hc => ?_) <;> try (exfalso; omega)) | fail)
    exact .now ⟨rfl, rfl⟩

end Go.Ab.Tryz

end

section
set_option linter.unusedSimpArgs false
set_option linter.unusedVariables false
set_option maxHeartbeats 2000000
set_option maxRecDepth 4000
namespace Go.Ab
open Go
/-- The first line, and what stands behind it. -/
def lineA (s : List UInt8) : List UInt8 := match crlfAt s with
  | some (x, _) => x
  | none => []
def lineB (s : List UInt8) : List UInt8 := match crlfAt s with
  | some (_, y) => y
  | none => s
def LineOk (s : List UInt8) : Prop := crlfAt s ≠ none
theorem lineB_len (s : List UInt8) : (lineB s).length ≤ s.length := by
  unfold lineB
  cases h : crlfAt s with
  | none => exact Nat.le_refl _
  | some p => have := crlfAt_len (x := p.1) (y := p.2) (by rw [h]); simp only; omega
theorem lineA_len (s : List UInt8) : (lineA s).length ≤ s.length := by
  unfold lineA
  cases h : crlfAt s with
  | none => exact Nat.zero_le _
  | some p => have := crlfAt_len (x := p.1) (y := p.2) (by rw [h]); simp only; omega
theorem lineB_lt {s : List UInt8} (h : LineOk s) : (lineB s).length + 2 + (lineA s).length = s.length := by
  unfold lineB lineA
  cases h2 : crlfAt s with
  | none => exact absurd h2 h
  | some p => have := crlfAt_len (x := p.1) (y := p.2) (by rw [h2]); simp only; omega
theorem crlf_line : ∀ {x y : List UInt8}, 13 ∉ x → crlfAt (x ++ (13 :: 10 :: y)) = some (x, y)
  | [], y, _ => by simp [crlfAt]
  | c :: x, y, h => by
    simp only [List.mem_cons, not_or] at h
    rw [List.cons_append, crlfAt, if_neg (fun e => h.1 e.1.symm), crlf_line h.2]; rfl
theorem line_of {s x y : List UInt8} (h : crlfAt s = some (x, y)) : LineOk s ∧ lineA s = x ∧ lineB s = y := by
  refine ⟨by unfold LineOk; rw [h]; simp, by unfold lineA; rw [h], by unfold lineB; rw [h]⟩
end Go.Ab
namespace Go.Ab.Tryz
open Go Go.Ab Go.Proofs

def PrefOk (p s : List UInt8) : Prop := p.length ≤ s.length ∧ s.take p.length = p
instance (p s : List UInt8) : Decidable (PrefOk p s) := inferInstanceAs (Decidable (_ ∧ _))
def prefA (p s : List UInt8) : List UInt8 := if PrefOk p s then s.drop p.length else s
theorem prefA_len (p s : List UInt8) : (prefA p s).length ≤ s.length := by unfold prefA; split <;> simp
theorem pref_app (p s : List UInt8) : PrefOk p (p ++ s) ∧ prefA p (p ++ s) = s := by
  have h : PrefOk p (p ++ s) := ⟨by simp, by simp⟩
  exact ⟨h, by unfold prefA; rw [if_pos h]; simp⟩
theorem prefV_eq (p s : List UInt8) : prefV p s = .tup [.str (prefA p s), .bool (tf (PrefOk p s))] := by
  unfold prefV prefR prefA
  by_cases h : PrefOk p s
  · rw [if_pos h, tf_true h]
    have h' : p.length ≤ s.length ∧ s.take p.length = p := h
    rw [if_pos h']
  · rw [if_neg h, tf_false h]
    have h' : ¬ (p.length ≤ s.length ∧ s.take p.length = p) := h
    rw [if_neg h']

/-- What stands ahead in the lines that are read. -/
def ctB : List UInt8 := [67, 111, 110, 116, 101, 110, 116, 45, 84, 121, 112, 101, 58, 32, 109, 117, 108, 116, 105, 112, 97, 114, 116, 47, 109, 105, 120, 101, 100, 59, 32, 98, 111, 117, 110, 100, 97, 114, 121, 61]
def sndB : List UInt8 := [83, 101, 110, 100, 101, 114, 58, 32]
def rcvB : List UInt8 := [82, 101, 99, 101, 105, 118, 101, 100, 58, 32]
def rcpB : List UInt8 := [82, 101, 99, 105, 112, 105, 101, 110, 116, 58, 32]
/-- The rest behind some lines. -/
def restN : Nat → List UInt8 → List UInt8
  | 0, r => r
  | k + 1, r => lineB (restN k r)
theorem restN_len : ∀ (k : Nat) (r : List UInt8), (restN k r).length ≤ r.length
  | 0, r => Nat.le_refl _
  | k + 1, r => Nat.le_trans (lineB_len _) (restN_len k r)
def rdN (r : List UInt8) : List UInt8 := prefA ctB (lineA (restN 1 r))
def rdFro (r : List UInt8) : List UInt8 := prefA sndB (lineA (restN 6 r))
def rdWhen (r : List UInt8) : List UInt8 := prefA rcvB (lineA (restN 7 r))
/-- Recipients, line by line. -/
def tkM (s : List UInt8) : Nat → List (List UInt8) × List UInt8
  | 0 => ([], s)
  | i + 1 => if PrefOk rcpB (lineA (tkM s i).2) then ((tkM s i).1 ++ [prefA rcpB (lineA (tkM s i).2)], lineB (tkM s i).2) else tkM s i
theorem tkM_stuck {s : List UInt8} {i : Nat} (h : ¬ PrefOk rcpB (lineA (tkM s i).2)) : ∀ j, tkM s (i + j) = tkM s i
  | 0 => rfl
  | j + 1 => by
    have ih := tkM_stuck h j
    rw [← Nat.add_assoc]
    simp only [tkM, ih, if_neg h]
theorem tkM_go {s : List UInt8} {i : Nat} (h : PrefOk rcpB (lineA (tkM s i).2)) : tkM s (i + 1) = ((tkM s i).1 ++ [prefA rcpB (lineA (tkM s i).2)], lineB (tkM s i).2) := by simp only [tkM, if_pos h]
theorem tkM_len (s : List UInt8) : ∀ i, (tkM s i).2.length ≤ s.length ∧ (tkM s i).1.length ≤ i ∧ ∀ x ∈ (tkM s i).1, x.length ≤ s.length
  | 0 => ⟨Nat.le_refl _, Nat.le_refl _, fun x hx => by simp [tkM] at hx⟩
  | i + 1 => by
    obtain ⟨h1, h2, h3⟩ := tkM_len s i
    simp only [tkM]
    split
    · have hb := lineB_len (tkM s i).2
      have ha := lineA_len (tkM s i).2
      have hp := prefA_len rcpB (lineA (tkM s i).2)
      refine ⟨by simp only; omega, by simp only [List.length_append, List.length_cons, List.length_nil]; omega, fun x hx => ?_⟩
      rcases List.mem_append.1 hx with h | h
      · exact h3 x h
      · simp only [List.mem_singleton] at h; subst h; omega
    · exact ⟨h1, by omega, h3⟩
def rdTo (r : List UInt8) : List (List UInt8) := (tkM (restN 8 r) 101).1
/-- What stands behind a message. -/
def tailS (n : List UInt8) : List UInt8 := [13, 10, 45, 45] ++ (n ++ [45, 45, 13, 10])
/-- Whether all lines ahead are what they should be. -/
def RdHead (r : List UInt8) : Prop := LineOk (restN 0 r) ∧ (LineOk (restN 1 r) ∧ PrefOk ctB (lineA (restN 1 r))) ∧ LineOk (restN 2 r) ∧ LineOk (restN 3 r) ∧ LineOk (restN 4 r) ∧ LineOk (restN 5 r) ∧ (LineOk (restN 6 r) ∧ PrefOk sndB (lineA (restN 6 r))) ∧ (LineOk (restN 7 r) ∧ PrefOk rcvB (lineA (restN 7 r)))
def rdBody (r : List UInt8) (a : Int) : List UInt8 := (r.take (r.length - (tailS (rdN r)).length)).drop (aheadS (rdFro r) (rdTo r) a (rdN r)).length
/-- Whether bytes are a report. -/
def RdOk (r : List UInt8) (a : Int) : Prop := RdHead r ∧ Lib.parseIntB 64 (rdWhen r) = .ok a ∧ LineOk (tkM (restN 8 r) 101).2 ∧ (aheadS (rdFro r) (rdTo r) a (rdN r)).length + (tailS (rdN r)).length ≤ r.length ∧ chkE (rdFro r) (rdTo r) a (rdBody r a).length = 0 ∧ repS (rdFro r) (rdTo r) a (rdBody r a) = r

theorem seen_no13 {s : List UInt8} (h : Seen s) : 13 ∉ s := fun hm => by have := h _ hm; revert this; decide
theorem digs_no13 {n : Int} (h : 0 ≤ n) : 13 ∉ Lib.itoa n := fun hm => by have := itoa_digs h _ hm; revert this; decide
theorem dec_no13 (u : Nat) : 13 ∉ Lib.decDigits u := fun hm => by have := sn_digits u _ hm; revert this; decide
theorem bdS_no13 (b : List UInt8) : 13 ∉ bdS b := by
  unfold bdS
  intro h
  rcases List.mem_append.1 h with h | h
  · revert h; decide
  · exact dec_no13 _ h
theorem linesB_cons (x : List UInt8) (l : List (List UInt8)) (z : List UInt8) : linesB (x :: l) ++ z = x ++ (13 :: 10 :: (linesB l ++ z)) := by simp [linesB]
theorem linesB_crlf {x : List UInt8} (h : 13 ∉ x) (l : List (List UInt8)) (z : List UInt8) : LineOk (linesB (x :: l) ++ z) ∧ lineA (linesB (x :: l) ++ z) = x ∧ lineB (linesB (x :: l) ++ z) = linesB l ++ z := by
  rw [linesB_cons]
  exact line_of (crlf_line h)
theorem tkM_show (z : List UInt8) (m : List (List UInt8)) (hm : ∀ y, m.head? = some y → 13 ∉ y ∧ ¬ PrefOk rcpB y) (hne : m ≠ []) : ∀ (to : List (List UInt8)), (∀ x ∈ to, 13 ∉ x) → ∀ i, i ≤ to.length → tkM (linesB (to.map rcptL ++ m) ++ z) i = (to.take i, linesB ((to.drop i).map rcptL ++ m) ++ z) := by
  intro to hto i
  induction i with
  | zero => intro _; simp [tkM]
  | succ i ih =>
    intro hi
    have ih := ih (by omega)
    have hx : 13 ∉ rcptL to[i] := by
      intro h
      have h2 := hto _ (List.getElem_mem (by omega : i < to.length))
      unfold rcptL at h
      simp only [List.mem_cons] at h
      rcases h with h | h | h | h | h | h | h | h | h | h | h | h
      all_goals first
        | exact h2 h
        | (revert h; decide)
    rw [List.drop_eq_getElem_cons (by omega : i < to.length)] at ih
    rw [List.map_cons, List.cons_append] at ih
    obtain ⟨_, e1, e2⟩ := linesB_crlf hx ((to.drop (i + 1)).map rcptL ++ m) z
    have hp : PrefOk rcpB (rcptL to[i]) ∧ prefA rcpB (rcptL to[i]) = to[i] := pref_app rcpB to[i]
    rw [tkM_go (by rw [ih]; simp only; rw [e1]; exact hp.1), ih]
    simp only
    rw [e1, e2, hp.2, List.take_succ_eq_append_getElem]
theorem not_rcp (n : List UInt8) : ¬ PrefOk rcpB (45 :: 45 :: n) := by
  rintro ⟨_, h⟩
  rw [show rcpB = [82, 101, 99, 105, 112, 105, 101, 110, 116, 58, 32] from rfl] at h
  simp at h
/-- A report that is made is one. -/
theorem rd_rep {fro : List UInt8} {to : List (List UInt8)} {a : Int} {b : List UInt8} (hE : EnvOk fro to a) (h1 : to.length ≤ 100) (hb : b.length ≤ 1000000) (ha : a ≤ 9223372036854775807) :
    RdOk (repS fro to a b) a ∧ rdFro (repS fro to a b) = fro ∧ rdTo (repS fro to a b) = to ∧ rdBody (repS fro to a b) a = b := by
  obtain ⟨hf, ht, h0, hto⟩ := hE
  have nf : 13 ∉ fro := by
    rcases hf with h | h
    · rw [List.length_eq_zero_iff.1 h]; simp
    · exact seen_no13 (mailbox_seen h)
  have nt : ∀ x ∈ to, 13 ∉ x := fun x hx => by
    obtain ⟨i, hi, rfl⟩ := List.getElem_of_mem hx
    have := hto i hi
    rw [List.getD_eq_getElem?_getD, List.getElem?_eq_getElem hi] at this
    exact seen_no13 (mailbox_seen this)
  have nb := bdS_no13 b
  have na := digs_no13 h0
  generalize hz : b ++ ([13, 10, 45, 45] ++ (bdS b ++ [45, 45, 13, 10])) = z
  have hr : repS fro to a b = linesB (aheadA fro a (bdS b) ++ (to.map rcptL ++ aheadB (bdS b))) ++ z := by
    unfold repS aheadS aheadL; rw [hz]
  have hrd : ∀ l1 l2 l3 l4 l5 l6 l7 l8 : List UInt8, aheadA fro a (bdS b) = [l1, l2, l3, l4, l5, l6, l7, l8] → 13 ∉ l1 → 13 ∉ l2 → 13 ∉ l3 → 13 ∉ l4 → 13 ∉ l5 → 13 ∉ l6 → 13 ∉ l7 → 13 ∉ l8 →
      (LineOk (restN 0 (repS fro to a b)) ∧ lineA (restN 0 (repS fro to a b)) = l1) ∧ (LineOk (restN 1 (repS fro to a b)) ∧ lineA (restN 1 (repS fro to a b)) = l2) ∧ (LineOk (restN 2 (repS fro to a b)) ∧ lineA (restN 2 (repS fro to a b)) = l3) ∧ (LineOk (restN 3 (repS fro to a b)) ∧ lineA (restN 3 (repS fro to a b)) = l4) ∧
      (LineOk (restN 4 (repS fro to a b)) ∧ lineA (restN 4 (repS fro to a b)) = l5) ∧ (LineOk (restN 5 (repS fro to a b)) ∧ lineA (restN 5 (repS fro to a b)) = l6) ∧ (LineOk (restN 6 (repS fro to a b)) ∧ lineA (restN 6 (repS fro to a b)) = l7) ∧ (LineOk (restN 7 (repS fro to a b)) ∧ lineA (restN 7 (repS fro to a b)) = l8) ∧
      restN 8 (repS fro to a b) = linesB (to.map rcptL ++ aheadB (bdS b)) ++ z := by
    intro l1 l2 l3 l4 l5 l6 l7 l8 hl n1 n2 n3 n4 n5 n6 n7 n8
    rw [hl] at hr
    have e0 : restN 0 (repS fro to a b) = linesB (l1 :: ([l2, l3, l4, l5, l6, l7, l8] ++ (to.map rcptL ++ aheadB (bdS b)))) ++ z := hr
    obtain ⟨o0, a0, b0⟩ := linesB_crlf n1 ([l2, l3, l4, l5, l6, l7, l8] ++ (to.map rcptL ++ aheadB (bdS b))) z
    rw [← e0] at o0 a0 b0
    have e1 : restN 1 (repS fro to a b) = linesB (l2 :: ([l3, l4, l5, l6, l7, l8] ++ (to.map rcptL ++ aheadB (bdS b)))) ++ z := b0
    obtain ⟨o1, a1, b1⟩ := linesB_crlf n2 ([l3, l4, l5, l6, l7, l8] ++ (to.map rcptL ++ aheadB (bdS b))) z
    rw [← e1] at o1 a1 b1
    have e2 : restN 2 (repS fro to a b) = linesB (l3 :: ([l4, l5, l6, l7, l8] ++ (to.map rcptL ++ aheadB (bdS b)))) ++ z := b1
    obtain ⟨o2, a2, b2⟩ := linesB_crlf n3 ([l4, l5, l6, l7, l8] ++ (to.map rcptL ++ aheadB (bdS b))) z
    rw [← e2] at o2 a2 b2
    have e3 : restN 3 (repS fro to a b) = linesB (l4 :: ([l5, l6, l7, l8] ++ (to.map rcptL ++ aheadB (bdS b)))) ++ z := b2
    obtain ⟨o3, a3, b3⟩ := linesB_crlf n4 ([l5, l6, l7, l8] ++ (to.map rcptL ++ aheadB (bdS b))) z
    rw [← e3] at o3 a3 b3
    have e4 : restN 4 (repS fro to a b) = linesB (l5 :: ([l6, l7, l8] ++ (to.map rcptL ++ aheadB (bdS b)))) ++ z := b3
    obtain ⟨o4, a4, b4⟩ := linesB_crlf n5 ([l6, l7, l8] ++ (to.map rcptL ++ aheadB (bdS b))) z
    rw [← e4] at o4 a4 b4
    have e5 : restN 5 (repS fro to a b) = linesB (l6 :: ([l7, l8] ++ (to.map rcptL ++ aheadB (bdS b)))) ++ z := b4
    obtain ⟨o5, a5, b5⟩ := linesB_crlf n6 ([l7, l8] ++ (to.map rcptL ++ aheadB (bdS b))) z
    rw [← e5] at o5 a5 b5
    have e6 : restN 6 (repS fro to a b) = linesB (l7 :: ([l8] ++ (to.map rcptL ++ aheadB (bdS b)))) ++ z := b5
    obtain ⟨o6, a6, b6⟩ := linesB_crlf n7 ([l8] ++ (to.map rcptL ++ aheadB (bdS b))) z
    rw [← e6] at o6 a6 b6
    have e7 : restN 7 (repS fro to a b) = linesB (l8 :: ([] ++ (to.map rcptL ++ aheadB (bdS b)))) ++ z := b6
    obtain ⟨o7, a7, b7⟩ := linesB_crlf n8 ([] ++ (to.map rcptL ++ aheadB (bdS b))) z
    rw [← e7] at o7 a7 b7
    exact ⟨⟨o0, a0⟩, ⟨o1, a1⟩, ⟨o2, a2⟩, ⟨o3, a3⟩, ⟨o4, a4⟩, ⟨o5, a5⟩, ⟨o6, a6⟩, ⟨o7, a7⟩, b7⟩
  have no13 : ∀ (p x : List UInt8), 13 ∉ p → 13 ∉ x → 13 ∉ p ++ x := fun p x hp hx h => (List.mem_append.1 h).elim hp hx
  obtain ⟨⟨o0, a0⟩, ⟨o1, a1⟩, ⟨o2, a2⟩, ⟨o3, a3⟩, ⟨o4, a4⟩, ⟨o5, a5⟩, ⟨o6, a6⟩, ⟨o7, a7⟩, b7⟩ := hrd _ _ _ _ _ _ _ _ rfl (by decide) (no13 ctB _ (by decide) nb) (by simp) (no13 [45, 45] _ (by decide) nb) (by decide) (by simp) (no13 sndB _ (by decide) nf) (no13 rcvB _ (by decide) na)
  have p1 : PrefOk ctB (lineA (restN 1 (repS fro to a b))) ∧ rdN (repS fro to a b) = bdS b := by
    unfold rdN; rw [a1]; exact pref_app ctB (bdS b)
  have p6 : PrefOk sndB (lineA (restN 6 (repS fro to a b))) ∧ rdFro (repS fro to a b) = fro := by
    unfold rdFro; rw [a6]; exact pref_app sndB fro
  have p7 : PrefOk rcvB (lineA (restN 7 (repS fro to a b))) ∧ rdWhen (repS fro to a b) = Lib.itoa a := by
    unfold rdWhen; rw [a7]; exact pref_app rcvB (Lib.itoa a)
  have hB : aheadB (bdS b) ≠ [] := by simp [aheadB]
  have hBh : ∀ y, (aheadB (bdS b)).head? = some y → 13 ∉ y ∧ ¬ PrefOk rcpB y := fun y hy => by
    simp only [aheadB, List.head?_cons, Option.some.injEq] at hy
    subst hy
    exact ⟨no13 [45, 45] _ (by decide) nb, not_rcp _⟩
  have ht1 := tkM_show z (aheadB (bdS b)) hBh hB to nt to.length (Nat.le_refl _)
  rw [List.take_length, List.drop_length, List.map_nil, List.nil_append] at ht1
  obtain ⟨oT, aT, _⟩ := linesB_crlf (no13 [45, 45] _ (by decide) nb) [[67, 111, 110, 116, 101, 110, 116, 45, 84, 121, 112, 101, 58, 32, 109, 101, 115, 115, 97, 103, 101, 47, 114, 102, 99, 56, 50, 50], []] z
  have ht2 : tkM (restN 8 (repS fro to a b)) 101 = (to, linesB (aheadB (bdS b)) ++ z) := by
    rw [b7]
    have := tkM_stuck (s := linesB (to.map rcptL ++ aheadB (bdS b)) ++ z) (i := to.length) (by
      rw [ht1]; simp only
      rw [show linesB (aheadB (bdS b)) ++ z = linesB (([45, 45] ++ bdS b) :: [[67, 111, 110, 116, 101, 110, 116, 45, 84, 121, 112, 101, 58, 32, 109, 101, 115, 115, 97, 103, 101, 47, 114, 102, 99, 56, 50, 50], []]) ++ z from rfl, aT]
      exact not_rcp _) (101 - to.length)
    rw [show to.length + (101 - to.length) = 101 by omega] at this
    rw [this, ht1]
  have pT : rdTo (repS fro to a b) = to := by unfold rdTo; rw [ht2]
  have hlr : (repS fro to a b).length = (aheadS fro to a (bdS b)).length + (b.length + (tailS (bdS b)).length) := by
    unfold repS tailS; simp only [List.length_append]
  have pB : rdBody (repS fro to a b) a = b := by
    unfold rdBody
    rw [p1.2, p6.2, pT, hlr]
    rw [show (aheadS fro to a (bdS b)).length + (b.length + (tailS (bdS b)).length) - (tailS (bdS b)).length = (aheadS fro to a (bdS b) ++ b).length by rw [List.length_append]; omega]
    rw [show repS fro to a b = (aheadS fro to a (bdS b) ++ b) ++ tailS (bdS b) by unfold repS tailS; simp]
    rw [List.take_left]
    simp
  refine ⟨⟨⟨o0, ⟨o1, p1.1⟩, o2, o3, o4, o5, ⟨o6, p6.1⟩, o7, p7.1⟩, ?_, ?_, ?_, ?_, ?_⟩, p6.2, pT, pB⟩
  · rw [p7.2]; exact parse_itoa h0 ha
  · rw [ht2]; exact oT
  · rw [p1.2, p6.2, pT, hlr]; omega
  · rw [p6.2, pT, pB]
    unfold chkE
    rw [tf_true (p := EnvOk fro to a) ⟨hf, ht, h0, hto⟩, if_pos rfl, if_pos ⟨h1, hb⟩]
  · rw [p6.2, pT, pB]

end Go.Ab.Tryz

end

section
set_option linter.unusedSimpArgs false
set_option linter.unusedVariables false
set_option maxHeartbeats 2000000
set_option maxRecDepth 4000
namespace Go.Ab.Tryz
open Go Go.Ab Go.Proofs

/-- Lines, the last of which may have no end. -/
def lns2 (s : List UInt8) : List (List UInt8 × Bool) := match h : crlfAt s with
  | none => if s = [] then [] else [(s, false)]
  | some (x, y) => (x, true) :: lns2 y
termination_by s.length
decreasing_by have := crlfAt_len h; omega
theorem lns2_none {s : List UInt8} (h : crlfAt s = none) : lns2 s = if s = [] then [] else [(s, false)] := by
  rw [lns2]; split
  · rfl
  · rename_i x y h2; rw [h] at h2; simp at h2
theorem lns2_some {s x y : List UInt8} (h : crlfAt s = some (x, y)) : lns2 s = (x, true) :: lns2 y := by
  conv => lhs; rw [lns2]
  split
  · rename_i h2; rw [h] at h2; simp at h2
  · rename_i x' y' h2
    rw [h] at h2
    simp only [Option.some.injEq, Prod.mk.injEq] at h2
    rw [h2.1, h2.2]
/-- The bytes that some lines are. -/
def lnB (p : List UInt8 × Bool) : List UInt8 := if p.2 then p.1 ++ [13, 10] else p.1
theorem crlfAt_eq : ∀ {s x y : List UInt8}, crlfAt s = some (x, y) → s = x ++ (13 :: 10 :: y)
  | [], x, y, h => by simp [crlfAt] at h
  | c :: t, x, y, h => by
    unfold crlfAt at h
    split at h
    · rename_i hc
      simp only [Option.some.injEq, Prod.mk.injEq] at h
      rw [← h.1, ← h.2, hc.1]
      cases t with
      | nil => simp at hc
      | cons d t => simp only [List.head?_cons, Option.some.injEq] at hc; rw [hc.2]; rfl
    · cases h2 : crlfAt t with
      | none => rw [h2] at h; simp at h
      | some p =>
        rw [h2] at h
        simp only [Option.map_some, Option.some.injEq, Prod.mk.injEq] at h
        rw [← h.1, ← h.2]
        have e := crlfAt_eq (s := t) (x := p.1) (y := p.2) h2
        rw [List.cons_append, ← e]
theorem lns2_join (s : List UInt8) : (lns2 s).flatMap lnB = s := by
  induction hn : s.length using Nat.strongRecOn generalizing s with
  | _ n ih =>
    cases h : crlfAt s with
    | none =>
      rw [lns2_none h]
      split
      · rename_i e; rw [e]; rfl
      · simp [lnB]
    | some p =>
      obtain ⟨x, y⟩ := p
      rw [lns2_some h, List.flatMap_cons, ih y.length (by have := crlfAt_len h; omega) y rfl]
      have := crlfAt_eq h
      rw [this]; simp [lnB]
theorem lns2_count (s : List UInt8) : (lns2 s).length ≤ s.length := by
  induction hn : s.length using Nat.strongRecOn generalizing s with
  | _ n ih =>
    cases h : crlfAt s with
    | none =>
      rw [lns2_none h]
      split
      · simp
      · rename_i e; simp only [List.length_cons, List.length_nil]; have := List.length_pos_iff.2 e; omega
    | some p =>
      obtain ⟨x, y⟩ := p
      have hl := crlfAt_len h
      have := ih y.length (by omega) y rfl
      rw [lns2_some h]; simp only [List.length_cons]; omega
open Classical in
/-- A job that a line tells. -/
noncomputable def jobL (p : List UInt8 × Bool) : Option JobA := match cutAt 32 p.1 with
  | none => none
  | some (rcpt, code) => match Lib.atoiAll code with
    | .ok c => if p.2 = true ∧ 0 ≤ c ∧ c ≤ 999 then some ⟨0, rcpt, 3, 0, 0, c⟩ else none
    | _ => none
/-- All jobs, or none. -/
noncomputable def jobsL : List (List UInt8 × Bool) → Option (List JobA)
  | [] => some []
  | p :: l => match jobL p with
    | none => none
    | some x => (jobsL l).map (x :: ·)

/-- What a job is that is told. -/
def JobA.Line (x : JobA) : Prop := x.id = 0 ∧ x.tries = 0 ∧ x.next = 0 ∧ x.Told ∧ 0 ≤ x.code ∧ x.code ≤ 999
theorem p10_fold : ∀ (l : List UInt8) (acc : Nat), (∀ c ∈ l, 48 ≤ c.toNat ∧ c.toNat ≤ 57) → l.foldl (fun n c => 10 * n + (c.toNat - 48)) acc ≤ 9223372036854775807 → Lib.parseUint10 acc l = .ok (l.foldl (fun n c => 10 * n + (c.toNat - 48)) acc)
  | [], acc, _, _ => rfl
  | c :: l, acc, hd, hv => by
    have h1 := hd c (List.mem_cons_self ..)
    have key : ∀ (l : List UInt8) (n : Nat), n ≤ l.foldl (fun n c => 10 * n + (c.toNat - 48)) n := by
      intro l
      induction l with
      | nil => intro n; exact Nat.le_refl _
      | cons c l ih => intro n; exact Nat.le_trans (show n ≤ 10 * n + (c.toNat - 48) by omega) (ih _)
    have h2 := key l (10 * acc + (c.toNat - 48))
    simp only [List.foldl_cons] at hv ⊢
    rw [Lib.parseUint10, if_pos h1, if_neg (by omega), if_neg (by omega), Nat.mul_comm acc 10]
    exact p10_fold l _ (fun x hx => hd x (List.mem_cons_of_mem _ hx)) hv
theorem atoi_itoa {n : Int} (h0 : 0 ≤ n) (h1 : n ≤ 9223372036854775807) : Lib.atoiAll (Lib.itoa n) = .ok n := by
  obtain ⟨u, rfl⟩ : ∃ u : Nat, n = (u : Int) := ⟨n.toNat, by omega⟩
  rw [Lib.itoa_nonneg]
  have hd := sn_digits u
  have hv := sn_val u
  have hf : Lib.parseUint10 0 (Lib.decDigits u) = .ok u := by
    have := p10_fold (Lib.decDigits u) 0 hd (by rw [hv]; omega)
    rw [hv] at this; exact this
  have hne := sn_ne u
  cases hs : Lib.decDigits u with
  | nil => exact absurd hs hne
  | cons c r =>
    have h2 := hd c (by rw [hs]; exact List.mem_cons_self ..)
    rw [hs] at hf
    rw [Lib.atoiAll_plain c r (by omega) (by omega)]
    unfold Lib.parseMag
    rw [if_neg (by simp), hf]
    unfold Lib.signless
    simp only
    rw [if_neg (by omega)]
theorem p10_bound : ∀ (l : List UInt8) (acc u : Nat), Lib.parseUint10 acc l = .ok u → u < (acc + 1) * 10 ^ l.length
  | [], acc, u, h => by
    simp only [Lib.parseUint10] at h
    injection h with h
    simp only [List.length_nil, Nat.pow_zero, Nat.mul_one]; omega
  | c :: r, acc, u, h => by
    simp only [Lib.parseUint10] at h
    split at h
    · split at h
      · cases h
      · split at h
        · cases h
        · have := p10_bound r _ u h
          refine Nat.lt_of_lt_of_le this ?_
          rw [List.length_cons, Nat.pow_succ, Nat.mul_comm (10 ^ r.length) 10, ← Nat.mul_assoc]
          exact Nat.mul_le_mul_right _ (by omega)
    · cases h
theorem atoi_len {s : List UInt8} {c : Int} (h : Lib.atoiAll s = .ok c) (h0 : 0 ≤ c) (h1 : c ≤ 999) : (Lib.itoa c).length ≤ s.length := by
  obtain ⟨u, rfl⟩ : ∃ u : Nat, c = (u : Int) := ⟨c.toNat, by omega⟩
  rw [Lib.itoa_nonneg, Lib.decDigits_length]
  have key : ∀ (l : List UInt8) (k : Nat), Lib.parseMag l = .ok k → k ≤ 999 → 1 ≤ l.length ∧ Lib.nDigits k ≤ l.length := by
    intro l k hk hb
    unfold Lib.parseMag at hk
    split at hk
    · cases hk
    · rename_i hl
      have h2 := p10_bound l 0 k hk
      have h3 := List.length_pos_iff.2 hl
      exact ⟨h3, nDigits_le h3 (by simpa using h2)⟩
  have hn0 : Lib.nDigits 0 = 1 := by rw [Lib.nDigits]; rfl
  cases s with
  | nil => simp [Lib.atoiAll] at h
  | cons a r =>
    unfold Lib.atoiAll at h
    simp only at h
    split at h
    · cases h
    · cases h
    · rename_i k hk
      split at h
      · cases h
      · split at h
        · cases h
        · injection h with h
          split at h
          · rename_i ha
            have hu : u = 0 := by omega
            rw [hu, hn0]; simp
          · have hu : k = u := by omega
            subst hu
            obtain ⟨h4, h5⟩ := key _ _ hk (by omega)
            split at h5
            · simp only [List.length_cons]; omega
            · exact h5
theorem told_of {x : JobA} (h : x.Told) : x.told = x.rcpt ++ (32 :: (Lib.itoa x.code ++ [13, 10])) := by unfold JobA.told; rw [tf_true h]; rfl
theorem told_no {x : JobA} (h : ¬ x.Told) : x.told = [] := by unfold JobA.told; rw [tf_false h]; rfl
theorem jobL_of {p : List UInt8 × Bool} {x : JobA} (h : jobL p = some x) : x.id = 0 ∧ x.tries = 0 ∧ x.next = 0 ∧ x.state = 3 ∧ 0 ≤ x.code ∧ x.code ≤ 999 ∧ x.rcpt.length ≤ p.1.length ∧ x.told.length ≤ (lnB p).length ∧ 0 < (lnB p).length := by
  unfold jobL at h
  split at h
  · simp at h
  · rename_i rcpt code hc
    split at h
    · rename_i c hq
      split at h
      · rename_i hk
        injection h with h
        have hl := cutAt_len hc
        have h3 := atoi_len hq hk.2.1 hk.2.2
        have hb : (lnB p).length = p.1.length + 2 := by unfold lnB; rw [if_pos hk.1]; simp
        subst h
        refine ⟨rfl, rfl, rfl, rfl, hk.2.1, hk.2.2, by simp only; omega, ?_, by omega⟩
        rw [hb]
        unfold JobA.told
        split
        · simp only [List.length_append, List.length_cons, List.length_nil]; omega
        · simp
      · simp at h
    · simp at h
theorem jobsL_of : ∀ (l : List (List UInt8 × Bool)) (J : List JobA), jobsL l = some J → (∀ x ∈ J, x.id = 0 ∧ x.tries = 0 ∧ x.next = 0 ∧ x.state = 3 ∧ 0 ≤ x.code ∧ x.code ≤ 999 ∧ ∃ p ∈ l, x.rcpt.length ≤ p.1.length) ∧ J.length = l.length ∧ (toldS J).length ≤ (l.flatMap lnB).length ∧ ((toldS J).length = (l.flatMap lnB).length → ∀ x ∈ J, x.Told)
  | [], J, h => by
    simp only [jobsL, Option.some.injEq] at h
    subst h
    exact ⟨fun x hx => by simp at hx, rfl, Nat.le_refl _, fun _ x hx => by simp at hx⟩
  | p :: l, J, h => by
    unfold jobsL at h
    split at h
    · simp at h
    · rename_i x hx
      cases hJ : jobsL l with
      | none => rw [hJ] at h; simp at h
      | some K =>
        rw [hJ] at h
        simp only [Option.map_some, Option.some.injEq] at h
        subst h
        obtain ⟨k1, k2, k3, k4⟩ := jobsL_of l K hJ
        obtain ⟨a1, a2, a3, a4, a5, a6, a7, a8, a9⟩ := jobL_of hx
        refine ⟨fun y hy => ?_, by simp [k2], ?_, fun he => ?_⟩
        · rcases List.mem_cons.1 hy with e | e
          · subst e; exact ⟨a1, a2, a3, a4, a5, a6, p, by simp, a7⟩
          · obtain ⟨b1, b2, b3, b4, b5, b6, q, hq, b7⟩ := k1 y e
            exact ⟨b1, b2, b3, b4, b5, b6, q, by simp [hq], b7⟩
        · simp only [toldS, List.flatMap_cons, List.length_append] at k3 ⊢; omega
        · simp only [toldS, List.flatMap_cons, List.length_append] at he k3 k4
          have e1 : x.told.length = (lnB p).length := by omega
          intro y hy
          rcases List.mem_cons.1 hy with e | e
          · subst e
            by_cases ht : y.Told
            · exact ht
            · rw [told_no ht] at e1; simp only [List.length_nil] at e1; omega
          · exact k4 (by omega) y e
theorem itoa_no32 {n : Int} (h : 0 ≤ n) : (13 : UInt8) ∉ Lib.itoa n := digs_no13 h
theorem lns2_told : ∀ (J : List JobA), (∀ x ∈ J, x.Line) → lns2 (toldS J) = J.map fun x => (x.rcpt ++ 32 :: Lib.itoa x.code, true)
  | [], _ => by
    rw [lns2_none (by rfl)]; rfl
  | x :: J, h => by
    have hx := h x (by simp)
    have ih := lns2_told J (fun y hy => h y (by simp [hy]))
    have h13 : 13 ∉ x.rcpt ++ 32 :: Lib.itoa x.code := by
      intro hm
      rcases List.mem_append.1 hm with hm | hm
      · exact seen_no13 (mailbox_seen hx.2.2.2.1.2) hm
      · rcases List.mem_cons.1 hm with e | e
        · revert e; decide
        · exact digs_no13 hx.2.2.2.2.1 e
    have hc := crlf_line (y := toldS J) h13
    have e : toldS (x :: J) = (x.rcpt ++ 32 :: Lib.itoa x.code) ++ (13 :: 10 :: toldS J) := by
      simp only [toldS, List.flatMap_cons]
      rw [told_of hx.2.2.2.1]; simp
    rw [e, lns2_some hc, ih]; rfl
theorem rcpt_no32 {s : List UInt8} (h : MailboxOk s) : (32 : UInt8) ∉ s := fun hm => by have := mailbox_seen h _ hm; revert this; decide
theorem jobL_line {x : JobA} (h : x.Line) : jobL (x.rcpt ++ 32 :: Lib.itoa x.code, true) = some x := by
  obtain ⟨h1, h2, h3, h4, h5, h6⟩ := h
  unfold jobL
  simp only [cutAt_of_not (rcpt_no32 h4.2), atoi_itoa h5 (by omega)]
  rw [if_pos ⟨trivial, h5, h6⟩]
  have := h4.1
  obtain ⟨id, rcpt, state, tries, next, code⟩ := x
  simp only at h1 h2 h3 this
  subst h1; subst h2; subst h3; subst this
  rfl
theorem jobsL_told (J : List JobA) (h : ∀ x ∈ J, x.Line) : jobsL (lns2 (toldS J)) = some J := by
  rw [lns2_told J h]
  induction J with
  | nil => rfl
  | cons x J ih =>
    simp only [List.map_cons, jobsL, jobL_line (h x (by simp))]
    rw [ih (fun y hy => h y (by simp [hy]))]; rfl
/-- What a bounce is. -/
def BncIs (b : List UInt8) (J : List JobA) : Prop := ∃ host fro, MakeOk host 0 fro ∧ J ≠ [] ∧ (∀ x ∈ J, x.Line) ∧ bncH host fro ++ toldS J = b
theorem bnc_head {host fro : List UInt8} (h : MakeOk host 0 fro) (more : List UInt8) : headP (bncH host fro ++ more) = (bncF host fro, (bncH host fro).length, 0) := headP_show more (show_bnc h.2.1 h.1)
theorem bnc_jobs {b : List UInt8} {J : List JobA} (h : BncIs b J) : ∃ host fro, MakeOk host 0 fro ∧ headP b = (bncF host fro, (bncH host fro).length, 0) ∧ jobsL (lns2 (b.drop (bncH host fro).length)) = some J ∧ (∀ x ∈ J, x.Line) ∧ J ≠ [] ∧ bncH host fro ++ toldS J = b := by
  obtain ⟨host, fro, h1, h2, h3, rfl⟩ := h
  refine ⟨host, fro, h1, bnc_head h1 _, ?_, h3, h2, rfl⟩
  rw [List.drop_left]; exact jobsL_told J h3
theorem bnc_inj {b : List UInt8} {J K : List JobA} (h : BncIs b J) (k : BncIs b K) : J = K := by
  obtain ⟨h1, f1, _, a1, a2, _⟩ := bnc_jobs h
  obtain ⟨h2, f2, _, b1, b2, _⟩ := bnc_jobs k
  rw [a1] at b1
  simp only [Prod.mk.injEq] at b1
  rw [b1.2.1, b2] at a2
  injection a2 with a2
  exact a2.symm
open Classical in
noncomputable def bncM (b : List UInt8) : Option (List JobA) := if h : ∃ J, BncIs b J then some h.choose else none
theorem bncM_some {b : List UInt8} {J : List JobA} (h : BncIs b J) : bncM b = some J := by
  have hx : ∃ J, BncIs b J := ⟨J, h⟩
  unfold bncM; rw [dif_pos hx, bnc_inj hx.choose_spec h]
theorem bncM_none {b : List UInt8} (h : ∀ J, ¬ BncIs b J) : bncM b = none := by unfold bncM; rw [dif_neg (fun ⟨J, hJ⟩ => h J hJ)]

end Go.Ab.Tryz

end

section
set_option linter.unusedSimpArgs false
set_option linter.unusedVariables false
set_option maxHeartbeats 2000000
set_option maxRecDepth 4000
namespace Go.Ab.Tryz
open Go Go.Ab Go.Proofs

/-- Whether a line's end stands at a place. -/
def EndAt (s : List UInt8) (j : Nat) : Prop := s[j]? = some 13 ∧ s[j + 1]? = some 10
theorem crlf_first : ∀ (s : List UInt8) (k : Nat), EndAt s k → (∀ j, j < k → ¬ EndAt s j) → crlfAt s = some (s.take k, s.drop (k + 2))
  | [], k, h, _ => by simp [EndAt] at h
  | c :: t, 0, h, _ => by
    obtain ⟨h1, h2⟩ := h
    have e1 : c = 13 := by simpa using h1
    have e2 : t.head? = some 10 := by cases t with
      | nil => simp at h2
      | cons d t => simpa using h2
    unfold crlfAt
    rw [if_pos ⟨e1, e2⟩]
    cases t with
    | nil => simp at e2
    | cons d t => rfl
  | c :: t, k + 1, h, hno => by
    have h0 := hno 0 (by omega)
    have hn : ¬ (c = 13 ∧ t.head? = some 10) := fun ⟨e1, e2⟩ => h0 ⟨by simp [e1], by cases t with
      | nil => simp at e2
      | cons d t => simpa using e2⟩
    have h' : EndAt t k := ⟨by simpa using h.1, by simpa using h.2⟩
    have := crlf_first t k h' (fun j hj hE => hno (j + 1) (by omega) ⟨by simpa using hE.1, by simpa using hE.2⟩)
    unfold crlfAt
    rw [if_neg hn, this]
    simp
theorem crlf_never : ∀ (s : List UInt8), (∀ j, ¬ EndAt s j) → crlfAt s = none
  | [], _ => by simp [crlfAt]
  | c :: t, hno => by
    have hn : ¬ (c = 13 ∧ t.head? = some 10) := fun ⟨e1, e2⟩ => hno 0 ⟨by simp [e1], by cases t with
      | nil => simp at e2
      | cons d t => simpa using e2⟩
    have := crlf_never t (fun j hE => hno (j + 1) ⟨by simpa using hE.1, by simpa using hE.2⟩)
    unfold crlfAt
    rw [if_neg hn, this]; rfl

/-- Lines with their ends; what is left. -/
def linL (s : List UInt8) : List (List UInt8) × List UInt8 := match h : crlfAt s with
  | none => ([], s)
  | some (x, y) => ((x ++ [13, 10]) :: (linL y).1, (linL y).2)
termination_by s.length
decreasing_by all_goals (have := crlfAt_len h; omega)
theorem linL_none {s : List UInt8} (h : crlfAt s = none) : linL s = ([], s) := by
  rw [linL]; split
  · rfl
  · rename_i x y h2; rw [h] at h2; simp at h2
theorem linL_some {s x y : List UInt8} (h : crlfAt s = some (x, y)) : linL s = ((x ++ [13, 10]) :: (linL y).1, (linL y).2) := by
  conv => lhs; rw [linL]
  split
  · rename_i h2; rw [h] at h2; simp at h2
  · rename_i x' y' h2
    rw [h] at h2
    simp only [Option.some.injEq, Prod.mk.injEq] at h2
    rw [h2.1, h2.2]
theorem take_two {D X Y : List UInt8} {n : Nat} (e : D = X ++ 13 :: 10 :: Y) (hn : n = X.length + 2) : X ++ [13, 10] = D.take n := by
  rw [e, hn, List.take_append, List.take_of_length_le (by omega), show X.length + 2 - X.length = 2 by omega]; rfl
/-- One line more. -/
theorem linL_step {b : List UInt8} {at_ i : Nat} {out : List (List UInt8)} (hi : at_ + 1 ≤ i) (h13 : b[i - 1]? = some 13) (h10 : b[i]? = some 10) (hno : ∀ j, at_ ≤ j → j + 1 < i → ¬ EndAt b j)
    (h : linL b = (out ++ (linL (b.drop at_)).1, (linL (b.drop at_)).2)) : linL b = ((out ++ [(b.drop at_).take (i + 1 - at_)]) ++ (linL (b.drop (i + 1))).1, (linL (b.drop (i + 1))).2) := by
  have hE : EndAt (b.drop at_) (i - 1 - at_) := by
    refine ⟨?_, ?_⟩
    · rw [List.getElem?_drop, show at_ + (i - 1 - at_) = i - 1 by omega]; exact h13
    · rw [List.getElem?_drop, show at_ + (i - 1 - at_ + 1) = i by omega]; exact h10
  have hc := crlf_first (b.drop at_) (i - 1 - at_) hE (fun j hj hE => hno (at_ + j) (by omega) (by omega) ⟨by have := hE.1; rwa [List.getElem?_drop] at this, by have := hE.2; rwa [List.getElem?_drop, show at_ + (j + 1) = at_ + j + 1 by omega] at this⟩)
  have hd : (b.drop at_).drop (i - 1 - at_ + 2) = b.drop (i + 1) := by rw [List.drop_drop]; congr 1; omega
  rw [hd] at hc
  have hs := linL_some hc
  have hx : (b.drop at_).take (i - 1 - at_) ++ [13, 10] = (b.drop at_).take (i + 1 - at_) := by
    have e := crlfAt_eq hc
    have l1 : ((b.drop at_).take (i - 1 - at_)).length = i - 1 - at_ := by
      have := (List.getElem?_eq_some_iff.1 hE.1).1
      rw [List.length_take]; omega
    exact take_two e (by omega)
  rw [h, hs, hx]
  simp
end Go.Ab.Tryz

end
