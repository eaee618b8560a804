/- Plain: lines that end with the byte 10, and quotes. -/
import Derived.Test.YtadghefkbjacjaaGreatDoorSPath
import Derived.Test.YtadghefkbjacjaaGreatDoorLConvA
section
set_option linter.unusedVariables false
namespace Go.Ab
open Go

/-- Lines, with their ends, as far as they have one. -/
def lns : List UInt8 → List (List UInt8)
  | [] => []
  | c :: t => if c = 10 then [10] :: lns t else match lns t with
    | [] => [[c]]
    | l :: ls => (c :: l) :: ls

theorem lns_cons_ne {c : UInt8} {t : List UInt8} (h : c ≠ 10) : lns (c :: t) = match lns t with
    | [] => [[c]]
    | l :: ls => (c :: l) :: ls := by conv => lhs; rw [lns]
                                      rw [if_neg h]
theorem lns_cons_nl (t : List UInt8) : lns (10 :: t) = [10] :: lns t := by rw [lns, if_pos rfl]
theorem lns_none : ∀ {s : List UInt8}, cutAt 10 s = none → s ≠ [] → lns s = [s]
  | [], _, h => absurd rfl h
  | c :: t, hc, _ => by
    unfold cutAt at hc
    split at hc
    · simp at hc
    · rename_i h
      have hn : cutAt 10 t = none := by cases h2 : cutAt 10 t with
        | none => rfl
        | some p => rw [h2] at hc; simp at hc
      rw [lns_cons_ne h]
      cases t with
      | nil => rfl
      | cons d t => rw [lns_none hn (by simp)]
theorem lns_some : ∀ {s x y : List UInt8}, cutAt 10 s = some (x, y) → lns s = (x ++ [10]) :: lns y
  | [], x, y, h => by simp [cutAt] at h
  | c :: t, x, y, hc => by
    unfold cutAt at hc
    split at hc
    · rename_i h; subst h
      injection hc with hc; injection hc with h1 h2; subst h1; subst h2
      exact lns_cons_nl _
    · rename_i h
      cases h2 : cutAt 10 t with
      | none => rw [h2] at hc; simp at hc
      | some p =>
        rw [h2] at hc
        simp only [Option.map_some, Option.some.injEq, Prod.mk.injEq] at hc
        obtain ⟨h3, h4⟩ := hc
        subst h3; subst h4
        rw [lns_cons_ne h, lns_some (x := p.1) (y := p.2) (by rw [h2])]
        rfl
theorem cutAt_eq {c : UInt8} {s x y : List UInt8} (h : cutAt c s = some (x, y)) : s = x ++ c :: y := by
  induction s generalizing x y with
  | nil => simp [cutAt] at h
  | cons b l ih =>
    unfold cutAt at h
    split at h
    · rename_i hb; subst hb
      injection h with h; injection h with h1 h2; subst h1; subst h2; rfl
    · cases h2 : cutAt c l with
      | none => rw [h2] at h; simp at h
      | some p =>
        rw [h2] at h
        simp only [Option.map_some, Option.some.injEq, Prod.mk.injEq] at h
        obtain ⟨h3, h4⟩ := h
        subst h3; subst h4
        rw [ih (x := p.1) (y := p.2) (by rw [h2])]; rfl
theorem cutAt_not {c : UInt8} {s x y : List UInt8} (h : cutAt c s = some (x, y)) : c ∉ x := by
  induction s generalizing x y with
  | nil => simp [cutAt] at h
  | cons b l ih =>
    unfold cutAt at h
    split at h
    · injection h with h; injection h with h1 h2; subst h1; simp
    · rename_i hb
      cases h2 : cutAt c l with
      | none => rw [h2] at h; simp at h
      | some p =>
        rw [h2] at h
        simp only [Option.map_some, Option.some.injEq, Prod.mk.injEq] at h
        obtain ⟨h3, h4⟩ := h
        subst h3; subst h4
        have := ih (x := p.1) (y := p.2) (by rw [h2])
        simp only [List.mem_cons, not_or]
        exact ⟨fun e => hb e.symm, this⟩
theorem cutAt_of_not {c : UInt8} : ∀ {x y : List UInt8}, c ∉ x → cutAt c (x ++ c :: y) = some (x, y)
  | [], y, _ => by simp [cutAt]
  | b :: l, y, h => by
    simp only [List.mem_cons, not_or] at h
    rw [List.cons_append, cutAt, if_neg (fun e => h.1 e.symm), cutAt_of_not h.2]; rfl
theorem cutAt_none_not {c : UInt8} {s : List UInt8} (h : cutAt c s = none) : c ∉ s := by
  induction s with
  | nil => simp
  | cons b l ih =>
    unfold cutAt at h
    split at h
    · simp at h
    · rename_i hb
      cases h2 : cutAt c l with
      | some p => rw [h2] at h; simp at h
      | none =>
        simp only [List.mem_cons, not_or]
        exact ⟨fun e => hb e.symm, ih h2⟩
theorem cutAt_none_of {c : UInt8} : ∀ {s : List UInt8}, c ∉ s → cutAt c s = none
  | [], _ => rfl
  | b :: l, h => by
    simp only [List.mem_cons, not_or] at h
    rw [cutAt, if_neg (fun e => h.1 e.symm), cutAt_none_of h.2]; rfl
theorem lns_join : ∀ s : List UInt8, (lns s).flatten = s
  | [] => rfl
  | c :: t => by
    by_cases h : c = 10
    · subst h; rw [lns_cons_nl, List.flatten_cons, lns_join t]; rfl
    · rw [lns_cons_ne h]
      have := lns_join t
      cases h2 : lns t with
      | nil => rw [h2] at this; simp only [List.flatten_nil] at this; rw [← this]; rfl
      | cons l ls => rw [h2] at this; simp only [List.flatten_cons, List.cons_append] at this ⊢; rw [this]

/-- How many marks stand ahead of a line. -/
def mk : List UInt8 → Nat
  | [] => 0
  | c :: t => if c = 62 then mk t + 1 else 0
def fromB : List UInt8 := [70, 114, 111, 109, 32]
/-- Whether a line, behind marks, begins a letter. -/
def Bg (x : List UInt8) : Prop := (x.drop (mk x)).take 5 = fromB
instance (x : List UInt8) : Decidable (Bg x) := inferInstanceAs (Decidable (_ = _))
def quoteL (x : List UInt8) : List UInt8 := if Bg x then 62 :: x else x
def unquoteL (x : List UInt8) : List UInt8 := if Bg x ∧ 0 < mk x then x.drop 1 else x
def quoteS (b : List UInt8) : List UInt8 := (lns b).flatMap quoteL
def unquoteS (b : List UInt8) : List UInt8 := (lns b).flatMap unquoteL

theorem mk_le : ∀ x : List UInt8, mk x ≤ x.length
  | [] => Nat.le_refl _
  | c :: t => by
    unfold mk; split
    · have := mk_le t; simp only [List.length_cons]; omega
    · omega
theorem mk_at : ∀ (x : List UInt8) (i : Nat), i < mk x → x.getD i 0 = 62
  | [], i, h => absurd h (Nat.not_lt_zero _)
  | c :: t, i, h => by
    unfold mk at h
    split at h
    · rename_i hc
      cases i with
      | zero => simpa using hc
      | succ i => have := mk_at t i (by omega); simpa using this
    · exact absurd h (Nat.not_lt_zero _)
theorem mk_end : ∀ (x : List UInt8), mk x < x.length → x.getD (mk x) 0 ≠ 62
  | [], h => absurd h (Nat.not_lt_zero _)
  | c :: t, h => by
    by_cases hc : c = 62
    · have e : mk (c :: t) = mk t + 1 := by rw [mk, if_pos hc]
      rw [e] at h ⊢
      have := mk_end t (by simpa using h)
      simpa using this
    · have e : mk (c :: t) = 0 := by rw [mk, if_neg hc]
      rw [e]; simpa using hc
theorem mk_unique {x : List UInt8} {i : Nat} (h1 : ∀ k, k < i → x.getD k 0 = 62) (hi : i ≤ x.length) (h2 : i < x.length → x.getD i 0 ≠ 62) : mk x = i := by
  rcases Nat.lt_trichotomy (mk x) i with h | h | h
  · exact absurd (h1 _ h) (mk_end x (by omega))
  · exact h
  · exact absurd (mk_at x i h) (h2 (by have := mk_le x; omega))
theorem mk_quote (x : List UInt8) : mk (62 :: x) = mk x + 1 := by rw [mk, if_pos rfl]
theorem bg_quote {x : List UInt8} : Bg (62 :: x) ↔ Bg x := by unfold Bg; rw [mk_quote]; rfl
theorem unquote_quoteL (x : List UInt8) : unquoteL (quoteL x) = x := by
  unfold quoteL
  by_cases h : Bg x
  · rw [if_pos h]; unfold unquoteL; rw [if_pos ⟨bg_quote.2 h, by rw [mk_quote]; omega⟩]; rfl
  · rw [if_neg h]; unfold unquoteL; rw [if_neg (fun hh => h hh.1)]

/-- A line of some bytes: no end within it. -/
def IsLine (x : List UInt8) : Prop := ∃ y, 10 ∉ y ∧ x = y ++ [10]
theorem isLine_quote {x : List UInt8} (h : IsLine x) : IsLine (quoteL x) := by
  obtain ⟨y, h1, h2⟩ := h
  unfold quoteL
  split
  · exact ⟨62 :: y, by simp [h1], by rw [h2]; rfl⟩
  · exact ⟨y, h1, h2⟩
theorem lns_line {x : List UInt8} (h : IsLine x) (r : List UInt8) : lns (x ++ r) = x :: lns r := by
  obtain ⟨y, h1, h2⟩ := h
  subst h2
  have e : y ++ [10] ++ r = y ++ 10 :: r := by simp
  rw [e, lns_some (cutAt_of_not h1)]
/-- Lines: each has an end, perhaps not the last one. -/
theorem lns_shape : ∀ n (s : List UInt8), s.length ≤ n → (s = [] ∧ lns s = []) ∨ (s ≠ [] ∧ 10 ∉ s ∧ lns s = [s]) ∨ ∃ x r, s = x ++ r ∧ IsLine x ∧ lns s = x :: lns r ∧ r.length < s.length := by
  intro n s _
  cases h : cutAt 10 s with
  | none =>
    by_cases h0 : s = []
    · exact .inl ⟨h0, by rw [h0]; rfl⟩
    · exact .inr (.inl ⟨h0, cutAt_none_not h, lns_none h h0⟩)
  | some p =>
    obtain ⟨x, y⟩ := p
    have e := cutAt_eq h
    refine .inr (.inr ⟨x ++ [10], y, by rw [e]; simp, ⟨x, cutAt_not h, rfl⟩, lns_some h, ?_⟩)
    rw [e]; simp only [List.length_append, List.length_cons]; omega
theorem lns_quote (s : List UInt8) : lns (quoteS s) = (lns s).map quoteL := by
  induction hn : s.length using Nat.strongRecOn generalizing s with
  | _ n ih =>
    subst hn
    rcases lns_shape _ s (Nat.le_refl _) with ⟨h, h2⟩ | ⟨h, h1, h2⟩ | ⟨x, r, h, h1, h2, h3⟩
    · unfold quoteS; rw [h2]; rfl
    · unfold quoteS; rw [h2]
      simp only [List.flatMap_cons, List.flatMap_nil, List.append_nil, List.map_cons, List.map_nil]
      have : 10 ∉ quoteL s ∧ quoteL s ≠ [] := by
        unfold quoteL; split
        · simp [h1]
        · exact ⟨h1, h⟩
      exact lns_none (cutAt_none_of this.1) this.2
    · unfold quoteS; rw [h2]
      simp only [List.flatMap_cons, List.map_cons]
      rw [lns_line (isLine_quote h1)]
      have := ih r.length h3 r rfl
      unfold quoteS at this
      rw [this]
theorem unquote_quote (s : List UInt8) : unquoteS (quoteS s) = s := by
  unfold unquoteS
  rw [lns_quote, List.flatMap_map]
  have : (fun x => unquoteL (quoteL x)) = id := by funext x; exact unquote_quoteL x
  rw [this, List.flatMap_id]
  exact lns_join s

/-- What is quoted begins no letter. -/
theorem quote_start (s : List UInt8) : (quoteS s).take 5 ≠ fromB := by
  rcases lns_shape _ s (Nat.le_refl _) with ⟨h, h2⟩ | ⟨h, h1, h2⟩ | ⟨x, r, h, h1, h2, h3⟩
  · unfold quoteS; rw [h2]; simp [fromB]
  · unfold quoteS; rw [h2]
    simp only [List.flatMap_cons, List.flatMap_nil, List.append_nil]
    intro hh
    unfold quoteL at hh
    split at hh
    · simp [fromB] at hh
    · rename_i hb
      refine hb ?_
      cases s with
      | nil => simp [fromB] at hh
      | cons c t =>
        have : c = 70 := by simpa [fromB] using (List.cons.inj hh).1
        have e : mk (c :: t) = 0 := by rw [mk, if_neg (by rw [this]; decide)]
        unfold Bg; rw [e]; exact hh
  · unfold quoteS; rw [h2]
    simp only [List.flatMap_cons]
    intro hh
    obtain ⟨y, hy, hx⟩ := h1
    unfold quoteL at hh
    split at hh
    · simp [fromB] at hh
    · rename_i hb
      refine hb ?_
      subst hx
      by_cases h5 : 5 ≤ (y ++ [10]).length
      · rw [List.take_append_of_le_length h5] at hh
        cases hyy : y ++ [10] with
        | nil => rw [hyy] at hh; simp [fromB] at hh
        | cons c t =>
          rw [hyy] at hh
          have : c = 70 := by simpa [fromB] using (List.cons.inj hh).1
          have e : mk (c :: t) = 0 := by rw [mk, if_neg (by rw [this]; decide)]
          unfold Bg; rw [e]; exact hh
      · exfalso
        have : (10 : UInt8) ∈ fromB := by
          rw [← hh]
          rw [List.take_append]
          refine List.mem_append_left _ ?_
          rw [List.take_of_length_le (by omega)]
          simp
        simp [fromB] at this
/-- No line of what is quoted begins a letter. -/
theorem quote_lines (s : List UInt8) : ∀ i, ((10 :: quoteS s).drop i).take 6 ≠ 10 :: fromB := by
  induction hn : s.length using Nat.strongRecOn generalizing s with
  | _ n ih =>
    subst hn
    intro i
    cases i with
    | zero =>
      intro hh
      simp only [List.drop_zero, List.take_succ_cons, List.cons.injEq, true_and] at hh
      exact quote_start s hh
    | succ i =>
      rw [List.drop_succ_cons]
      rcases lns_shape _ s (Nat.le_refl _) with ⟨h, h2⟩ | ⟨h, h1, h2⟩ | ⟨x, r, h, h1, h2, h3⟩
      · unfold quoteS; rw [h2]; simp
      · unfold quoteS; rw [h2]
        simp only [List.flatMap_cons, List.flatMap_nil, List.append_nil]
        have hq : 10 ∉ quoteL s := by unfold quoteL; split <;> simp [h1]
        intro hh
        refine hq ?_
        have : (10 : UInt8) ∈ List.take 6 (List.drop i (quoteL s)) := by rw [hh]; simp
        exact List.mem_of_mem_drop (List.mem_of_mem_take this)
      · have hs : quoteS s = quoteL x ++ quoteS r := by unfold quoteS; rw [h2, List.flatMap_cons]
        rw [hs]
        obtain ⟨y, hy, hx⟩ := isLine_quote h1
        rw [hx]
        by_cases hi : i < y.length
        · intro hh
          rw [List.append_assoc, List.drop_append_of_le_length (by omega), List.drop_eq_getElem_cons hi] at hh
          have : y[i] = 10 := by simpa using (List.cons.inj hh).1
          exact hy (this ▸ List.getElem_mem _)
        · have e : y ++ [10] ++ quoteS r = y ++ (10 :: quoteS r) := by simp
          rw [e, List.drop_append, List.drop_eq_nil_of_le (by omega), List.nil_append]
          exact ih r.length h3 r rfl _

end Go.Ab

namespace Go.Ab
theorem lns_ne : ∀ (s : List UInt8) (x : List UInt8), x ∈ lns s → 0 < x.length
  | [], x, h => by simp [lns] at h
  | c :: t, x, h => by
    by_cases hc : c = 10
    · subst hc
      rw [lns_cons_nl, List.mem_cons] at h
      rcases h with rfl | h
      · simp
      · exact lns_ne t x h
    · rw [lns_cons_ne hc] at h
      cases h2 : lns t with
      | nil => rw [h2] at h; simp at h; subst h; simp
      | cons l ls =>
        rw [h2] at h; simp only [List.mem_cons] at h
        rcases h with rfl | h
        · simp
        · exact lns_ne t x (by rw [h2]; simp [h])
theorem quoteL_len (x : List UInt8) : (quoteL x).length ≤ x.length + 1 := by unfold quoteL; split <;> simp
theorem unquoteL_len (x : List UInt8) : (unquoteL x).length ≤ x.length := by unfold unquoteL; split <;> simp
theorem quote_sum : ∀ l : List (List UInt8), (∀ x ∈ l, 0 < x.length) → (l.flatMap quoteL).length ≤ 2 * l.flatten.length
  | [], _ => by simp
  | x :: l, h => by
    have := quote_sum l (fun y hy => h y (by simp [hy]))
    have h1 := quoteL_len x
    have h2 := h x (by simp)
    simp only [List.flatMap_cons, List.length_append, List.flatten_cons]; omega
theorem unquote_sum : ∀ l : List (List UInt8), (l.flatMap unquoteL).length ≤ l.flatten.length
  | [] => by simp
  | x :: l => by
    have := unquote_sum l
    have h1 := unquoteL_len x
    simp only [List.flatMap_cons, List.length_append, List.flatten_cons]; omega
theorem lns_parts {b x : List UInt8} {pre post : List (List UInt8)} (h : lns b = pre ++ x :: post) : pre.flatten.length + x.length ≤ b.length ∧ (∀ y ∈ pre, 0 < y.length) ∧ 0 < x.length := by
  have h1 := congrArg List.length (lns_join b)
  rw [h] at h1
  simp only [List.flatten_append, List.flatten_cons, List.length_append] at h1
  exact ⟨by omega, fun y hy => lns_ne b y (by rw [h]; simp [hy]), lns_ne b x (by rw [h]; simp)⟩
theorem quoteS_len (b : List UInt8) : (quoteS b).length ≤ 2 * b.length := by
  have := quote_sum (lns b) (lns_ne b)
  rw [lns_join] at this; exact this
theorem unquoteS_len (b : List UInt8) : (unquoteS b).length ≤ b.length := by
  have := unquote_sum (lns b)
  rw [lns_join] at this; exact this
end Go.Ab

namespace Go.Ab
theorem not_mem_range {b : List UInt8} {at_ i : Nat} (hi : i ≤ b.length) (h : ∀ k, at_ ≤ k → k < i → b.getD k 0 ≠ 10) : 10 ∉ (b.take i).drop at_ := by
  intro hm
  obtain ⟨k, hk, he⟩ := List.getElem_of_mem hm
  simp only [List.length_drop, List.length_take] at hk
  refine h (at_ + k) (by omega) (by omega) ?_
  rw [List.getElem_drop, List.getElem_take] at he
  rw [List.getD_eq_getElem?_getD, List.getElem?_eq_getElem (by omega)]
  exact he
theorem lns_step {b : List UInt8} {at_ i : Nat} (ha : at_ ≤ i) (hi : i < b.length) (h : ∀ k, at_ ≤ k → k < i → b.getD k 0 ≠ 10) (h10 : b.getD i 0 = 10) : lns (b.drop at_) = (b.take (i + 1)).drop at_ :: lns (b.drop (i + 1)) := by
  have h1 := not_mem_range (Nat.le_of_lt hi) h
  have e1 : b[i] = 10 := by rw [List.getD_eq_getElem?_getD, List.getElem?_eq_getElem hi] at h10; exact h10
  have e2 : (b.take (i + 1)).drop at_ = (b.take i).drop at_ ++ [10] := by
    rw [List.take_succ_eq_append_getElem hi, List.drop_append_of_le_length (by rw [List.length_take]; omega), e1]
  have e3 : b.drop at_ = (b.take i).drop at_ ++ 10 :: b.drop (i + 1) := by
    conv => lhs; rw [← List.take_append_drop i b]
    rw [List.drop_append_of_le_length (by rw [List.length_take]; omega), List.drop_eq_getElem_cons hi, e1]
  rw [e2]
  have := lns_some (cutAt_of_not (c := 10) (y := b.drop (i + 1)) h1)
  rw [← e3] at this
  exact this
theorem lns_rest {b : List UInt8} {at_ : Nat} (ha : at_ < b.length) (h : ∀ k, at_ ≤ k → k < b.length → b.getD k 0 ≠ 10) : lns (b.drop at_) = [b.drop at_] := by
  have h1 := not_mem_range (Nat.le_refl _) h
  rw [List.take_length] at h1
  exact lns_none (cutAt_none_of h1) (by intro e; have := congrArg List.length e; simp at this; omega)
end Go.Ab

namespace Go.Ab
theorem lns_count (b : List UInt8) : (lns b).length ≤ b.length := by
  have h1 := congrArg List.length (lns_join b)
  have : ∀ l : List (List UInt8), (∀ x ∈ l, 0 < x.length) → l.length ≤ l.flatten.length := by
    intro l
    induction l with
    | nil => simp
    | cons x l ih =>
      intro h
      have := ih (fun y hy => h y (by simp [hy]))
      have := h x (by simp)
      simp only [List.length_cons, List.flatten_cons, List.length_append]; omega
  have := this (lns b) (lns_ne b)
  omega
theorem lns_at_len {b : List UInt8} {i : Nat} (h : i < (lns b).length) : ((lns b).getD i []).length ≤ b.length ∧ 0 < ((lns b).getD i []).length := by
  have hg : (lns b).getD i [] = (lns b)[i] := by simp [List.getD_eq_getElem?_getD, h]
  have e : lns b = (lns b).take i ++ (lns b)[i] :: (lns b).drop (i + 1) := by rw [← List.drop_eq_getElem_cons h, List.take_append_drop]
  have := lns_parts e
  rw [hg]; omega
theorem flatten_take_le (l : List (List UInt8)) (i : Nat) : (l.take i).flatten.length ≤ l.flatten.length := by
  conv => rhs; rw [← List.take_append_drop i l]
  rw [List.flatten_append, List.length_append]; omega
theorem quote_take (b : List UInt8) (i : Nat) : (((lns b).take i).flatMap quoteL).length ≤ 2 * b.length := by
  have h1 := quote_sum ((lns b).take i) (fun x hx => lns_ne b x (List.mem_of_mem_take hx))
  have h2 := flatten_take_le (lns b) i
  rw [lns_join] at h2; omega
theorem unquote_take (b : List UInt8) (i : Nat) : (((lns b).take i).flatMap unquoteL).length ≤ b.length := by
  have h1 := unquote_sum ((lns b).take i)
  have h2 := flatten_take_le (lns b) i
  rw [lns_join] at h2; omega
end Go.Ab

end

section
set_option linter.unusedSimpArgs false
set_option linter.unusedVariables false
set_option maxHeartbeats 2000000
set_option maxRecDepth 4000
namespace Go.Ab.Tryz
open Go Go.Ab Go.Proofs
attribute [local irreducible] W Wl Wop TrA WSeq WLoopS FPost DPost RPost WRound DK onEnd
variable {n0 : Nat} {w0 : World} {gl : Nat → List AV} {H : List AO}
attribute [local simp] belowL_bytesAV

theorem bytesAV_hd {s : List UInt8} {i : Nat} (h : i < s.length) : (List.take 1 (bytesAV (List.drop i s))).headD .top = .int .u8 ((s.getD i 0).toNat) := by
  rw [List.drop_eq_getElem_cons h]
  show byteAV _ = _
  simp [byteAV, List.getD_eq_getElem?_getD, h]
theorem bytesAV_tl (s : List UInt8) (i : Nat) : List.drop 1 (List.take (s.length - i) (bytesAV (List.drop i s))) = bytesAV (List.drop (i + 1) s) := by
  rw [List.take_of_length_le (by simp [bytesAV])]
  simp [bytesAV]
/-- A byte that is read. -/
theorem hd_bytesAV {s : List UInt8} {i : Nat} (h : i < s.length) : (List.take 1 (List.drop i (bytesAV s))).headD .top = .int .u8 ((s.getD i 0).toNat) := by
  rw [show List.drop i (bytesAV s) = bytesAV (s.drop i) by simp [bytesAV]]; exact bytesAV_hd h
theorem toNat_plus (i k : Nat) : ((i : Int) + (no_index (OfNat.ofNat k) : Int)).toNat = i + OfNat.ofNat k := by
  show ((i : Int) + ((k : Nat) : Int)).toNat = i + k
  omega
attribute [go_sem] hd_bytesAV toNat_plus
instance bequal_t (s t : List UInt8) (n m : Nat) (tok tok2 : Tok) : Ctr (env n0 w0 gl) 73 [.sl n (bytesAV s) tok, .sl m (bytesAV t) tok2] H (s.length = n ∧ t.length = m) (.bool (decide (s = t))) H := .of fun ⟨h1, h2⟩ => by
  refine enter (md := fun _ => 0) Tryz.func73 (fun hfit hgl => ?_)
  repeat' (first | refine go ?_ | (refine br (fun hc => ?_) (fun hc => ?_) <;> try (exfalso; omega)) | fail)
  exact .now ⟨rfl, rfl⟩

instance bIndexByte10_t (s : List UInt8) (tok : Tok) : Ctr (env n0 w0 gl) 283 [.sl s.length (bytesAV s) tok, .int .u8 10] H True (.int .i64 (Lib.indexByte s 10)) H := bIndexByte_t s tok 10
end Go.Ab.Tryz

end
