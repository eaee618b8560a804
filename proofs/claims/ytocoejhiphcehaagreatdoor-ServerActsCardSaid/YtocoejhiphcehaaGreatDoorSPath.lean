/- What path's functions say, in plain words. -/
import Derived.Test.YtocoejhiphcehaaGreatDoorFrC
import Derived.Lib.Bytealg
namespace Go.Ab
open Go

/-- The first place of a byte. -/
theorem indexByte_cases (s : List UInt8) (c : UInt8) : (Lib.indexByte s c = -1 ∧ ∀ i, i < s.length → s.getD i 0 ≠ c) ∨ ∃ k : Nat, k < s.length ∧ Lib.indexByte s c = (k : Int) ∧ s.getD k 0 = c ∧ ∀ i, i < k → s.getD i 0 ≠ c := by
  induction s with
  | nil => exact .inl ⟨rfl, fun i h => absurd h (Nat.not_lt_zero _)⟩
  | cons b l ih =>
    unfold Lib.indexByte
    by_cases hb : b = c
    · subst hb
      refine .inr ⟨0, by simp, by simp, by simp, fun i h => absurd h (Nat.not_lt_zero _)⟩
    · have hb' : (b == c) = false := by simpa using hb
      rw [hb']
      rcases ih with ⟨h, h2⟩ | ⟨k, hk, h, h1, h2⟩
      · refine .inl ⟨by rw [h]; rfl, fun i hi => ?_⟩
        cases i with
        | zero => simpa using hb
        | succ i => simpa using h2 i (by simpa using hi)
      · refine .inr ⟨k + 1, by simpa using hk, ?_, by simpa using h1, fun i hi => ?_⟩
        · have : (Lib.indexByte l c == -1) = false := by rw [h]; exact beq_eq_false_iff_ne.2 (by omega)
          rw [if_neg (by simp), this, if_neg (by simp), h]; omega
        · cases i with
          | zero => simpa using hb
          | succ i => simpa using h2 i (by omega)

/-- What stands before the first such byte, and behind it. -/
def cutAt (c : UInt8) : List UInt8 → Option (List UInt8 × List UInt8)
  | [] => none
  | b :: l => if b = c then some ([], l) else (cutAt c l).map fun p => (b :: p.1, p.2)

theorem cutAt_idx (c : UInt8) : ∀ (s : List UInt8), (Lib.indexByte s c = -1 ∧ cutAt c s = none) ∨ ∃ k : Nat, k < s.length ∧ Lib.indexByte s c = (k : Int) ∧ cutAt c s = some (s.take k, s.drop (k + 1)) := by
  intro s
  induction s with
  | nil => exact .inl ⟨rfl, rfl⟩
  | cons b l ih =>
    unfold Lib.indexByte cutAt
    by_cases hb : b = c
    · subst hb
      exact .inr ⟨0, by simp, by simp, by simp⟩
    · have hb' : (b == c) = false := by simpa using hb
      rw [hb', if_neg hb]
      rcases ih with ⟨h, h2⟩ | ⟨k, hk, h, h2⟩
      · exact .inl ⟨by rw [h]; rfl, by rw [h2]; rfl⟩
      · refine .inr ⟨k + 1, by simpa using hk, ?_, by rw [h2]; rfl⟩
        have : (Lib.indexByte l c == -1) = false := by rw [h]; exact beq_eq_false_iff_ne.2 (by omega)
        rw [if_neg (by simp), this, if_neg (by simp), h]; omega

theorem cutAt_len {c : UInt8} {s x y : List UInt8} (h : cutAt c s = some (x, y)) : s.length = x.length + 1 + y.length := by
  induction s generalizing x y with
  | nil => simp [cutAt] at h
  | cons b l ih =>
    unfold cutAt at h
    split at h
    · injection h with h; injection h with h1 h2; subst h1; subst h2; simp; omega
    · cases hc : cutAt c l with
      | none => rw [hc] at h; simp at h
      | some p =>
        rw [hc] at h
        simp only [Option.map_some, Option.some.injEq, Prod.mk.injEq] at h
        obtain ⟨h1, h2⟩ := h
        subst h1; subst h2
        have := ih (x := p.1) (y := p.2) (by rw [hc])
        simp only [List.length_cons]; omega

/-- What stands between such bytes. -/
def parts (c : UInt8) : List UInt8 → List (List UInt8)
  | [] => [[]]
  | b :: l => if b = c then [] :: parts c l else match parts c l with
    | p :: ps => (b :: p) :: ps
    | [] => [[b]]

theorem parts_ne (c : UInt8) (s : List UInt8) : parts c s ≠ [] := by
  cases s with
  | nil => simp [parts]
  | cons b l => unfold parts; split <;> (try split) <;> simp

theorem parts_none {c : UInt8} {s : List UInt8} (h : cutAt c s = none) : parts c s = [s] := by
  induction s with
  | nil => rfl
  | cons b l ih =>
    unfold cutAt at h
    split at h
    · simp at h
    · rename_i hb
      have : cutAt c l = none := by cases hc : cutAt c l with
        | none => rfl
        | some p => rw [hc] at h; simp at h
      unfold parts
      rw [if_neg hb, ih this]

theorem parts_some {c : UInt8} {s x y : List UInt8} (h : cutAt c s = some (x, y)) : parts c s = x :: parts c y := by
  induction s generalizing x y with
  | nil => simp [cutAt] at h
  | cons b l ih =>
    unfold cutAt at h
    split at h
    · rename_i hb
      injection h with h; injection h with h1 h2; subst h1; subst h2
      rw [parts, if_pos hb]
    · rename_i hb
      cases hc : cutAt c l with
      | none => rw [hc] at h; simp at h
      | some p =>
        rw [hc] at h
        simp only [Option.map_some, Option.some.injEq, Prod.mk.injEq] at h
        obtain ⟨h1, h2⟩ := h
        subst h1; subst h2
        have := ih (x := p.1) (y := p.2) (by rw [hc])
        rw [parts, if_neg hb, this]

/-- A byte's kind. -/
def marks : List UInt8 := [33, 35, 36, 37, 38, 39, 42, 43, 45, 47, 61, 63, 94, 95, 123, 124, 125, 126, 96]
def kindN (c : UInt8) : Int := if (97 ≤ c.toNat ∧ c.toNat ≤ 122) ∨ (65 ≤ c.toNat ∧ c.toNat ≤ 90) ∨ (48 ≤ c.toNat ∧ c.toNat ≤ 57) then 2 else if 0 ≤ Lib.indexByte marks c then 1 else 0
/-- A part of a domain. -/
def LabelOk (s : List UInt8) : Prop := s.length ≠ 0 ∧ s.length ≤ 63 ∧ (s.getD 0 0).toNat ≠ 45 ∧ (s.getD (s.length - 1) 0).toNat ≠ 45 ∧ ∀ i, i < s.length → kindN (s.getD i 0) = 2 ∨ (s.getD i 0).toNat = 45
def DomainOk (s : List UInt8) : Prop := (∀ p ∈ parts 46 s, LabelOk p) ∧ s.length ≤ 255
def AtomOk (s : List UInt8) : Prop := (∀ i, i < s.length → kindN (s.getD i 0) ≠ 0) ∧ s.length ≠ 0
/-- The last place of a byte. -/
def lastAt (c : UInt8) (s : List UInt8) : Nat → Int
  | 0 => -1
  | k + 1 => if s.getD k 0 = c then k else lastAt c s k
theorem lastAt_cases (c : UInt8) (s : List UInt8) : ∀ n, (lastAt c s n = -1) ∨ ∃ k : Nat, k < n ∧ lastAt c s n = (k : Int) := by
  intro n
  induction n with
  | zero => exact .inl rfl
  | succ n ih =>
    unfold lastAt
    split
    · exact .inr ⟨n, by omega, rfl⟩
    · rcases ih with h | ⟨k, hk, h⟩
      · exact .inl h
      · exact .inr ⟨k, by omega, h⟩
theorem lastAt_hit {c : UInt8} {s : List UInt8} {n : Nat} (hn : 0 < n) (h : (s.getD (n - 1) 0).toNat = c.toNat) : lastAt c s n = (n : Int) - 1 := by
  obtain ⟨m, rfl⟩ : ∃ m, n = m + 1 := ⟨n - 1, by omega⟩
  rw [Nat.add_sub_cancel] at h
  rw [lastAt, if_pos (UInt8.toNat_inj.1 h)]; omega
theorem lastAt_miss {c : UInt8} {s : List UInt8} {n : Nat} (hn : 0 < n) (h : ¬ (s.getD (n - 1) 0).toNat = c.toNat) : lastAt c s n = lastAt c s (n - 1) := by
  obtain ⟨m, rfl⟩ : ∃ m, n = m + 1 := ⟨n - 1, by omega⟩
  rw [Nat.add_sub_cancel] at h ⊢
  rw [lastAt, if_neg (fun e => h (by rw [e]))]
def MailboxOk (s : List UInt8) : Prop := ∃ k : Nat, lastAt 64 s s.length = (k : Int) ∧ 1 ≤ k ∧ k ≤ 64 ∧ DomainOk (s.drop (k + 1)) ∧ ∀ p ∈ parts 46 (s.take k), AtomOk p

theorem parts_len {c : UInt8} {s p : List UInt8} (h : p ∈ parts c s) : p.length ≤ s.length := by
  induction s generalizing p with
  | nil => simp [parts] at h; subst h; simp
  | cons b l ih =>
    unfold parts at h
    split at h
    · rcases List.mem_cons.1 h with h | h
      · subst h; simp
      · have := ih h; simp; omega
    · split at h
      · rename_i q qs hq
        rcases List.mem_cons.1 h with h | h
        · subst h; have := ih (p := q) (by rw [hq]; simp); simp; omega
        · have := ih (p := p) (by rw [hq]; simp [h]); simp; omega
      · simp at h; subst h; simp

theorem kind2_iff (c : UInt8) : kindN c = 2 ↔ (97 ≤ c.toNat ∧ c.toNat ≤ 122) ∨ (65 ≤ c.toNat ∧ c.toNat ≤ 90) ∨ (48 ≤ c.toNat ∧ c.toNat ≤ 57) := by
  unfold kindN
  split
  · simp [*]
  · split <;> simp [*]
theorem mem_indexByte (l : List UInt8) (c : UInt8) : 0 ≤ Lib.indexByte l c ↔ c ∈ l := by
  induction l with
  | nil => simp [Lib.indexByte]
  | cons b l ih =>
    unfold Lib.indexByte
    by_cases hb : b = c
    · subst hb; simp
    · have hb' : (b == c) = false := by simpa using hb
      have hc : ¬ c = b := fun h => hb h.symm
      rw [hb', if_neg (by simp), List.mem_cons]
      have hge := Lib.indexByte_ge l c
      by_cases h : Lib.indexByte l c = -1
      · rw [h] at ih ⊢
        simp only [beq_self_eq_true, if_true]
        constructor
        · intro h; omega
        · rintro (h | h)
          · exact absurd h hc
          · have := ih.2 h; omega
      · rw [if_neg (by simpa using h)]
        constructor
        · intro _; exact .inr (ih.1 (by omega))
        · intro _; omega
theorem kind0_iff (c : UInt8) : kindN c ≠ 0 ↔ kindN c = 2 ∨ (c.toNat = 33 ∨ c.toNat = 35 ∨ c.toNat = 36 ∨ c.toNat = 37 ∨ c.toNat = 38 ∨ c.toNat = 39 ∨ c.toNat = 42 ∨ c.toNat = 43 ∨ c.toNat = 45 ∨ c.toNat = 47 ∨ c.toNat = 61 ∨ c.toNat = 63 ∨ c.toNat = 94 ∨ c.toNat = 95 ∨ c.toNat = 123 ∨ c.toNat = 124 ∨ c.toNat = 125 ∨ c.toNat = 126 ∨ c.toNat = 96) := by
  have hm : 0 ≤ Lib.indexByte marks c ↔ (c.toNat = 33 ∨ c.toNat = 35 ∨ c.toNat = 36 ∨ c.toNat = 37 ∨ c.toNat = 38 ∨ c.toNat = 39 ∨ c.toNat = 42 ∨ c.toNat = 43 ∨ c.toNat = 45 ∨ c.toNat = 47 ∨ c.toNat = 61 ∨ c.toNat = 63 ∨ c.toNat = 94 ∨ c.toNat = 95 ∨ c.toNat = 123 ∨ c.toNat = 124 ∨ c.toNat = 125 ∨ c.toNat = 126 ∨ c.toNat = 96) := by
    rw [mem_indexByte]
    simp [marks, ← UInt8.toNat_inj]
  rw [← hm]
  clear hm
  unfold kindN
  split
  · simp
  · split <;> simp [*]
theorem parts_pos (c : UInt8) (s : List UInt8) : 0 < (parts c s).length := List.length_pos_iff.2 (parts_ne c s)
/-- The parts of what is read so far, and what has begun. -/
theorem parts_snoc_eq {c : UInt8} : ∀ (s : List UInt8), ∃ ps p, parts c s = ps ++ [p] ∧ (∀ b, b ≠ c → parts c (s ++ [b]) = ps ++ [p ++ [b]]) ∧ parts c (s ++ [c]) = ps ++ [p, []] := by
  intro s
  induction s with
  | nil => exact ⟨[], [], rfl, fun b hb => by simp [parts, hb], by simp [parts]⟩
  | cons x l ih =>
    obtain ⟨ps, p, h1, h2, h3⟩ := ih
    by_cases hx : x = c
    · subst hx
      exact ⟨[] :: ps, p, by simp [parts, h1], fun b hb => by simp [parts, h2 b hb], by simp [parts, h3]⟩
    · cases ps with
      | nil =>
        refine ⟨[], x :: p, by simp [parts, hx, h1], fun b hb => by simp [parts, hx, h2 b hb], by simp [parts, hx, h3]⟩
      | cons q qs =>
        refine ⟨(x :: q) :: qs, p, by simp [parts, hx, h1], fun b hb => by simp [parts, hx, h2 b hb], by simp [parts, hx, h3]⟩

theorem parts_at {c : UInt8} {s' : List UInt8} {out : List (List UInt8)} {p : List UInt8} (h : parts c s' = out ++ [p]) : (∀ b, b ≠ c → parts c (s' ++ [b]) = out ++ [p ++ [b]]) ∧ parts c (s' ++ [c]) = out ++ [p, []] := by
  obtain ⟨ps, p', h1, h2, h3⟩ := parts_snoc_eq (c := c) s'
  rw [h] at h1
  obtain ⟨rfl, h4⟩ := List.append_inj' h1 rfl
  injection h4 with h4; subst h4
  exact ⟨h2, h3⟩
theorem take_succ_getD {s : List UInt8} {i : Nat} (hi : i < s.length) : s.take (i + 1) = s.take i ++ [s.getD i 0] := by
  rw [List.take_add_one, List.getElem?_eq_getElem hi, List.getD_eq_getElem?_getD, List.getElem?_eq_getElem hi]; rfl
theorem parts_dot {c : UInt8} {s : List UInt8} {i at_ : Nat} {out : List (List UInt8)} (hi : i < s.length) (h : parts c (s.take i) = out ++ [(s.take i).drop at_]) (hc : (s.getD i 0).toNat = c.toNat) :
    parts c (s.take (i + 1)) = (out ++ [(s.take i).drop at_]) ++ [(s.take (i + 1)).drop (i + 1)] := by
  have e : s.getD i 0 = c := UInt8.toNat_inj.1 hc
  have e2 : (s.take (i + 1)).drop (i + 1) = [] := List.drop_eq_nil_of_le (by simp; omega)
  rw [e2, take_succ_getD hi, e, (parts_at h).2]
  simp
theorem parts_other {c : UInt8} {s : List UInt8} {i at_ : Nat} {out : List (List UInt8)} (hi : i < s.length) (ha : at_ ≤ i) (h : parts c (s.take i) = out ++ [(s.take i).drop at_]) (hc : ¬ (s.getD i 0).toNat = c.toNat) :
    parts c (s.take (i + 1)) = out ++ [(s.take (i + 1)).drop at_] := by
  have e : s.getD i 0 ≠ c := fun h => hc (by rw [h])
  rw [take_succ_getD hi, (parts_at h).1 _ e, List.drop_append_of_le_length (by simp; omega)]

theorem parts_getD_len {c : UInt8} {s : List UInt8} {j : Nat} (hj : j < (parts c s).length) : ((parts c s).getD j []).length ≤ s.length := by
  refine parts_len (c := c) ?_
  rw [List.getD_eq_getElem?_getD, List.getElem?_eq_getElem hj]
  exact List.getElem_mem hj
theorem parts_all {c : UInt8} {s : List UInt8} {F : List UInt8 → Prop} : (∀ p ∈ parts c s, F p) ↔ ∀ j, j < (parts c s).length → F ((parts c s).getD j []) := by
  constructor
  · intro h j hj
    refine h _ ?_
    rw [List.getD_eq_getElem?_getD, List.getElem?_eq_getElem hj]
    exact List.getElem_mem hj
  · intro h p hp
    obtain ⟨j, hj, rfl⟩ := List.mem_iff_getElem.1 hp
    have := h j hj
    rwa [List.getD_eq_getElem?_getD, List.getElem?_eq_getElem hj] at this

theorem parts_count (c : UInt8) (s : List UInt8) : (parts c s).length ≤ s.length + 1 := by
  induction s with
  | nil => simp [parts]
  | cons b l ih =>
    unfold parts
    split
    · simp; exact ih
    · split
      · rename_i q qs hq; rw [hq] at ih; simp at ih ⊢; omega
      · simp

end Go.Ab
