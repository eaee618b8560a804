/- Plain: the boundary that is not in any bytes. -/
import Derived.Test.YtadghefkbjacjaaGreatDoorSPath
import Derived.Lib.Index
import Derived.Lib.ItoaNum
set_option linter.unusedVariables false
namespace Go.Ab
open Go

/-- Lists without repeats within another list are no longer. -/
theorem nodup_le {α : Type} [DecidableEq α] : ∀ (l m : List α), l.Nodup → (∀ x ∈ l, x ∈ m) → l.length ≤ m.length
  | [], m, _, _ => Nat.zero_le _
  | x :: l, m, hn, h => by
    rw [List.nodup_cons] at hn
    have hx := h x (by simp)
    have h2 := nodup_le l (m.erase x) hn.2 (fun y hy => by
      have hne : y ≠ x := fun e => hn.1 (e ▸ hy)
      exact (List.mem_erase_of_ne hne).2 (h y (by simp [hy])))
    rw [List.length_erase_of_mem hx] at h2
    have : 0 < m.length := List.length_pos_of_mem hx
    simp only [List.length_cons]; omega

def journalB : List UInt8 := [106, 111, 117, 114, 110, 97, 108, 45]
/-- What is sought for a number. -/
def needle (n : Nat) : List UInt8 := 45 :: 45 :: (journalB ++ Lib.decDigits n)

/-- What is found stands there. -/
theorem index_found : ∀ (s t : List UInt8), Lib.index s t ≠ -1 → ∃ i, i ≤ s.length ∧ (s.drop i).take t.length = t
  | [], t, h => by
    refine ⟨0, Nat.le_refl _, ?_⟩
    unfold Lib.index at h
    cases t with
    | nil => rfl
    | cons b t => simp at h
  | a :: s, t, h => by
    unfold Lib.index at h
    split at h
    · rename_i hp
      refine ⟨0, Nat.zero_le _, ?_⟩
      have := List.isPrefixOf_iff_prefix.1 hp
      rw [List.drop_zero]
      exact (List.prefix_iff_eq_take.1 this).symm
    · have h2 : Lib.index s t ≠ -1 := by
        intro e; rw [e] at h; simp at h
      obtain ⟨i, hi, he⟩ := index_found s t h2
      exact ⟨i + 1, by simpa using hi, by simpa using he⟩

/-- All that stands in some bytes. -/
def infs (b : List UInt8) : List (List UInt8) := (List.range (b.length + 1)).flatMap fun i => (List.range (b.length + 1)).map fun j => (b.drop i).take j
theorem infs_len (b : List UInt8) : (infs b).length = (b.length + 1) * (b.length + 1) := by
  have : ∀ l : List Nat, (l.flatMap fun i => (List.range (b.length + 1)).map fun j => (b.drop i).take j).length = l.length * (b.length + 1) := by
    intro l
    induction l with
    | nil => simp
    | cons x l ih => rw [List.flatMap_cons, List.length_append, ih]; simp [Nat.succ_mul, Nat.add_comm]
  unfold infs
  rw [this]; simp
theorem mem_infs {b t : List UInt8} {i : Nat} (hi : i ≤ b.length) (h : (b.drop i).take t.length = t) : t ∈ infs b := by
  unfold infs
  rw [List.mem_flatMap]
  refine ⟨i, by simp; omega, ?_⟩
  rw [List.mem_map]
  refine ⟨t.length, ?_, h⟩
  have := congrArg List.length h
  simp only [List.length_take, List.length_drop] at this
  simp; omega

/-- A numeral's number. -/
def decN (s : List UInt8) : Nat := s.foldl (fun a c => 10 * a + (c.toNat - 48)) 0
theorem decN_dec (u : Nat) : decN (Lib.decDigits u) = u := by
  induction u using Nat.strongRecOn with
  | _ u ih =>
    have dg : ∀ {d : Nat}, d < 10 → (UInt8.ofNat (48 + d)).toNat = 48 + d := fun {d} h => UInt8.toNat_ofNat_of_lt' (by show _ < 256; omega)
    rw [Lib.decDigits]
    split
    · rename_i h; simp only [decN, List.foldl_cons, List.foldl_nil]; rw [dg h]; omega
    · have := ih (u / 10) (by omega)
      simp only [decN, List.foldl_append, List.foldl_cons, List.foldl_nil] at this ⊢
      rw [this, dg (by omega)]; omega
theorem decDigits_inj {m n : Nat} (h : Lib.decDigits m = Lib.decDigits n) : m = n := by rw [← decN_dec m, h, decN_dec]

/-- The first number that is not in some bytes, if one is not. -/
theorem bd_ex (b : List UInt8) : ∃ n, n ≤ (b.length + 1) * (b.length + 1) ∧ Lib.index b (needle n) = -1 ∧ ∀ k, k < n → Lib.index b (needle k) ≠ -1 := by
  have h1 : ∃ n, n ≤ (b.length + 1) * (b.length + 1) ∧ Lib.index b (needle n) = -1 := by
    refine Classical.byContradiction fun hno => ?_
    have hall : ∀ n, n ≤ (b.length + 1) * (b.length + 1) → Lib.index b (needle n) ≠ -1 := fun n hn h => hno ⟨n, hn, h⟩
    have := nodup_le ((List.range ((b.length + 1) * (b.length + 1) + 1)).map needle) (infs b) (by
      refine List.Pairwise.map needle (R := fun a b => a ≠ b) (fun x y hxy e => hxy ?_) List.nodup_range
      simp only [needle, List.cons.injEq, true_and] at e
      exact decDigits_inj (List.append_cancel_left e)) (fun t ht => by
      obtain ⟨n, hn, rfl⟩ := List.mem_map.1 ht
      obtain ⟨i, hi, he⟩ := index_found _ _ (hall n (by have := List.mem_range.1 hn; omega))
      exact mem_infs hi he)
    rw [infs_len, List.length_map, List.length_range] at this
    omega
  obtain ⟨n, hn, h⟩ := h1
  induction n using Nat.strongRecOn with
  | _ n ih =>
    by_cases hk : ∃ k, k < n ∧ Lib.index b (needle k) = -1
    · obtain ⟨k, hk1, hk2⟩ := hk
      exact ih k hk1 (by omega) hk2
    · exact ⟨n, hn, h, fun k hk1 hk2 => hk ⟨k, hk1, hk2⟩⟩

/-- That number. -/
noncomputable def bdN (b : List UInt8) : Nat := (bd_ex b).choose
theorem bdN_le (b : List UInt8) : bdN b ≤ (b.length + 1) * (b.length + 1) := (bd_ex b).choose_spec.1
theorem bdN_at (b : List UInt8) : Lib.index b (needle (bdN b)) = -1 := (bd_ex b).choose_spec.2.1
theorem bdN_before {b : List UInt8} {k : Nat} (h : k < bdN b) : Lib.index b (needle k) ≠ -1 := (bd_ex b).choose_spec.2.2 k h
theorem bdN_eq {b : List UInt8} {n : Nat} (h : Lib.index b (needle n) = -1) (hb : n ≤ bdN b) : n = bdN b := by
  rcases Nat.lt_or_ge n (bdN b) with h2 | h2
  · exact absurd h (bdN_before h2)
  · omega
/-- The boundary. -/
noncomputable def bdS (b : List UInt8) : List UInt8 := journalB ++ Lib.decDigits (bdN b)

theorem prefix_take {s t : List UInt8} : t.isPrefixOf s = true ↔ s.take t.length = t := by
  rw [List.isPrefixOf_iff_prefix, List.prefix_iff_eq_take]
  exact eq_comm
theorem index_at : ∀ (i : Nat) (s t : List UInt8), i + t.length ≤ s.length → (s.drop i).take t.length = t → (∀ k, k < i → (s.drop k).take t.length ≠ t) → Lib.index s t = (i : Int)
  | 0, [], t, h, h1, _ => by
    have : t = [] := List.length_eq_zero_iff.1 (by simpa using h)
    subst this; rfl
  | 0, b :: l, t, h, h1, _ => by
    unfold Lib.index
    rw [if_pos (prefix_take.2 (by simpa using h1))]; rfl
  | i + 1, [], t, h, _, _ => by simp at h
  | i + 1, b :: l, t, h, h1, h2 => by
    unfold Lib.index
    rw [if_neg (fun hp => h2 0 (by omega) (by simpa using prefix_take.1 hp))]
    have := index_at i l t (by simp at h; omega) (by simpa using h1) (fun k hk => by simpa using h2 (k + 1) (by omega))
    rw [this, if_neg (by simp)]
    omega
theorem index_no : ∀ (s t : List UInt8), (∀ k, k + t.length ≤ s.length → (s.drop k).take t.length ≠ t) → Lib.index s t = -1
  | [], t, h => by
    unfold Lib.index
    cases t with
    | nil => exact absurd rfl (h 0 (by simp))
    | cons c t => rfl
  | b :: l, t, h => by
    unfold Lib.index
    by_cases hl : t.length ≤ (b :: l).length
    · rw [if_neg (fun hp => h 0 (by simpa using hl) (by simpa using prefix_take.1 hp))]
      rw [index_no l t (fun k hk => by simpa using h (k + 1) (by simp; omega))]; rfl
    · rw [if_neg (fun hp => by have := congrArg List.length (prefix_take.1 hp); rw [List.length_take] at this; omega)]
      rw [index_no l t (fun k hk => by simp at hl; omega)]; rfl

end Go.Ab
