/- Plain: what may stand in mailboxes and domains; what is not trimmed. -/
import Derived.Test.YtocoejhiphcehaaGreatDoorSPath
import Derived.Lib.SlTrimSet
set_option linter.unusedVariables false
namespace Go.Ab
open Go

theorem mem_parts (c : UInt8) : ∀ {s : List UInt8} {d : UInt8}, d ∈ s → d = c ∨ ∃ p ∈ parts c s, d ∈ p
  | b :: l, d, h => by
    unfold parts
    by_cases hb : b = c
    · rw [if_pos hb]
      rcases List.mem_cons.1 h with h | h
      · exact .inl (h.trans hb)
      · rcases mem_parts c h with h | ⟨p, hp, hd⟩
        · exact .inl h
        · exact .inr ⟨p, List.mem_cons_of_mem _ hp, hd⟩
    · rw [if_neg hb]
      cases hq : parts c l with
      | nil => exact absurd hq (parts_ne c l)
      | cons q qs =>
        rcases List.mem_cons.1 h with h | h
        · exact .inr ⟨b :: q, by simp, by simp [h]⟩
        · rcases mem_parts c h with h | ⟨p, hp, hd⟩
          · exact .inl h
          · rw [hq] at hp
            rcases List.mem_cons.1 hp with e | hp
            · subst e; exact .inr ⟨b :: p, by simp, by simp [hd]⟩
            · exact .inr ⟨p, by simp [hp], hd⟩

/-- Bytes that are seen. -/
def Seen (s : List UInt8) : Prop := ∀ c ∈ s, 33 ≤ c.toNat ∧ c.toNat ≤ 126
theorem kind_seen {c : UInt8} (h : kindN c ≠ 0) : 33 ≤ c.toNat ∧ c.toNat ≤ 126 := by
  unfold kindN at h
  split at h
  · omega
  · split at h
    · rename_i hm
      have hm := (mem_indexByte _ _).1 hm
      simp only [marks, List.mem_cons, List.not_mem_nil, or_false] at hm
      rcases hm with rfl | rfl | rfl | rfl | rfl | rfl | rfl | rfl | rfl | rfl | rfl | rfl | rfl | rfl | rfl | rfl | rfl | rfl | rfl <;> decide
    · exact absurd rfl h
theorem domain_seen {s : List UInt8} (h : DomainOk s) : Seen s := fun c hc => by
  rcases mem_parts 46 hc with rfl | ⟨p, hp, hd⟩
  · decide
  · obtain ⟨i, hi, rfl⟩ := List.getElem_of_mem hd
    have := (h.1 p hp).2.2.2.2 i hi
    rw [List.getD_eq_getElem?_getD, List.getElem?_eq_getElem hi] at this
    rcases this with h | h
    · exact kind_seen (by simp only [Option.getD_some] at h; rw [h]; decide)
    · simp only [Option.getD_some] at h; omega
theorem lastAt_get {c : UInt8} {s : List UInt8} : ∀ {n k : Nat}, lastAt c s n = (k : Int) → s.getD k 0 = c
  | 0, k, h => by simp [lastAt] at h
  | n + 1, k, h => by
    unfold lastAt at h
    split at h
    · rename_i h2; have : n = k := by omega
      subst this; exact h2
    · exact lastAt_get h
theorem mailbox_seen {s : List UInt8} (h : MailboxOk s) : Seen s := by
  obtain ⟨k, h1, h2, h3, h4, h5⟩ := h
  have hk := lastAt_get h1
  have hlt : k < s.length := by
    rcases Nat.lt_or_ge k s.length with h | h
    · exact h
    · rw [List.getD_eq_getElem?_getD, List.getElem?_eq_none h] at hk; simp at hk
  intro c hc
  have e : s = s.take k ++ s.getD k 0 :: s.drop (k + 1) := by
    conv => lhs; rw [← List.take_append_drop k s]
    rw [List.drop_eq_getElem_cons hlt]; simp [List.getD_eq_getElem?_getD, hlt]
  rw [e, List.mem_append, List.mem_cons, hk] at hc
  rcases hc with hc | rfl | hc
  · rcases mem_parts 46 hc with rfl | ⟨p, hp, hd⟩
    · decide
    · obtain ⟨i, hi, rfl⟩ := List.getElem_of_mem hd
      have := (h5 p hp).1 i hi
      rw [List.getD_eq_getElem?_getD, List.getElem?_eq_getElem hi] at this
      exact kind_seen this
  · decide
  · exact domain_seen h4 c hc

theorem trim_seen {s cs : List UInt8} (h : ∀ c ∈ s, cs.contains c = false) : Lib.trimS s cs = s := by
  have h1 : Lib.trimRightS s cs = s := by
    have := Lib.trimRightS_take s cs s.length (Nat.le_refl _) (fun j b hj hb => by rw [List.getElem?_eq_none hj] at hb; simp at hb) (fun b h0 hb => h b (List.mem_of_getElem? hb))
    rwa [List.take_length] at this
  unfold Lib.trimS
  rw [h1]
  have := Lib.trimLeftS_drop s cs 0 (Nat.zero_le _) (fun j b hj => absurd hj (Nat.not_lt_zero _)) (fun b hb => h b (List.mem_of_getElem? hb))
  rwa [List.drop_zero] at this
theorem trim_of_seen {s : List UInt8} (h : Seen s) : Lib.trimS s [32, 9] = s := trim_seen fun c hc => by
  have := h c hc
  simp only [List.contains_cons, List.contains_nil, Bool.or_false, Bool.or_eq_false_iff, beq_eq_false_iff_ne]
  exact ⟨fun e => by subst e; exact absurd this.1 (by decide), fun e => by subst e; exact absurd this.1 (by decide)⟩
theorem index_of_seen {s : List UInt8} (h : Seen s) (c : UInt8) (hc : c.toNat < 33) : Lib.indexByte s c < 0 := by
  rcases Int.lt_or_le (Lib.indexByte s c) 0 with h2 | h2
  · exact h2
  · have := h c ((mem_indexByte s c).1 h2); omega
theorem seen_app {a b : List UInt8} (h : Seen a) (k : Seen b) : Seen (a ++ b) := fun c hc => (List.mem_append.1 hc).elim (h c) (k c)

end Go.Ab
