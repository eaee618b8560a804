/- Plain laws: a mailbox file, read as the document reads it. -/
import Derived.Test.YtpdjgbpmlckepaaDoorSMbox4
import Derived.Test.YtpdjgbpmlckepaaDoorLNum
set_option linter.unusedSimpArgs false
set_option linter.unusedVariables false
set_option maxHeartbeats 2000000
set_option maxRecDepth 4000
namespace Go.Ab.Tryd
open Go Go.Ab Go.Proofs

/-- What stands between From and the line's end. -/
def fstS (x : List UInt8) : Option (List UInt8) := if 6 ≤ x.length ∧ x.take 5 = fromB ∧ (x.getD (x.length - 1) 0).toNat = 10 then some ((x.take (x.length - 1)).drop 5) else none
/-- Whether a numeral is one by the document. -/
def NumOk (s : List UInt8) : Prop := Fine s ∧ Lead s
open Classical in
/-- Who, and when. -/
noncomputable def fstT (s : List UInt8) : Option (List UInt8 × Int) :=
  match cutAt 32 s with
  | none => none
  | some (who, when_) => if NumOk when_ ∧ (who = [45] ∨ MailboxOk who) then some (if who = [45] then [] else who, decVal when_) else none
noncomputable def firstR (x : List UInt8) : Option (List UInt8 × Int) :=
  match fstS x with
  | none => none
  | some s => fstT s
/-- The lines of a letter's body. -/
def bodyLs (L : List (List UInt8)) : List (List UInt8) := L.takeWhile fun x => !isFrom x
def BodyOk2 (L : List (List UInt8)) : Prop := (bodyLs L).flatten.length ≠ 0 ∧ ((bodyLs L).flatten.getD ((bodyLs L).flatten.length - 1) 0).toNat = 10
open Classical in
noncomputable def linesR : Nat → List (List UInt8) → Option (List Ltr)
  | _, [] => some []
  | 0, _ :: _ => none
  | k + 1, x :: L => match firstR x with
    | none => none
    | some (f, n) => if BodyOk2 L then (linesR k (L.drop (bodyLs L).length)).map (Ltr.mk f n (unquoteS ((bodyLs L).flatten.take ((bodyLs L).flatten.length - 1))) :: ·) else none

theorem allDig_of {s : List UInt8} (h : ∀ c ∈ s, 48 ≤ c.toNat ∧ c.toNat ≤ 57) : AllDig s := fun i hi => by
  rw [List.getD_eq_getElem?_getD, List.getElem?_eq_getElem hi]
  exact h _ (List.getElem_mem _)
theorem numOk_itoa {n : Int} (h0 : 0 ≤ n) (h1 : n ≤ 9223372036854775807) : NumOk (Lib.itoa n) ∧ (decVal (Lib.itoa n) : Int) = n := by
  have hd := itoa_digs h0
  obtain ⟨u, rfl⟩ : ∃ u : Nat, n = (u : Int) := ⟨n.toNat, by omega⟩
  rw [Lib.itoa_nonneg] at hd ⊢
  have hv : decVal (Lib.decDigits u) = u := sn_val u
  refine ⟨⟨⟨allDig_of hd, by rw [hv]; omega⟩, sn_ne u, ?_⟩, by rw [hv]⟩
  clear hv hd h0 h1
  induction u using Nat.strongRecOn with
  | _ u ih =>
    rw [sn_unfold]
    split
    · rename_i h
      by_cases h0 : u = 0
      · subst h0; right; rfl
      · left
        simp only [List.getD_cons_zero]
        intro e
        have := congrArg UInt8.toNat e
        rw [sn_nat h] at this
        have : (48 : UInt8).toNat = 48 := rfl
        omega
    · rename_i h
      left
      have hne := sn_ne (u / 10)
      rcases ih (u / 10) (by omega) with h1 | h1
      · intro e; apply h1
        cases hs : Lib.decDigits (u / 10) with
        | nil => exact absurd hs hne
        | cons c r => rw [hs] at e; simpa using e
      · exfalso
        have h2 := sn_val (u / 10)
        rw [h1] at h2
        have : ([48] : List UInt8).foldl (fun n c => 10 * n + (c.toNat - 48)) 0 = 0 := by decide
        omega
theorem fstS_show (who : List UInt8) : fstS (fromB ++ (who ++ [10])) = some who := by
  unfold fstS
  have h1 : (fromB ++ (who ++ [10])).length = who.length + 6 := by simp [fromB]
  have h2 : (fromB ++ (who ++ [10])).getD (who.length + 5) 0 = 10 := by
    rw [List.getD_eq_getElem?_getD, List.getElem?_append_right (by simp [fromB]), List.getElem?_append_right (by simp [fromB])]
    simp [fromB]
  rw [h1, if_pos ⟨by omega, by simp [fromB], by rw [show who.length + 6 - 1 = who.length + 5 by omega, h2]; rfl⟩]
  rw [show who.length + 6 - 1 = (fromB ++ who).length by simp [fromB]]
  rw [← List.append_assoc, List.take_left]
  simp [fromB]
theorem firstR_show {x : Ltr} (hx : x.Ok) (hm : x.at_ ≤ 9223372036854775807) : firstR (fromB ++ (whoS x.fro ++ 32 :: Lib.itoa x.at_) ++ [10]) = some (x.fro, x.at_) := by
  unfold firstR
  rw [List.append_assoc, fstS_show]
  simp only
  unfold fstT
  rw [cut_who hx]
  simp only
  obtain ⟨hn, hv⟩ := numOk_itoa hx.2.1 hm
  rw [hv]
  by_cases hf : x.fro.length = 0
  · have h1 : x.fro = [] := List.length_eq_zero_iff.1 hf
    have h2 : whoS x.fro = [45] := by unfold whoS; rw [if_pos hf]
    rw [if_pos ⟨hn, .inl h2⟩, if_pos h2, h1]
  · have h2 : whoS x.fro = x.fro := by unfold whoS; rw [if_neg hf]
    have hmo := hx.1.resolve_left hf
    have hne : ¬ x.fro = [45] := fun h => by
      rw [h] at hmo
      obtain ⟨k, h, _⟩ := hmo
      simp [lastAt] at h
    rw [h2, if_pos ⟨hn, .inr hmo⟩, if_neg hne]
theorem linesR_show : ∀ (l : List Ltr) (k : Nat), (∀ x ∈ l, x.Ok ∧ x.at_ ≤ 9223372036854775807) → (lns (showM l)).length ≤ k → linesR k (lns (showM l)) = some l
  | [], k, _, _ => by
    rw [show lns (showM []) = [] from rfl]
    cases k <;> rfl
  | x :: l, 0, h, hk => by
    obtain ⟨y, _, _, _, hs⟩ := show_line (h x (by simp)).1 (showM l)
    rw [show showM (x :: l) = x.show ++ showM l from rfl, hs] at hk
    simp at hk
  | x :: l, k + 1, h, hk => by
    have hx := h x (by simp)
    have hl : ∀ y ∈ l, y.Ok := fun y hy => (h y (by simp [hy])).1
    obtain ⟨y, hy1, hy2, hy3, hs⟩ := show_line hx.1 (showM l)
    rw [show showM (x :: l) = x.show ++ showM l from rfl, hs] at hk ⊢
    have hb := end10 hx.1.2.2
    have hls : bodyLs (lns (quoteS x.body ++ 10 :: showM l)) = (lns x.body).map quoteL ++ [[10]] := body_lines hb hl
    have hfl : ((lns x.body).map quoteL ++ [[10]]).flatten = quoteS x.body ++ [10] := by
      rw [List.flatten_append]
      rw [show ((lns x.body).map quoteL).flatten = quoteS x.body by unfold quoteS; rw [List.flatMap_def]]
      rfl
    have hdr : (lns (quoteS x.body ++ 10 :: showM l)).drop ((lns x.body).map quoteL ++ [[10]]).length = lns (showM l) := by
      rw [lns_body hb, show (lns x.body).map quoteL ++ [10] :: lns (showM l) = ((lns x.body).map quoteL ++ [[10]]) ++ lns (showM l) by simp, List.drop_left]
    have hle : (lns (showM l)).length ≤ k := by
      rw [← hdr, List.length_drop]
      simp only [List.length_cons] at hk; omega
    have ih := linesR_show l k (fun y hy => h y (by simp [hy])) hle
    unfold linesR
    rw [hy3, firstR_show hx.1 hx.2]
    simp only
    rw [if_pos ⟨by rw [hls, hfl]; simp, by rw [hls, hfl]; simp [List.getD_eq_getElem?_getD]⟩, hls, hfl, hdr, ih]
    simp [unquote_quote]

end Go.Ab.Tryd
