/- Plain laws: bytes read as a message. -/
import Derived.Test.YtpdjgbpmlckepaaGreatDoorLBackA
set_option linter.unusedSimpArgs false
set_option linter.unusedVariables false
set_option maxHeartbeats 2000000
set_option maxRecDepth 4000
namespace Go.Ab.Tryz
open Go Go.Ab Go.Proofs

/-- The first part, and what stands behind it. -/
def CutOk (s : List UInt8) : Prop := cut15R s ≠ none
noncomputable def cutA (s : List UInt8) : List UInt8 := match cut15R s with
  | some (x, _) => x
  | none => []
noncomputable def cutB (s : List UInt8) : List UInt8 := match cut15R s with
  | some (_, n) => s.drop n
  | none => s
noncomputable def cutN : Nat → List UInt8 → List UInt8
  | 0, s => s
  | k + 1, s => cutB (cutN k s)
theorem cutB_len (s : List UInt8) : (cutB s).length ≤ s.length := by
  unfold cutB
  split
  · rw [List.length_drop]; omega
  · exact Nat.le_refl _
theorem cutN_len : ∀ (k : Nat) (s : List UInt8), (cutN k s).length ≤ s.length
  | 0, s => Nat.le_refl _
  | k + 1, s => Nat.le_trans (cutB_len _) (cutN_len k s)
theorem cut_of {s x : List UInt8} {n : Nat} (h : cut15R s = some (x, n)) : CutOk s ∧ cutA s = x ∧ cutB s = s.drop n := ⟨by unfold CutOk; rw [h]; simp, by unfold cutA; rw [h], by unfold cutB; rw [h]⟩
theorem cut_some {s : List UInt8} (h : CutOk s) : ∃ n, cut15R s = some (cutA s, n) ∧ cutB s = s.drop n := by
  unfold CutOk at h
  cases hc : cut15R s with
  | none => exact absurd hc h
  | some p =>
    obtain ⟨x, n⟩ := p
    obtain ⟨_, h1, h2⟩ := cut_of hc
    exact ⟨n, by rw [h1], h2⟩
theorem cutA_len (s : List UInt8) : (cutA s).length ≤ s.length := by
  unfold cutA
  cases hc : cut15R s with
  | none => exact Nat.zero_le _
  | some p =>
    simp only
    unfold cut15R at hc
    split at hc
    · injection hc with hc; rw [← hc]; simp only [List.length_take, List.length_drop]; omega
    · simp at hc
theorem cut_put (s rest : List UInt8) (hs : s.length ≤ 1000000) : CutOk (putF s ++ rest) ∧ cutA (putF s ++ rest) = s ∧ cutB (putF s ++ rest) = rest := by
  obtain ⟨h1, h2, h3⟩ := cut_of (cut15R_put s rest hs)
  exact ⟨h1, h2, by rw [h3]; exact List.drop_left⟩
theorem cut15R_pos {s x : List UInt8} {n : Nat} (h : cut15R s = some (x, n)) : 0 < n ∧ n ≤ s.length ∧ x.length ≤ s.length := by
  unfold cut15R at h
  split at h
  · rename_i hk
    simp only [Option.some.injEq, Prod.mk.injEq] at h
    have := hk.2.2.2.2.2.1
    refine ⟨by omega, by omega, ?_⟩
    rw [← h.1]; simp only [List.length_take, List.length_drop]; omega
  · simp at h
theorem cut_nil : cut15R [] = none := cut15R_none (by decide)

theorem enc_mk2 (idn atn : Nat) (cls fro body : List UInt8) (to : List (List UInt8)) : (Msg.mk idn cls fro to atn body).enc = putF (Lib.decDigits idn) ++ (putF cls ++ (putF fro ++ (putF (Lib.decDigits atn) ++ (putF (Lib.decDigits to.length) ++ putL (to ++ [body]))))) := by
  simp [Msg.enc, Msg.parts, Msg.headP, roP, putL, Function.comp_def]
/-- What the parts of a message's bytes are. -/
structure DecAt (m : Msg) (b : List UInt8) : Prop where
  c0 : CutOk (cutN 0 b)
  i0 : Lib.parseIntB 64 (cutA (cutN 0 b)) = .ok m.id
  c1 : CutOk (cutN 1 b)
  a1 : cutA (cutN 1 b) = m.cls
  c2 : CutOk (cutN 2 b)
  a2 : cutA (cutN 2 b) = m.fro
  c3 : CutOk (cutN 3 b)
  i3 : Lib.parseIntB 64 (cutA (cutN 3 b)) = .ok m.at_
  c4 : CutOk (cutN 4 b)
  i4 : Lib.parseIntB 64 (cutA (cutN 4 b)) = .ok (m.to.length : Int)
  n1 : 1 ≤ m.to.length
  n2 : m.to.length ≤ 100
  ct : ∀ i, i < m.to.length → CutOk (cutN (5 + i) b) ∧ cutA (cutN (5 + i) b) = m.to.getD i []
  cb : CutOk (cutN (5 + m.to.length) b)
  ab : cutA (cutN (5 + m.to.length) b) = m.body
theorem cutN_to (b : List UInt8) (to : List (List UInt8)) (body : List UInt8) (h : ∀ x ∈ to, x.length ≤ 1000000) (hb : cutN 5 b = putL (to ++ [body])) : ∀ i, i ≤ to.length → cutN (5 + i) b = putL (to.drop i ++ [body])
  | 0, _ => by simpa using hb
  | i + 1, hi => by
    have ih := cutN_to b to body h hb i (by omega)
    show cutB (cutN (5 + i) b) = _
    rw [ih, List.drop_eq_getElem_cons (by omega : i < to.length), List.cons_append, putL_cons]
    exact (cut_put _ _ (h _ (List.getElem_mem _))).2.2
/-- A message's bytes are read as it was. -/
theorem dec_at {m : Msg} {b : List UInt8} (hS : m.Small) (hE : m.EncOk) (hb : m.enc = b) : DecAt m b := by
  obtain ⟨id, cls, fro, to, at_, body⟩ := m
  have hC := hE.1
  have hI := hE.2
  simp only at hC hI
  have hat0 : 0 ≤ at_ := hC.2.2.2.1
  have hat9 : at_ ≤ 9223372036854775807 := hS.1
  obtain ⟨idn, rfl⟩ : ∃ k : Nat, id = (k : Int) := ⟨id.toNat, by omega⟩
  obtain ⟨atn, rfl⟩ : ∃ k : Nat, at_ = (k : Int) := ⟨at_.toNat, by omega⟩
  have hto : ∀ x ∈ to, x.length ≤ 1000000 := fun x hx => by
    obtain ⟨i, hi, rfl⟩ := List.getElem_of_mem hx
    have := mailbox_len (hC.2.2.2.2.2 i hi)
    rw [List.getD_eq_getElem?_getD, List.getElem?_eq_getElem hi] at this
    simp only [Option.getD_some] at this; omega
  have hfro : fro.length ≤ 1000000 := by
    rcases hC.1 with h | h
    · omega
    · have := mailbox_len h; omega
  have hbody : body.length ≤ 500000 := hC.2.2.2.2.1
  have hcls : cls.length ≤ 1000000 := by have := hI.2.2.2.2; omega
  have dl : ∀ k, k ≤ 9223372036854775807 → (Lib.decDigits k).length ≤ 1000000 := fun k hk => by
    have h := Lib.decDigits_length k
    have h2 : Lib.nDigits k ≤ 19 := nDigits_le (by omega) (by omega)
    omega
  rw [enc_mk2] at hb
  obtain ⟨c0, a0, b0⟩ := cut_put (Lib.decDigits idn) (putF cls ++ (putF fro ++ (putF (Lib.decDigits atn) ++ (putF (Lib.decDigits to.length) ++ putL (to ++ [body]))))) (dl _ (by omega))
  rw [hb] at c0 a0 b0
  obtain ⟨c1, a1, b1⟩ := cut_put cls (putF fro ++ (putF (Lib.decDigits atn) ++ (putF (Lib.decDigits to.length) ++ putL (to ++ [body])))) hcls
  rw [← b0] at c1 a1 b1
  obtain ⟨c2, a2, b2⟩ := cut_put fro (putF (Lib.decDigits atn) ++ (putF (Lib.decDigits to.length) ++ putL (to ++ [body]))) hfro
  rw [← b1] at c2 a2 b2
  obtain ⟨c3, a3, b3⟩ := cut_put (Lib.decDigits atn) (putF (Lib.decDigits to.length) ++ putL (to ++ [body])) (dl _ (by omega))
  rw [← b2] at c3 a3 b3
  obtain ⟨c4, a4, b4⟩ := cut_put (Lib.decDigits to.length) (putL (to ++ [body])) (dl _ (by have := hC.2.2.1; omega))
  rw [← b3] at c4 a4 b4
  have b5 : cutN 5 b = putL (to ++ [body]) := b4
  have hN := cutN_to b to body hto b5
  have hl := hN to.length (Nat.le_refl _)
  rw [List.drop_length, List.nil_append] at hl
  have hlast := cut_put body [] (by omega)
  rw [show putF body ++ [] = putL [body] by simp [putL], ← hl] at hlast
  refine ⟨c0, by rw [show cutA (cutN 0 b) = _ from a0]; exact parse_dec _ (by omega), c1, a1, c2, a2, c3, by rw [show cutA (cutN 3 b) = _ from a3]; exact parse_dec _ (by omega), c4, by rw [show cutA (cutN 4 b) = _ from a4]; exact parse_dec _ (by have := hC.2.2.1; omega), hC.2.1, hC.2.2.1, ?_, hlast.1, hlast.2.1⟩
  intro i hi
  simp only at hi ⊢
  have h := hN i (by omega)
  rw [List.drop_eq_getElem_cons hi, List.cons_append, putL_cons] at h
  obtain ⟨k1, k2, _⟩ := cut_put to[i] (putL (to.drop (i + 1) ++ [body])) (hto _ (List.getElem_mem _))
  rw [← h] at k1 k2
  refine ⟨k1, ?_⟩
  rw [k2, List.getD_eq_getElem?_getD, List.getElem?_eq_getElem hi]; rfl
theorem dec_inj {m n : Msg} {b : List UInt8} (h : DecAt m b) (k : DecAt n b) : m = n := by
  obtain ⟨id, cls, fro, to, at_, body⟩ := m
  obtain ⟨id2, cls2, fro2, to2, at2, body2⟩ := n
  have e1 := h.i0; have e2 := k.i0
  rw [e1] at e2
  injection e2 with e2
  have f1 := h.i3; have f2 := k.i3
  rw [f1] at f2
  injection f2 with f2
  have g1 := h.i4; have g2 := k.i4
  rw [g1] at g2
  injection g2 with g2
  have a1 := h.a1; rw [k.a1] at a1
  have a2 := h.a2; rw [k.a2] at a2
  simp only at e2 f2 g2 a1 a2
  have hl : to.length = to2.length := by omega
  have hto : to = to2 := by
    apply List.ext_getElem hl
    intro i h1 h2
    have x1 := (h.ct i h1).2
    have x2 := (k.ct i h2).2
    rw [x1] at x2
    simp only [List.getD_eq_getElem?_getD, List.getElem?_eq_getElem h1, List.getElem?_eq_getElem h2, Option.getD_some] at x2
    exact x2
  subst hto
  have ab := h.ab
  rw [k.ab] at ab
  simp only at ab
  subst e2; subst f2; subst a1; subst a2; subst ab
  rfl
open Classical in
/-- The message that some bytes are. -/
noncomputable def decM (b : List UInt8) : Option Msg := if h : ∃ m : Msg, m.Small ∧ m.EncOk ∧ m.enc = b then some h.choose else none
theorem decM_some {m : Msg} {b : List UInt8} (hS : m.Small) (hE : m.EncOk) (hb : m.enc = b) : decM b = some m := by
  have hx : ∃ m : Msg, m.Small ∧ m.EncOk ∧ m.enc = b := ⟨m, hS, hE, hb⟩
  unfold decM
  rw [dif_pos hx]
  obtain ⟨h1, h2, h3⟩ := hx.choose_spec
  rw [dec_inj (dec_at h1 h2 h3) (dec_at hS hE hb)]
theorem decM_none {b : List UInt8} (h : ∀ m : Msg, m.Small → m.EncOk → m.enc = b → False) : decM b = none := by
  unfold decM
  rw [dif_neg]
  rintro ⟨m, h1, h2, h3⟩
  exact h m h1 h2 h3
theorem decM_of {b : List UInt8} {m : Msg} (h : decM b = some m) : m.Small ∧ m.EncOk ∧ m.enc = b := by
  unfold decM at h
  split at h
  · rename_i hx
    injection h with h
    rw [← h]; exact hx.choose_spec
  · simp at h
theorem decM_fail {b : List UInt8} (h : ∀ m, ¬ DecAt m b) : decM b = none := decM_none fun m h1 h2 h3 => h m (dec_at h1 h2 h3)

end Go.Ab.Tryz
