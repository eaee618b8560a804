/- Plain laws: numerals by the document. -/
import Derived.Test.YtadghefkbjacjaaGreatDoorLNum
import Derived.Test.YtadghefkbjacjaaGreatDoorSNum
import Derived.Test.YtadghefkbjacjaaGreatDoorLBncB
import Derived.Test.YtadghefkbjacjaaGreatDoorLBncD
import Derived.Test.YtadghefkbjacjaaGreatDoorLBnc5
section
set_option linter.unusedSimpArgs false
set_option linter.unusedVariables false
set_option maxHeartbeats 2000000
set_option maxRecDepth 4000
namespace Go.Ab.Tryz
open Go Go.Ab Go.Proofs

/-- Whether a numeral is one by the document. -/
def NumOk (s : List UInt8) : Prop := Fine s ∧ Lead s
open Classical in
noncomputable def numN (s : List UInt8) : Int := if Fine s then decVal s else 0
noncomputable def numB (s : List UInt8) : Bool := tf (NumOk s)
theorem numV_eq (s : List UInt8) : numV s = .tup [.int .i64 (numN s), .bool (numB s)] := by
  unfold numN numB NumOk
  by_cases h : Fine s
  · rw [numV_good h, if_pos h]
    by_cases h2 : Lead s
    · rw [tf_true h2, tf_true ⟨h, h2⟩]
    · rw [tf_false h2, tf_false (fun h => h2 h.2)]
  · rw [numV_bad h, if_neg h, tf_false (fun k => h k.1)]
theorem allDig_of {s : List UInt8} (h : ∀ c ∈ s, 48 ≤ c.toNat ∧ c.toNat ≤ 57) : AllDig s := fun i hi => by
  rw [List.getD_eq_getElem?_getD, List.getElem?_eq_getElem hi]
  exact h _ (List.getElem_mem _)
theorem numOk_itoa {n : Int} (h0 : 0 ≤ n) (h1 : n ≤ 9223372036854775807) : NumOk (Lib.itoa n) ∧ (decVal (Lib.itoa n) : Int) = n := by
  have hd := itoa_digs h0
  obtain ⟨u, rfl⟩ : ∃ u : Nat, n = (u : Int) := ⟨n.toNat, by omega⟩
  rw [Lib.itoa_nonneg] at hd ⊢
  have hv : decVal (Lib.decDigits u) = u := sn_val u
  refine ⟨⟨⟨allDig_of hd, by rw [hv]; omega⟩, sn_ne u, ?_⟩, by rw [hv]⟩
  clear hv hd h0 h1
  induction u using Nat.strongRecOn with
  | _ u ih =>
    rw [sn_unfold]
    split
    · rename_i h
      by_cases h0 : u = 0
      · subst h0; right; rfl
      · left
        simp only [List.getD_cons_zero]
        intro e
        have := congrArg UInt8.toNat e
        rw [sn_nat h] at this
        have : (48 : UInt8).toNat = 48 := rfl
        omega
    · rename_i h
      left
      have hne := sn_ne (u / 10)
      rcases ih (u / 10) (by omega) with h1 | h1
      · intro e; apply h1
        cases hs : Lib.decDigits (u / 10) with
        | nil => exact absurd hs hne
        | cons c r => rw [hs] at e; simpa using e
      · exfalso
        have h2 := sn_val (u / 10)
        rw [h1] at h2
        have : ([48] : List UInt8).foldl (fun n c => 10 * n + (c.toNat - 48)) 0 = 0 := by decide
        omega

end Go.Ab.Tryz

end

section
set_option linter.unusedSimpArgs false
set_option linter.unusedVariables false
set_option maxHeartbeats 2000000
set_option maxRecDepth 4000
namespace Go.Ab.Tryz
open Go Go.Ab Go.Proofs

theorem num_digs : ∀ (n : Nat) (s : List UInt8), s.length = n → (∀ c ∈ s, 48 ≤ c.toNat ∧ c.toNat ≤ 57) → s ≠ [] → (s.getD 0 0 ≠ 48 ∨ s = [48]) → Lib.decDigits (decVal s) = s
  | 0, s, hl, _, hn, _ => absurd (List.length_eq_zero_iff.1 hl) hn
  | n + 1, s, hl, hd, hn, hz => by
    obtain ⟨t, c, rfl⟩ : ∃ t c, s = t ++ [c] := ⟨s.dropLast, s.getLast hn, (List.dropLast_concat_getLast hn).symm⟩
    have hc := hd c (by simp)
    have htd : ∀ c ∈ t, 48 ≤ c.toNat ∧ c.toNat ≤ 57 := fun c h => hd c (by simp [h])
    have htl : t.length = n := by simp at hl; exact hl
    have h0 : t ≠ [] → t.getD 0 0 = (t ++ [c]).getD 0 0 := fun h => by
      cases t with
      | nil => exact absurd rfl h
      | cons a r => rfl
    have hv : decVal (t ++ [c]) = 10 * decVal t + (c.toNat - 48) := by simp [decVal, List.foldl_append]
    have hcc : UInt8.ofNat (48 + (c.toNat - 48)) = c := by
      rw [show 48 + (c.toNat - 48) = c.toNat by omega]; exact UInt8.ofNat_toNat
    rw [hv, sn_unfold]
    by_cases ht : t = []
    · subst ht
      have : decVal [] = 0 := rfl
      rw [this, if_pos (by omega), Nat.mul_zero, Nat.zero_add, hcc]; rfl
    · have hz2 : t.getD 0 0 ≠ 48 := by
        rcases hz with hz | hz
        · rw [h0 ht]; exact hz
        · have := congrArg List.length hz
          have h2 := List.length_pos_iff.2 ht
          simp only [List.length_append, List.length_cons, List.length_nil] at this; omega
      have ih := num_digs n t htl htd ht (.inl hz2)
      have hp : 0 < decVal t := by
        rcases Nat.eq_zero_or_pos (decVal t) with h | h
        · rw [h] at ih
          rw [sn_unfold, if_pos (by omega)] at ih
          exact absurd (by rw [← ih]; rfl) hz2
        · exact h
      rw [if_neg (by omega), show (10 * decVal t + (c.toNat - 48)) / 10 = decVal t by omega, show (10 * decVal t + (c.toNat - 48)) % 10 = c.toNat - 48 by omega, ih, hcc]
theorem numOk_digs {s : List UInt8} (h : NumOk s) : Lib.itoa (decVal s) = s := by
  rw [Lib.itoa_nonneg]
  refine num_digs _ s rfl (fun c hc => ?_) h.2.1 h.2.2
  obtain ⟨i, hi, rfl⟩ := List.getElem_of_mem hc
  have := h.1.1 i hi
  rw [List.getD_eq_getElem?_getD, List.getElem?_eq_getElem hi] at this
  exact this
theorem last_split {c : UInt8} : ∀ {a b u v : List UInt8}, a ++ c :: u = b ++ c :: v → c ∉ u → c ∉ v → a = b ∧ u = v
  | [], [], u, v, h, _, _ => by simp at h; exact ⟨rfl, h⟩
  | [], d :: b, u, v, h, hu, _ => by
    simp only [List.nil_append, List.cons_append, List.cons.injEq] at h
    exact absurd (by rw [h.2]; simp) hu
  | x :: a, [], u, v, h, _, hv => by
    simp only [List.nil_append, List.cons_append, List.cons.injEq] at h
    exact absurd (by rw [← h.2]; simp) hv
  | x :: a, d :: b, u, v, h, hu, hv => by
    simp only [List.cons_append, List.cons.injEq] at h
    obtain ⟨h1, h2⟩ := last_split h.2 hu hv
    exact ⟨by rw [h.1, h1], h2⟩
/-- The line of a job. -/
def JobA.ln (x : JobA) : List UInt8 := (x.rcpt ++ 32 :: Lib.itoa x.code) ++ [13, 10]
def JobA.RLine (x : JobA) : Prop := x.id = 0 ∧ x.tries = 0 ∧ x.next = 0 ∧ x.state = 3 ∧ 0 ≤ x.code ∧ x.code ≤ 999 ∧ x.rcpt ≠ []
theorem itoa_no32b {n : Int} (h : 0 ≤ n) : (32 : UInt8) ∉ Lib.itoa n := fun hm => by have := itoa_digs h _ hm; revert this; decide
theorem rline_of {x : JobA} (h : x.Line) : x.RLine := ⟨h.1, h.2.1, h.2.2.1, h.2.2.2.1.1, h.2.2.2.2.1, h.2.2.2.2.2, fun e => mailbox_nil' (e ▸ h.2.2.2.1.2)⟩
where mailbox_nil' : ¬ MailboxOk [] := by
        rintro ⟨k, h, _⟩
        simp [lastAt] at h
theorem ln_inj {x y : JobA} (hx : x.RLine) (hy : y.RLine) (h : x.ln = y.ln) : x = y := by
  unfold JobA.ln at h
  have h := List.append_cancel_right h
  obtain ⟨h1, h2⟩ := last_split h (itoa_no32b hx.2.2.2.2.1) (itoa_no32b hy.2.2.2.2.1)
  have e1 := (numOk_itoa hx.2.2.2.2.1 (by have := hx.2.2.2.2.2.1; omega)).2
  have e2 := (numOk_itoa hy.2.2.2.2.1 (by have := hy.2.2.2.2.2.1; omega)).2
  rw [h2] at e1
  obtain ⟨a1, a2, a3, a4, _⟩ := hx
  obtain ⟨b1, b2, b3, b4, _⟩ := hy
  obtain ⟨i, r, s, t, n, c⟩ := x
  obtain ⟨i', r', s', t', n', c'⟩ := y
  simp only at *
  subst a1; subst a2; subst a3; subst a4; subst b1; subst b2; subst b3; subst b4; subst h1
  rw [show c = c' from e1.symm.trans e2]
theorem lns_inj : ∀ {J K : List JobA}, (∀ x ∈ J, x.RLine) → (∀ x ∈ K, x.RLine) → J.map JobA.ln = K.map JobA.ln → J = K
  | [], [], _, _, _ => rfl
  | [], y :: K, _, _, h => by simp at h
  | x :: J, [], _, _, h => by simp at h
  | x :: J, y :: K, hJ, hK, h => by
    simp only [List.map_cons, List.cons.injEq] at h
    rw [ln_inj (hJ x (by simp)) (hK y (by simp)) h.1, lns_inj (fun z hz => hJ z (by simp [hz])) (fun z hz => hK z (by simp [hz])) h.2]
theorem linL_told : ∀ (J : List JobA), (∀ x ∈ J, x.Line) → linL (toldS J) = (J.map JobA.ln, [])
  | [], _ => linL_none rfl
  | x :: J, h => by
    have hx := h x (by simp)
    have ih := linL_told J (fun y hy => h y (by simp [hy]))
    have h13 : 13 ∉ x.rcpt ++ 32 :: Lib.itoa x.code := by
      intro hm
      rcases List.mem_append.1 hm with hm | hm
      · exact seen_no13 (mailbox_seen hx.2.2.2.1.2) hm
      · rcases List.mem_cons.1 hm with e | e
        · revert e; decide
        · exact digs_no13 hx.2.2.2.2.1 e
    have hc := crlf_line (y := toldS J) h13
    have e : toldS (x :: J) = (x.rcpt ++ 32 :: Lib.itoa x.code) ++ (13 :: 10 :: toldS J) := by
      simp only [toldS, List.flatMap_cons]
      rw [told_of hx.2.2.2.1]; simp
    rw [e, linL_some hc, ih]; rfl
theorem linL_join (s : List UInt8) : (linL s).1.flatten ++ (linL s).2 = s := by
  induction hn : s.length using Nat.strongRecOn generalizing s with
  | _ n ih =>
    cases h : crlfAt s with
    | none => rw [linL_none h]; rfl
    | some p =>
      obtain ⟨x, y⟩ := p
      have ih2 := ih y.length (by have := crlfAt_len h; omega) y rfl
      rw [linL_some h]
      have := crlfAt_eq h
      simp only [List.flatten_cons]
      rw [List.append_assoc, ih2, this]; simp
theorem linL_ends (s : List UInt8) : ∀ x ∈ (linL s).1, ∃ y, x = y ++ [13, 10] := by
  induction hn : s.length using Nat.strongRecOn generalizing s with
  | _ n ih =>
    cases h : crlfAt s with
    | none => rw [linL_none h]; intro x hx; simp at hx
    | some p =>
      obtain ⟨x, y⟩ := p
      have ih2 := ih y.length (by have := crlfAt_len h; omega) y rfl
      rw [linL_some h]
      intro z hz
      rcases List.mem_cons.1 hz with e | e
      · exact ⟨x, e⟩
      · exact ih2 z e
theorem linL_count (s : List UInt8) : 2 * (linL s).1.length ≤ s.length := by
  induction hn : s.length using Nat.strongRecOn generalizing s with
  | _ n ih =>
    cases h : crlfAt s with
    | none => rw [linL_none h]; simp
    | some p =>
      obtain ⟨x, y⟩ := p
      have hl := crlfAt_len h
      have := ih y.length (by omega) y rfl
      rw [linL_some h]; simp only [List.length_cons]; omega
theorem mem_flat_len {x : List UInt8} : ∀ {l : List (List UInt8)}, x ∈ l → x.length ≤ l.flatten.length
  | [], h => by simp at h
  | y :: l, h => by
    simp only [List.flatten_cons, List.length_append]
    rcases List.mem_cons.1 h with e | e
    · subst e; omega
    · have := mem_flat_len e; omega
theorem told_le (x : JobA) : x.told.length ≤ x.ln.length ∧ 0 < x.ln.length := by
  refine ⟨?_, by simp only [JobA.ln, List.length_append, List.length_cons]; omega⟩
  by_cases h : x.Told
  · rw [told_of h]; simp [JobA.ln]
  · rw [told_no h]; simp
theorem toldS_le : ∀ (J : List JobA), (toldS J).length ≤ (J.map JobA.ln).flatten.length
  | [] => Nat.le_refl _
  | x :: J => by
    have := toldS_le J
    have h2 := (told_le x).1
    simp only [toldS, List.flatMap_cons, List.length_append, List.map_cons, List.flatten_cons] at *
    omega
theorem told_all : ∀ (J : List JobA), (toldS J).length = (J.map JobA.ln).flatten.length → ∀ x ∈ J, x.Told
  | [], _, x, hx => by simp at hx
  | y :: J, h, x, hx => by
    have h1 := toldS_le J
    have h2 := told_le y
    have ih := told_all J
    simp only [toldS, List.flatMap_cons, List.length_append, List.map_cons, List.flatten_cons] at *
    rcases List.mem_cons.1 hx with e | e
    · subst e
      by_cases ht : x.Told
      · exact ht
      · rw [told_no ht] at h; simp only [List.length_nil] at h; omega
    · exact ih (by omega) x e
theorem rbnc_yes {b : List UInt8} {host fro : List UInt8} {J : List JobA} {u : Nat} {r0 : List UInt8} {l : Flds} (hP : headP b = (l, u, 0)) (hr0 : b.drop u = r0) (hJ : linL r0 = (J.map JobA.ln, [])) (hR : ∀ x ∈ J, x.RLine) (hM : MakeOk host 0 fro) (ht : toldS J ≠ []) (he : bncH host fro ++ toldS J = b) : bncM b = some J := by
  have k := bnc_head hM (toldS J)
  rw [he, hP] at k
  injection k with _ k
  injection k with k _
  have hd : toldS J = r0 := by rw [← hr0, ← he, k, List.drop_left]
  have hj := linL_join r0
  rw [hJ, List.append_nil] at hj
  simp only at hj
  have hT := told_all J (by rw [hj, hd])
  refine bncM_some ⟨host, fro, hM, ?_, fun x hx => ?_, he⟩
  · rintro rfl; exact ht rfl
  · obtain ⟨c1, c2, c3, c4, c5, c6, _⟩ := hR x hx
    exact ⟨c1, c2, c3, hT x hx, c5, c6⟩
theorem rbnc_no {b : List UInt8} {u : Nat} {r0 n1 b1 n2 b2 n3 b3 : List UInt8} (hP : headP b = ([(n1, b1), (n2, b2), (n3, b3)], u, 0)) (hr0 : b.drop u = r0) {K : List JobA} (hK : BncIs b K) :
    linL r0 = (K.map JobA.ln, []) ∧ (∀ x ∈ K, x.RLine) ∧ MakeOk (b1.drop 14) 0 b2 ∧ toldS K ≠ [] ∧ bncH (b1.drop 14) b2 ++ toldS K = b ∧ b1.take 14 = mailer := by
  obtain ⟨host, fro, k1, k2, k3, k4, k5, k6⟩ := bnc_jobs hK
  rw [hP] at k2
  simp only [bncF, Prod.mk.injEq, List.cons.injEq] at k2
  obtain ⟨⟨⟨_, e1⟩, ⟨_, e2⟩, _⟩, eu, _⟩ := k2
  have eh : b1.drop 14 = host := by rw [e1]; rfl
  have hd : r0 = toldS K := by rw [← hr0, eu, ← k6, List.drop_left]
  rw [eh, e2, hd]
  refine ⟨linL_told K k4, fun x hx => rline_of (k4 x hx), k1, ?_, k6, by rw [e1]; rfl⟩
  cases K with
  | nil => exact absurd rfl k5
  | cons x K =>
    have hx := (k4 x (by simp)).2.2.2.1
    simp only [toldS, List.flatMap_cons]
    rw [told_of hx]; simp
/-- The last blank. -/
def Sp (s : List UInt8) (k : Nat) : Prop := s[k]? = some 32 ∧ ∀ j, k < j → s[j]? ≠ some 32
theorem sp_split {s : List UInt8} {k : Nat} (h : Sp s k) : s = s.take k ++ 32 :: s.drop (k + 1) ∧ 32 ∉ s.drop (k + 1) := by
  obtain ⟨hk, e⟩ := List.getElem?_eq_some_iff.1 h.1
  refine ⟨?_, fun hm => ?_⟩
  · conv => lhs; rw [← List.take_append_drop k s]
    rw [List.drop_eq_getElem_cons hk, e]
  · obtain ⟨i, hi, e2⟩ := List.getElem_of_mem hm
    refine h.2 (k + 1 + i) (by omega) ?_
    rw [← List.getElem?_drop, List.getElem?_eq_getElem hi, e2]
theorem sp_late {rc u : List UInt8} {k : Nat} (h : ∀ j, k < j → (rc ++ 32 :: u)[j]? ≠ some 32) : rc.length ≤ k := by
  rcases Nat.lt_or_ge k rc.length with h2 | h2
  · exact absurd (by simp) (h rc.length h2)
  · exact h2
/-- A line that is a job's. -/
theorem line_job {s : List UInt8} {k : Nat} (h : Sp s k) (hk : 1 ≤ k) (hn : NumOk (s.drop (k + 1))) (h9 : decVal (s.drop (k + 1)) ≤ 999) : (JobA.mk 0 (s.take k) 3 0 0 (decVal (s.drop (k + 1)))).RLine ∧ (JobA.mk 0 (s.take k) 3 0 0 (decVal (s.drop (k + 1)))).ln = s ++ [13, 10] := by
  have hl := (List.getElem?_eq_some_iff.1 h.1).1
  refine ⟨⟨rfl, rfl, rfl, rfl, by simp only; omega, by simp only; omega, fun e => ?_⟩, ?_⟩
  · have := congrArg List.length e
    simp only [List.length_take, List.length_nil] at this; omega
  · unfold JobA.ln
    simp only
    rw [numOk_digs hn, ← (sp_split h).1]
/-- A line that is none. -/
theorem line_none1 {s : List UInt8} {k : Nat} (h : ∀ j, k < j → s[j]? ≠ some 32) (hk : k < 1) {x : JobA} (hx : x.RLine) (e : x.ln = s ++ [13, 10]) : False := by
  have e := List.append_cancel_right e
  rw [← e] at h
  have := sp_late h
  have h2 := List.length_pos_iff.2 hx.2.2.2.2.2.2
  omega
theorem line_none2 {s : List UInt8} {k : Nat} (h : Sp s k) (hn : ¬ (NumOk (s.drop (k + 1)) ∧ decVal (s.drop (k + 1)) ≤ 999)) {x : JobA} (hx : x.RLine) (e : x.ln = s ++ [13, 10]) : False := by
  have e := List.append_cancel_right e
  obtain ⟨e1, e2⟩ := sp_split h
  obtain ⟨_, _, _, _, h5, h6, _⟩ := hx
  obtain ⟨_, e3⟩ := last_split (e.trans e1) (itoa_no32b h5) e2
  have h7 := numOk_itoa h5 (by omega)
  rw [e3] at h7
  exact hn ⟨h7.1, by omega⟩
theorem numV_form2 (s : List UInt8) : ∃ (n : Int) (o : Bool), numV s = .tup [.int .i64 n, .bool o] ∧ (¬ (NumOk s ∧ decVal s ≤ 999) → o = false ∨ 999 < n) := by
  by_cases hf : Fine s
  · by_cases hl : Lead s
    · exact ⟨decVal s, true, by rw [numV_good hf, tf_true hl], fun h => by
        right
        rcases Nat.lt_or_ge 999 (decVal s) with h2 | h2
        · omega
        · exact absurd ⟨⟨hf, hl⟩, h2⟩ h⟩
    · exact ⟨decVal s, false, by rw [numV_good hf, tf_false hl], fun _ => .inl rfl⟩
  · exact ⟨0, false, numV_bad hf, fun _ => .inl rfl⟩

end Go.Ab.Tryz

end

section
set_option linter.unusedSimpArgs false
set_option linter.unusedVariables false
set_option maxHeartbeats 8000000
set_option maxRecDepth 10000
namespace Go.Ab.Tryz
open Go Go.Ab Go.Proofs
attribute [local irreducible] W Wl Wop TrA WSeq WLoopS FPost DPost RPost WRound DK onEnd
attribute [local simp] belowL_bytesAV belowL_fldAV belowL_strsM belowL_linesAV
variable {n0 : Nat} {w0 : World} {gl : Nat → List AV} {H : List AO}

theorem ref_read_e [ht : Tab10 n0 w0] (b : List UInt8) (hb : b.length ≤ 100000) : AEnter (env n0 w0 gl) 35 [.sl b.length (bytesAV b) .ro] H (fun y H' => y = .ret (bncV b) ∧ H' = H) := by
  rcases hP : headP b with ⟨l, u, e⟩
  have hpa : ∀ H, Ctr (env n0 w0 gl) 87 [.sl b.length (bytesAV b) .ro] H True (.tup [.sl l.length (fldAV l) (tokP e), .int .i64 u, .int .i64 e]) H := fun H => ⟨fun _ => by
    have := (ref_parse_t (n0 := n0) (w0 := w0) (gl := gl) (H := H) b).call (by omega)
    rw [hP] at this; exact this⟩
  have hu1 := headP_used hP
  have hfs := headP_fields hP
  have hno : (∀ J, BncIs b J → False) → bncV b = .tup [.sl 0 [] .full, .bool false] := fun h => bncV_none h
  by_cases h0 : e = 0
  · by_cases h3 : l.length = 3
    · obtain ⟨f0, f1, f2, rfl⟩ : ∃ f0 f1 f2, l = [f0, f1, f2] := by
        match l, h3 with
        | [a, b, c], _ => exact ⟨a, b, c, rfl⟩
      obtain ⟨n1, b1⟩ := f0
      obtain ⟨n2, b2⟩ := f1
      obtain ⟨n3, b3⟩ := f2
      have hb1 := hfs (n1, b1) (by simp)
      have hb2 := hfs (n2, b2) (by simp)
      simp only at hb1 hb2
      simp only [fldAV, List.flatMap_cons, List.flatMap_nil, List.cons_append, List.nil_append, List.append_nil, List.length_cons, List.length_nil, Nat.zero_add, Nat.reduceAdd] at hpa
      subst h0
      simp only [show tokP 0 = Tok.ro from rfl] at hpa
      have hmn : b1.take 14 ≠ mailer → bncV b = .tup [.sl 0 [] .full, .bool false] := fun hm => hno fun K hK => hm (rbnc_no hP rfl hK).2.2.2.2.2
      by_cases hm : b1.take 14 = mailer
      · have hl14 : 14 ≤ b1.length := by
          have := congrArg List.length hm
          simp only [List.length_take, mailer, List.length_cons, List.length_nil] at this; omega
        unfold mailer at hm
        obtain ⟨r0, hr0⟩ : ∃ r0, b.drop u = r0 := ⟨_, rfl⟩
        have hdu : List.drop u (List.take b.length (bytesAV b)) = bytesAV r0 := by rw [← hr0]; rw [List.take_of_length_le (by rw [bytesAV_len]; exact Nat.le_refl _)]; simp [bytesAV]
        have hlu : b.length - u = r0.length := by rw [← hr0, List.length_drop]
        have hlb : r0.length ≤ 100000 := by rw [← hr0, List.length_drop]; omega
        rcases hL : linL r0 with ⟨L, R⟩
        have hli : ∀ H, Ctr (env n0 w0 gl) 88 [.sl r0.length (bytesAV r0) .ro] H True (.tup [.sl L.length (linesAV L) .ro, .sl R.length (bytesAV R) .ro]) H := fun H => .of fun _ => by
          have := ref_lines_e (n0 := n0) (w0 := w0) (gl := gl) (H := H) r0 (by omega)
          unfold linV at this
          rw [hL] at this; exact this
        have hcount := linL_count r0
        have hjoin := linL_join r0
        have hends := linL_ends r0
        rw [hL] at hcount hjoin hends
        simp only at hcount hjoin hends
        have hla := linesAV_len L
        have hRl : R.length ≤ r0.length := by rw [← hjoin]; simp
        have hLx : ∀ x ∈ L, x.length ≤ 100000 := fun x hx => by
          have h1 := mem_flat_len hx
          have h2 := congrArg List.length hjoin
          rw [List.length_append] at h2; omega
        have hKL : ∀ K, BncIs b K → L = K.map JobA.ln ∧ R = [] ∧ (∀ x ∈ K, x.RLine) := fun K hK => by
          have h1 := rbnc_no hP hr0 hK
          have h2 := h1.1
          rw [hL] at h2
          injection h2 with h2 h4
          exact ⟨h2, h4, h1.2.1⟩
        have hl15 : ¬ ((b1.length : Int) < 14) := by omega
        have hh := And.intro hdu (And.intro hlu (And.intro hm hl15))
        refine enter (md := fun _ => 0) Tryz.func35 (fun hfit hgl => ?_)
        refine gos ?_
        refine wseq_normal ?_
        refine gos ?_
        refine wseq_normal ?_
        refine gos ?_
        refine wseq_normal ?_
        refine gos ?_
        refine wseq_normal ?_
        refine gos ?_
        refine wseq_normal ?_
        refine gos ?_
        refine wseq_normal ?_
        refine gos ?_
        refine wseq_normal ?_
        refine gos ?_
        refine wseq_shift (Shift.vec 6 8 rfl) ?_
        simp only [List.set_cons_succ, List.set_cons_zero]
        repeat' (first | refine go ?_ | (refine br (fun hc => ?_) (fun hc => ?_) <;> try (exfalso; omega)) | fail)
        refine loop (fun j : Nat × List JobA => (.sl b.length (bytesAV b) .ro :: .top :: .sl 0 [] .full :: .bool false :: .sl 3 [.str n1, .str b1, .str n2, .str b2, .str n3, .str b3] .ro :: .int .i64 u :: .int .i64 0 :: .str b1 :: .vsl H.length j.2.length :: .sl L.length (linesAV L) .ro :: .sl R.length (bytesAV R) .ro :: .top :: .top :: .top :: .top :: .top :: .top :: .top :: .top :: .top :: .top :: .top :: .top :: .top :: .top :: .top :: .top :: .top :: .top :: .top :: .top :: .top :: .top :: .top :: .top :: .top :: .top :: .top :: .top :: .top :: .top :: .top :: .top :: .top :: .top :: .top :: .top :: .top :: .top :: .top :: .top :: .top :: .sl L.length (linesAV L) .ro :: .int .i64 L.length :: .int .i64 (j.1 : Int) :: .top :: .top :: .top :: .top :: .top :: .top :: .top :: .top :: .top :: .top :: .top :: .top :: .top :: .top :: .top :: .top :: .top :: .top :: .top :: .top :: .top :: .top :: .top :: .top :: .top :: .top :: .top :: .top :: .top :: .top :: .top :: .top :: .top :: .top :: .top :: .top :: .top :: .top :: .top :: .top :: .top :: .top :: .top :: .top :: .top :: .top :: .top :: .top :: .top :: .top :: .top :: .top :: .top :: .top :: .top :: .top :: .top :: .top :: .top :: .top :: .top :: .top :: .top :: .top :: .top :: .top :: .top :: .top :: .top :: .top :: .top :: .top :: .top :: []))
          (fun j => H ++ [.vec 6 j.2.length (jobAV j.2)]) (fun j => j.1 ≤ L.length ∧ j.2.map JobA.ln = L.take j.1 ∧ (∀ x ∈ j.2, x.RLine)) (fun j => L.length - j.1) (0, []) ⟨Nat.zero_le _, rfl, fun x hx => by simp at hx⟩ ?_
        rintro ⟨i, J⟩ ⟨hi, hJL, hJR⟩
        simp only at hi hJL hJR
        have hJn : J.length = i := by have := congrArg List.length hJL; simp at this; omega
        have hjl := jobAV_len J
        simp only
        by_cases hlt : i < L.length
        · obtain ⟨y, hy⟩ := hends _ (List.getElem_mem hlt)
          have hyl := hLx _ (List.getElem_mem hlt)
          rw [hy] at hyl
          simp only [List.length_append, List.length_cons, List.length_nil] at hyl
          have hat : (linesAV L).getD i .top = .sl (y.length + 2) (bytesAV (y ++ [13, 10])) .ro := by
            rw [List.getD_eq_getElem?_getD]
            simp only [linesAV, List.getElem?_map, List.getElem?_eq_getElem hlt, Option.map_some, Option.getD_some, hy, List.length_append, List.length_cons, List.length_nil]
          have htk : List.take y.length (bytesAV (y ++ [13, 10])) = bytesAV y := by simp [bytesAV]
          have hsub : (((y.length + 2 : Nat) : Int) - 2).toNat = y.length := by omega
          have hbad : (∀ (K : List JobA) (x : JobA), x ∈ K → x.RLine → x.ln = y ++ [13, 10] → False) → bncV b = .tup [.sl 0 [] .full, .bool false] := fun h => hno fun K hK => by
            obtain ⟨k1, k2, k3⟩ := hKL K hK
            have hlt2 : i < K.length := by rw [k1] at hlt; simpa using hlt
            refine h K K[i] (List.getElem_mem _) (k3 _ (List.getElem_mem _)) ?_
            rw [← hy]
            simp [k1]
          have hh := And.intro hla (And.intro hat (And.intro htk hsub))
          repeat' (first | refine go ?_ | (refine br (fun hc => ?_) (fun hc => ?_) <;> try (exfalso; omega)) | fail)
          refine loop0 (fun k : Nat => (.sl b.length (bytesAV b) .ro :: .top :: .sl 0 [] .full :: .bool false :: .sl 3 [.str n1, .str b1, .str n2, .str b2, .str n3, .str b3] .ro :: .int .i64 u :: .int .i64 0 :: .str b1 :: .vsl H.length J.length :: .sl L.length (linesAV L) .ro :: .sl R.length (bytesAV R) .ro :: .top :: .top :: .str y :: .int .i64 ((k : Int) - 1) :: .top :: .top :: .top :: .top :: .top :: .top :: .top :: .top :: .top :: .top :: .top :: .top :: .top :: .top :: .top :: .top :: .top :: .top :: .top :: .top :: .top :: .top :: .top :: .top :: .top :: .top :: .top :: .top :: .top :: .top :: .top :: .top :: .top :: .top :: .top :: .top :: .top :: .sl L.length (linesAV L) .ro :: .int .i64 L.length :: .int .i64 (i : Int) :: .top :: .top :: .top :: .top :: .top :: .top :: .top :: .top :: .top :: .top :: .top :: .top :: .top :: .top :: .top :: .top :: .top :: .top :: .top :: .top :: .top :: .top :: .top :: .top :: .top :: .top :: .top :: .top :: .top :: .top :: .top :: .top :: .top :: .top :: .top :: .top :: .top :: .top :: .top :: .top :: .top :: .top :: .top :: .top :: .top :: .top :: .top :: .top :: .top :: .top :: .top :: .top :: .top :: .top :: .top :: .top :: .top :: .top :: .top :: .top :: .top :: .top :: .top :: .top :: .top :: .top :: .top :: .top :: .top :: .top :: .top :: .top :: .top :: []))
            (fun k => k ≤ y.length ∧ ∀ m, k ≤ m → y[m]? ≠ some 32) (fun k => k) y.length ⟨Nat.le_refl _, fun m hm => by rw [List.getElem?_eq_none hm]; simp⟩ ?_
          rintro k ⟨hk, hn32⟩
          have hkn : ((k : Int) - 1).toNat = k - 1 := by omega
          have hkm : ((k : Int) - 1 + 1).toNat = k := by omega
          by_cases hk2 : 2 ≤ k
          · have hlt2 : k - 1 < y.length := by omega
            by_cases hq0 : y.getD (k - 1) 0 = 32
            · have hsp : Sp y (k - 1) := ⟨by rw [List.getElem?_eq_getElem hlt2]; rw [List.getD_eq_getElem?_getD, List.getElem?_eq_getElem hlt2] at hq0; simpa using hq0, fun j hj => hn32 j (by omega)⟩
              have hkk : k - 1 + 1 = k := by omega
              have hcn : ((y.getD (k - 1) 0).toNat : Int) = 32 := by rw [hq0]; rfl
              by_cases hq : NumOk (y.drop k) ∧ decVal (y.drop k) ≤ 999
              · obtain ⟨r1, r2⟩ := line_job hsp (by omega) (by rw [hkk]; exact hq.1) (by rw [hkk]; exact hq.2)
                rw [hkk] at r1 r2
                have hv : numV (y.drop k) = .tup [.int .i64 (decVal (y.drop k) : Nat), .bool true] := by rw [numV_good hq.1.1, tf_true hq.1.2]
                have hq2 := hq.2
                generalize decVal (y.drop k) = dv at *
                have hh := And.intro hkn (And.intro hkm (And.intro hcn (And.intro hv hjl)))
                repeat' (first | refine go ?_ | (refine br (fun hc => ?_) (fun hc => ?_) <;> try (exfalso; omega)) | fail)
                exact againE (i + 1, J ++ [⟨0, y.take (k - 1), 3, 0, 0, dv⟩]) ⟨by simp only; omega, by simp only; rw [List.map_append, hJL, List.take_succ_eq_append_getElem hlt, hy]; simp only [List.map_cons, List.map_nil, r2], fun x hx => (List.mem_append.1 hx).elim (hJR x) (fun h => by simp only [List.mem_singleton] at h; rw [h]; exact r1)⟩ (by simp only; omega) (by simp [jobAV, JobA.cells])
              · rw [hbad fun K x hx hr e => line_none2 hsp (by rw [hkk]; exact hq) hr e]
                obtain ⟨dn, db, hv, hv2⟩ := numV_form2 (y.drop k)
                have hv2 := hv2 hq
                have hh := And.intro hkn (And.intro hkm (And.intro hcn hv))
                cases db
                · repeat' (first | refine go ?_ | (refine br (fun hc => ?_) (fun hc => ?_) <;> try (exfalso; omega)) | fail)
                  all_goals exact .junkd ⟨rfl, rfl⟩
                · have hv3 : 999 < dn := hv2.resolve_left (by simp)
                  repeat' (first | refine go ?_ | (refine br (fun hc => ?_) (fun hc => ?_) <;> try (exfalso; omega)) | fail)
                  all_goals exact .junkd ⟨rfl, rfl⟩
            · have hcn : ¬ ((y.getD (k - 1) 0).toNat : Int) = 32 := fun h => hq0 (UInt8.toNat_inj.1 (show _ = 32 by omega))
              have hh := And.intro hkn hcn
              have hk3 : (k : Int) - 1 - 1 = ((k - 1 : Nat) : Int) - 1 := by omega
              repeat' (first | refine go ?_ | (refine br (fun hc => ?_) (fun hc => ?_) <;> try (exfalso; omega)) | fail)
              rw [hk3]
              exact again (k - 1) ⟨by omega, fun m hm => by
                rcases Nat.lt_or_ge m k with h | h
                · obtain rfl : m = k - 1 := by omega
                  rw [List.getElem?_eq_getElem hlt2]
                  rw [List.getD_eq_getElem?_getD, List.getElem?_eq_getElem hlt2] at hq0
                  intro e; exact hq0 (by simpa using e)
                · exact hn32 m h⟩ (by omega)
          · rw [hbad fun K x hx hr e => line_none1 (k := 0) (fun j hj => hn32 j (by omega)) (by omega) hr e]
            by_cases hk1 : k = 0
            · subst hk1
              repeat' (first | refine go ?_ | (refine br (fun hc => ?_) (fun hc => ?_) <;> try (exfalso; omega)) | fail)
              all_goals exact .junkd ⟨rfl, rfl⟩
            · obtain rfl : k = 1 := by omega
              repeat' (first | refine go ?_ | (refine br (fun hc => ?_) (fun hc => ?_) <;> try (exfalso; omega)) | fail)
              all_goals exact .junkd ⟨rfl, rfl⟩
        · obtain rfl : i = L.length := by omega
          rw [List.take_length] at hJL
          by_cases hR0 : R.length = 0
          · have hR1 : R = [] := List.length_eq_zero_iff.1 hR0
            have hjw : ∀ x ∈ J, x.Big ∧ x.rcpt.length ≤ 100000 := fun x hx => by
              have a := hJR x hx
              obtain ⟨_, _, _, _, a5, a6, _⟩ := a
              have hm2 : x.ln ∈ L := by rw [← hJL]; exact List.mem_map_of_mem hx
              have h9 := hLx _ hm2
              have h10 : x.rcpt.length ≤ x.ln.length := by simp [JobA.ln]
              exact ⟨⟨by omega, by omega, by omega⟩, by omega⟩
            have hh := hR0
            repeat' (first | refine gos ?_ | (refine br (fun hc => ?_) (fun hc => ?_) <;> try (exfalso; omega)) | fail)
            refine wseq_normal ?_
            repeat' (first | refine gos ?_ | (refine br (fun hc => ?_) (fun hc => ?_) <;> try (exfalso; omega)) | fail)
            refine wseq_normal ?_
            repeat' (first | refine gos ?_ | (refine br (fun hc => ?_) (fun hc => ?_) <;> try (exfalso; omega)) | fail)
            refine wseq_normal ?_
            repeat' (first | refine gos ?_ | (refine br (fun hc => ?_) (fun hc => ?_) <;> try (exfalso; omega)) | fail)
            refine wseq_shift (Shift.know 8 (id := H.length) (sz := 6) (n := J.length) (xs := jobAV J) rfl (by simp)) ?_
            simp only [List.set_cons_succ, List.set_cons_zero, setE0, setE]
            have hmk : ∀ H, Ctr (env n0 w0 gl) 90 [.str (b1.drop 14), .int .i64 0, .agg [.str b2, .sl 0 [] .full, .int .i64 0], .sl J.length (jobAV J) .ro] H True (makeV (b1.drop 14) 0 b2 J) H := fun H => ⟨fun _ => by
              have := (ref_make_e (n0 := n0) (w0 := w0) (gl := gl) (H := H) (b1.drop 14) 0 b2 [] 0 J (by rw [List.length_drop]; omega) (by omega) (by omega) hjw).call
              exact fun g w cs hr hv => this g w cs hr (rels_make2 hv)⟩
            have hmy : (MakeOk (b1.drop 14) 0 b2 ∧ toldS J ≠ []) → makeV (b1.drop 14) 0 b2 J = .tup [.agg [.str [], .sl 1 [.str b2] .full, .int .i64 0], .sl (bncH (b1.drop 14) b2 ++ toldS J).length (bytesAV (bncH (b1.drop 14) b2 ++ toldS J)) .ro, .bool true] := fun h => by unfold makeV; rw [tf_true h]; rfl
            have hmx : ¬ (MakeOk (b1.drop 14) 0 b2 ∧ toldS J ≠ []) → makeV (b1.drop 14) 0 b2 J = .tup [.agg [.str [], .sl 0 [] .full, .int .i64 0], .sl 0 [] .full, .bool false] := fun h => by unfold makeV; rw [tf_false h]; rfl
            by_cases hM : MakeOk (b1.drop 14) 0 b2 ∧ toldS J ≠ []
            · rw [hmy hM] at hmk
              have hyes := rbnc_yes (J := J) (host := b1.drop 14) (fro := b2) hP hr0 (by rw [hL, hR1, hJL]) hJR hM.1 hM.2
              have hnn := fun (he : ¬ bncH (b1.drop 14) b2 ++ toldS J = b) => hno fun K hK => he (by
                obtain ⟨k1, k2, k3⟩ := hKL K hK
                have e : J = K := lns_inj hJR k3 (by rw [hJL, k1])
                rw [e]; exact (rbnc_no hP hr0 hK).2.2.2.2.1)
              generalize bncH (b1.drop 14) b2 ++ toldS J = own at *
              repeat (refine w_seq ?_)
              refine w_drawnW [.pure, .pure, .pure, .pure, .pure, .pure, .pure, .pure, .pure, .pure, .pure, .pure, .pure, .step 0, .step 1, .pure, .pure] [.str b1, .str (b1.drop 14), .sl 3 [.str n1, .str b1, .str n2, .str b2, .str n3, .str b3] .ro, .row [.str n2, .str b2, .str n3, .str b3], .row [.str b2, .str n3, .str b3], .str b2, .agg [.str b2, .sl 0 [] .full, .int .i64 0], .sl J.length (jobAV J) .ro, .tup [.agg [.str [], .sl 1 [.str b2] .full, .int .i64 0], .sl own.length (bytesAV own) .ro, .bool true], .tup [.agg [.str [], .sl 1 [.str b2] .full, .int .i64 0], .sl own.length (bytesAV own) .ro, .bool true], .agg [.str [], .sl 1 [.str b2] .full, .int .i64 0], .sl own.length (bytesAV own) .ro, .bool true, .ref (H.length + 1) 0, .top, .sl own.length (bytesAV own) .ro, .bool true] [(H ++ [.dead]), (H ++ [.dead, .cells [.str [], .sl 0 [] .full, .int .i64 0]]), (H ++ [.dead, .cells [.str [], .sl 1 [.str b2] .full, .int .i64 0]])] 2 (by intro _ h; cases h) (by simp only [List.length_cons, List.length_nil, Nat.reduceAdd]; exact rfl) (by decide +kernel) rfl (allV_of ⟨?_, ?_, ?_, ?_, ?_, ?_, ?_, ?_, ?_, ?_, ?_, ?_, ?_, ?_, ?_, ?_, ?_, trivial⟩) (by simp only [putV, Go.Ab.putL, List.tail_cons, List.headD_cons, List.set_cons_succ, List.set_cons_zero]; exact rfl) (H2 := (H ++ [.dead, .cells [.str [], .sl 1 [.str b2] .full, .int .i64 0]])) rfl ?_
              · exact fun k _ => show Ent _ _ _ _ _ _ _ (.str b1) _ from Ent.agreeL2 (L := [7]) (ts := [.top, .top, .top, .top, .top, .top, .top, .str b1]) (.pure eGT rfl eV) (by kernel_rfl) (by kernel_rfl)
              · exact fun k _ => show Ent _ _ _ _ _ _ _ (.str (b1.drop 14)) _ from Ent.agreeL2 (L := [106]) (ts := [.top, .top, .top, .top, .top, .top, .top, .top, .top, .top, .top, .top, .top, .top, .top, .top, .top, .top, .top, .top, .top, .top, .top, .top, .top, .top, .top, .top, .top, .top, .top, .top, .top, .top, .top, .top, .top, .top, .top, .top, .top, .top, .top, .top, .top, .top, .top, .top, .top, .top, .top, .top, .top, .top, .top, .top, .top, .top, .top, .top, .top, .top, .top, .top, .top, .top, .top, .top, .top, .top, .top, .top, .top, .top, .top, .top, .top, .top, .top, .top, .top, .top, .top, .top, .top, .top, .top, .top, .top, .top, .top, .top, .top, .top, .top, .top, .top, .top, .top, .top, .top, .top, .top, .top, .top, .top, .str b1]) (.pure eGT rfl eV) (by kernel_rfl) (by kernel_rfl)
              · exact fun k _ => show Ent _ _ _ _ _ _ _ (.sl 3 [.str n1, .str b1, .str n2, .str b2, .str n3, .str b3] .ro) _ from Ent.agreeL2 (L := [4]) (ts := [.top, .top, .top, .top, .sl 3 [.str n1, .str b1, .str n2, .str b2, .str n3, .str b3] .ro]) (.pure eGT rfl eV) (by kernel_rfl) (by kernel_rfl)
              · exact fun k _ => show Ent _ _ _ _ _ _ _ (.row [.str n2, .str b2, .str n3, .str b3]) _ from Ent.agreeL2 (L := [108]) (ts := [.top, .top, .top, .top, .top, .top, .top, .top, .top, .top, .top, .top, .top, .top, .top, .top, .top, .top, .top, .top, .top, .top, .top, .top, .top, .top, .top, .top, .top, .top, .top, .top, .top, .top, .top, .top, .top, .top, .top, .top, .top, .top, .top, .top, .top, .top, .top, .top, .top, .top, .top, .top, .top, .top, .top, .top, .top, .top, .top, .top, .top, .top, .top, .top, .top, .top, .top, .top, .top, .top, .top, .top, .top, .top, .top, .top, .top, .top, .top, .top, .top, .top, .top, .top, .top, .top, .top, .top, .top, .top, .top, .top, .top, .top, .top, .top, .top, .top, .top, .top, .top, .top, .top, .top, .top, .top, .top, .top, .sl 3 [.str n1, .str b1, .str n2, .str b2, .str n3, .str b3] .ro]) (.pure eGT rfl eV) (by kernel_rfl) (by kernel_rfl)
              · exact fun k _ => show Ent _ _ _ _ _ _ _ (.row [.str b2, .str n3, .str b3]) _ from Ent.agreeL2 (L := [109]) (ts := [.top, .top, .top, .top, .top, .top, .top, .top, .top, .top, .top, .top, .top, .top, .top, .top, .top, .top, .top, .top, .top, .top, .top, .top, .top, .top, .top, .top, .top, .top, .top, .top, .top, .top, .top, .top, .top, .top, .top, .top, .top, .top, .top, .top, .top, .top, .top, .top, .top, .top, .top, .top, .top, .top, .top, .top, .top, .top, .top, .top, .top, .top, .top, .top, .top, .top, .top, .top, .top, .top, .top, .top, .top, .top, .top, .top, .top, .top, .top, .top, .top, .top, .top, .top, .top, .top, .top, .top, .top, .top, .top, .top, .top, .top, .top, .top, .top, .top, .top, .top, .top, .top, .top, .top, .top, .top, .top, .top, .top, .row [.str n2, .str b2, .str n3, .str b3]]) (.pure eGT rfl eV) (by kernel_rfl) (by kernel_rfl)
              · exact fun k _ => show Ent _ _ _ _ _ _ _ (.str b2) _ from Ent.agreeL2 (L := [110]) (ts := [.top, .top, .top, .top, .top, .top, .top, .top, .top, .top, .top, .top, .top, .top, .top, .top, .top, .top, .top, .top, .top, .top, .top, .top, .top, .top, .top, .top, .top, .top, .top, .top, .top, .top, .top, .top, .top, .top, .top, .top, .top, .top, .top, .top, .top, .top, .top, .top, .top, .top, .top, .top, .top, .top, .top, .top, .top, .top, .top, .top, .top, .top, .top, .top, .top, .top, .top, .top, .top, .top, .top, .top, .top, .top, .top, .top, .top, .top, .top, .top, .top, .top, .top, .top, .top, .top, .top, .top, .top, .top, .top, .top, .top, .top, .top, .top, .top, .top, .top, .top, .top, .top, .top, .top, .top, .top, .top, .top, .top, .top, .row [.str b2, .str n3, .str b3]]) (.pure eGT rfl eV) (by kernel_rfl) (by kernel_rfl)
              · exact fun k _ => show Ent _ _ _ _ _ _ _ (.agg [.str b2, .sl 0 [] .full, .int .i64 0]) _ from Ent.agreeL2 (L := [111]) (ts := [.top, .top, .top, .top, .top, .top, .top, .top, .top, .top, .top, .top, .top, .top, .top, .top, .top, .top, .top, .top, .top, .top, .top, .top, .top, .top, .top, .top, .top, .top, .top, .top, .top, .top, .top, .top, .top, .top, .top, .top, .top, .top, .top, .top, .top, .top, .top, .top, .top, .top, .top, .top, .top, .top, .top, .top, .top, .top, .top, .top, .top, .top, .top, .top, .top, .top, .top, .top, .top, .top, .top, .top, .top, .top, .top, .top, .top, .top, .top, .top, .top, .top, .top, .top, .top, .top, .top, .top, .top, .top, .top, .top, .top, .top, .top, .top, .top, .top, .top, .top, .top, .top, .top, .top, .top, .top, .top, .top, .top, .top, .top, .str b2]) (.heap eGT rfl (by first | exact eV | exact eLit)) (by kernel_rfl) (by kernel_rfl)
              · exact fun k _ => show Ent _ _ _ _ _ _ _ (.sl J.length (jobAV J) .ro) _ from Ent.agreeL2 (L := [8]) (ts := [.top, .top, .top, .top, .top, .top, .top, .top, .sl J.length (jobAV J) .ro]) (.pure eGT rfl eV) (by kernel_rfl) (by kernel_rfl)
              · exact fun k _ => show Ent _ _ _ _ _ _ _ (.tup [.agg [.str [], .sl 1 [.str b2] .full, .int .i64 0], .sl own.length (bytesAV own) .ro, .bool true]) _ from Ent.agreeL2 (L := [107, 112, 113]) (ts := [.top, .top, .top, .top, .top, .top, .top, .top, .top, .top, .top, .top, .top, .top, .top, .top, .top, .top, .top, .top, .top, .top, .top, .top, .top, .top, .top, .top, .top, .top, .top, .top, .top, .top, .top, .top, .top, .top, .top, .top, .top, .top, .top, .top, .top, .top, .top, .top, .top, .top, .top, .top, .top, .top, .top, .top, .top, .top, .top, .top, .top, .top, .top, .top, .top, .top, .top, .top, .top, .top, .top, .top, .top, .top, .top, .top, .top, .top, .top, .top, .top, .top, .top, .top, .top, .top, .top, .top, .top, .top, .top, .top, .top, .top, .top, .top, .top, .top, .top, .top, .top, .top, .top, .top, .top, .top, .top, .str (b1.drop 14), .top, .top, .top, .top, .agg [.str b2, .sl 0 [] .full, .int .i64 0], .sl J.length (jobAV J) .ro]) (.call eGT rfl rfl eA (args := [.str (b1.drop 14), .int .i64 0, .agg [.str b2, .sl 0 [] .full, .int .i64 0], .sl J.length (jobAV J) .ro]) eArgs ((hmk _).call trivial)) (by kernel_rfl) (by kernel_rfl)
              · exact fun k _ => show Ent _ _ _ _ _ _ _ (.tup [.agg [.str [], .sl 1 [.str b2] .full, .int .i64 0], .sl own.length (bytesAV own) .ro, .bool true]) _ from Ent.agreeL2 (L := [114]) (ts := [.top, .top, .top, .top, .top, .top, .top, .top, .top, .top, .top, .top, .top, .top, .top, .top, .top, .top, .top, .top, .top, .top, .top, .top, .top, .top, .top, .top, .top, .top, .top, .top, .top, .top, .top, .top, .top, .top, .top, .top, .top, .top, .top, .top, .top, .top, .top, .top, .top, .top, .top, .top, .top, .top, .top, .top, .top, .top, .top, .top, .top, .top, .top, .top, .top, .top, .top, .top, .top, .top, .top, .top, .top, .top, .top, .top, .top, .top, .top, .top, .top, .top, .top, .top, .top, .top, .top, .top, .top, .top, .top, .top, .top, .top, .top, .top, .top, .top, .top, .top, .top, .top, .top, .top, .top, .top, .top, .top, .top, .top, .top, .top, .top, .top, .tup [.agg [.str [], .sl 1 [.str b2] .full, .int .i64 0], .sl own.length (bytesAV own) .ro, .bool true]]) (.pure eGT rfl eV) (by kernel_rfl) (by kernel_rfl)
              · exact fun k _ => show Ent _ _ _ _ _ _ _ (.agg [.str [], .sl 1 [.str b2] .full, .int .i64 0]) _ from Ent.agreeL2 (L := [105]) (ts := [.top, .top, .top, .top, .top, .top, .top, .top, .top, .top, .top, .top, .top, .top, .top, .top, .top, .top, .top, .top, .top, .top, .top, .top, .top, .top, .top, .top, .top, .top, .top, .top, .top, .top, .top, .top, .top, .top, .top, .top, .top, .top, .top, .top, .top, .top, .top, .top, .top, .top, .top, .top, .top, .top, .top, .top, .top, .top, .top, .top, .top, .top, .top, .top, .top, .top, .top, .top, .top, .top, .top, .top, .top, .top, .top, .top, .top, .top, .top, .top, .top, .top, .top, .top, .top, .top, .top, .top, .top, .top, .top, .top, .top, .top, .top, .top, .top, .top, .top, .top, .top, .top, .top, .top, .top, .tup [.agg [.str [], .sl 1 [.str b2] .full, .int .i64 0], .sl own.length (bytesAV own) .ro, .bool true]]) (.pure eGT rfl eV) (by kernel_rfl) (by kernel_rfl)
              · exact fun k _ => show Ent _ _ _ _ _ _ _ (.sl own.length (bytesAV own) .ro) _ from Ent.agreeL2 (L := [105]) (ts := [.top, .top, .top, .top, .top, .top, .top, .top, .top, .top, .top, .top, .top, .top, .top, .top, .top, .top, .top, .top, .top, .top, .top, .top, .top, .top, .top, .top, .top, .top, .top, .top, .top, .top, .top, .top, .top, .top, .top, .top, .top, .top, .top, .top, .top, .top, .top, .top, .top, .top, .top, .top, .top, .top, .top, .top, .top, .top, .top, .top, .top, .top, .top, .top, .top, .top, .top, .top, .top, .top, .top, .top, .top, .top, .top, .top, .top, .top, .top, .top, .top, .top, .top, .top, .top, .top, .top, .top, .top, .top, .top, .top, .top, .top, .top, .top, .top, .top, .top, .top, .top, .top, .top, .top, .top, .tup [.agg [.str [], .sl 1 [.str b2] .full, .int .i64 0], .sl own.length (bytesAV own) .ro, .bool true]]) (.pure eGT rfl eV) (by kernel_rfl) (by kernel_rfl)
              · exact fun k _ => show Ent _ _ _ _ _ _ _ (.bool true) _ from Ent.agreeL2 (L := [105]) (ts := [.top, .top, .top, .top, .top, .top, .top, .top, .top, .top, .top, .top, .top, .top, .top, .top, .top, .top, .top, .top, .top, .top, .top, .top, .top, .top, .top, .top, .top, .top, .top, .top, .top, .top, .top, .top, .top, .top, .top, .top, .top, .top, .top, .top, .top, .top, .top, .top, .top, .top, .top, .top, .top, .top, .top, .top, .top, .top, .top, .top, .top, .top, .top, .top, .top, .top, .top, .top, .top, .top, .top, .top, .top, .top, .top, .top, .top, .top, .top, .top, .top, .top, .top, .top, .top, .top, .top, .top, .top, .top, .top, .top, .top, .top, .top, .top, .top, .top, .top, .top, .top, .top, .top, .top, .top, .tup [.agg [.str [], .sl 1 [.str b2] .full, .int .i64 0], .sl own.length (bytesAV own) .ro, .bool true]]) (.pure eGT rfl eV) (by kernel_rfl) (by kernel_rfl)
              · exact ⟨by decide, show Ent _ _ _ _ _ _ ((H ++ [.dead])) (.ref (H.length + 1) 0) ((H ++ [.dead, .cells [.str [], .sl 0 [] .full, .int .i64 0]])) from Ent.agreeL2 (L := []) (ts := []) (.heap eGT rfl eV) (by kernel_rfl) (by kernel_rfl)⟩
              · exact ⟨by decide, show Ent _ _ _ _ _ _ ((H ++ [.dead, .cells [.str [], .sl 0 [] .full, .int .i64 0]])) (.top) ((H ++ [.dead, .cells [.str [], .sl 1 [.str b2] .full, .int .i64 0]])) from Ent.agreeL2 (L := [17, 115]) (ts := [.top, .top, .top, .top, .top, .top, .top, .top, .top, .top, .top, .top, .top, .top, .top, .top, .top, .ref (H.length + 1) 0, .top, .top, .top, .top, .top, .top, .top, .top, .top, .top, .top, .top, .top, .top, .top, .top, .top, .top, .top, .top, .top, .top, .top, .top, .top, .top, .top, .top, .top, .top, .top, .top, .top, .top, .top, .top, .top, .top, .top, .top, .top, .top, .top, .top, .top, .top, .top, .top, .top, .top, .top, .top, .top, .top, .top, .top, .top, .top, .top, .top, .top, .top, .top, .top, .top, .top, .top, .top, .top, .top, .top, .top, .top, .top, .top, .top, .top, .top, .top, .top, .top, .top, .top, .top, .top, .top, .top, .top, .top, .top, .top, .top, .top, .top, .top, .top, .top, .agg [.str [], .sl 1 [.str b2] .full, .int .i64 0]]) (.heap eGT rfl eV) (by kernel_rfl) (by kernel_rfl)⟩
              · exact fun k _ => show Ent _ _ _ _ _ _ _ (.sl own.length (bytesAV own) .ro) _ from Ent.agreeL2 (L := [116]) (ts := [.top, .top, .top, .top, .top, .top, .top, .top, .top, .top, .top, .top, .top, .top, .top, .top, .top, .top, .top, .top, .top, .top, .top, .top, .top, .top, .top, .top, .top, .top, .top, .top, .top, .top, .top, .top, .top, .top, .top, .top, .top, .top, .top, .top, .top, .top, .top, .top, .top, .top, .top, .top, .top, .top, .top, .top, .top, .top, .top, .top, .top, .top, .top, .top, .top, .top, .top, .top, .top, .top, .top, .top, .top, .top, .top, .top, .top, .top, .top, .top, .top, .top, .top, .top, .top, .top, .top, .top, .top, .top, .top, .top, .top, .top, .top, .top, .top, .top, .top, .top, .top, .top, .top, .top, .top, .top, .top, .top, .top, .top, .top, .top, .top, .top, .top, .top, .sl own.length (bytesAV own) .ro]) (.pure eGT rfl eV) (by kernel_rfl) (by kernel_rfl)
              · exact fun k _ => show Ent _ _ _ _ _ _ _ (.bool true) _ from Ent.agreeL2 (L := [117]) (ts := [.top, .top, .top, .top, .top, .top, .top, .top, .top, .top, .top, .top, .top, .top, .top, .top, .top, .top, .top, .top, .top, .top, .top, .top, .top, .top, .top, .top, .top, .top, .top, .top, .top, .top, .top, .top, .top, .top, .top, .top, .top, .top, .top, .top, .top, .top, .top, .top, .top, .top, .top, .top, .top, .top, .top, .top, .top, .top, .top, .top, .top, .top, .top, .top, .top, .top, .top, .top, .top, .top, .top, .top, .top, .top, .top, .top, .top, .top, .top, .top, .top, .top, .top, .top, .top, .top, .top, .top, .top, .top, .top, .top, .top, .top, .top, .top, .top, .top, .top, .top, .top, .top, .top, .top, .top, .top, .top, .top, .top, .top, .top, .top, .top, .top, .top, .top, .top, .bool true]) (.pure eGT rfl eV) (by kernel_rfl) (by kernel_rfl)
              refine wseq_normal ?_
              by_cases ho : own = b
              · have hbv : bncV b = .tup [.sl J.length (jobAV J) .ro, .bool true] := by unfold bncV; rw [hyes ho]
                rw [hbv]
                have hh := And.intro ho hjl
                repeat' (first | refine go ?_ | (refine br (fun hc => ?_) (fun hc => ?_) <;> try (exfalso; omega)) | fail)
                exact .junkd ⟨rfl, rfl⟩
              · rw [hnn ho]
                have hh := And.intro ho hjl
                repeat' (first | refine go ?_ | (refine br (fun hc => ?_) (fun hc => ?_) <;> try (exfalso; omega)) | fail)
                exact .junkd ⟨rfl, rfl⟩
            · rw [hmx hM] at hmk
              rw [hno fun K hK => hM (by
                obtain ⟨k1, k2, k3⟩ := hKL K hK
                have e : J = K := lns_inj hJR k3 (by rw [hJL, k1])
                rw [e]; exact ⟨(rbnc_no hP hr0 hK).2.2.1, (rbnc_no hP hr0 hK).2.2.2.1⟩)]
              repeat (refine w_seq ?_)
              refine w_drawnW [.pure, .pure, .pure, .pure, .pure, .pure, .pure, .pure, .pure, .pure, .pure, .pure, .pure, .step 0, .step 1, .pure, .pure] [.str b1, .str (b1.drop 14), .sl 3 [.str n1, .str b1, .str n2, .str b2, .str n3, .str b3] .ro, .row [.str n2, .str b2, .str n3, .str b3], .row [.str b2, .str n3, .str b3], .str b2, .agg [.str b2, .sl 0 [] .full, .int .i64 0], .sl J.length (jobAV J) .ro, .tup [.agg [.str [], .sl 0 [] .full, .int .i64 0], .sl 0 [] .full, .bool false], .tup [.agg [.str [], .sl 0 [] .full, .int .i64 0], .sl 0 [] .full, .bool false], .agg [.str [], .sl 0 [] .full, .int .i64 0], .sl 0 [] .full, .bool false, .ref (H.length + 1) 0, .top, .sl 0 [] .full, .bool false] [(H ++ [.dead]), (H ++ [.dead, .cells [.str [], .sl 0 [] .full, .int .i64 0]]), (H ++ [.dead, .cells [.str [], .sl 0 [] .full, .int .i64 0]])] 2 (by intro _ h; cases h) (by simp only [List.length_cons, List.length_nil, Nat.reduceAdd]; exact rfl) (by decide +kernel) rfl (allV_of ⟨?_, ?_, ?_, ?_, ?_, ?_, ?_, ?_, ?_, ?_, ?_, ?_, ?_, ?_, ?_, ?_, ?_, trivial⟩) (by simp only [putV, Go.Ab.putL, List.tail_cons, List.headD_cons, List.set_cons_succ, List.set_cons_zero]; exact rfl) (H2 := (H ++ [.dead, .cells [.str [], .sl 0 [] .full, .int .i64 0]])) rfl ?_
              · exact fun k _ => show Ent _ _ _ _ _ _ _ (.str b1) _ from Ent.agreeL2 (L := [7]) (ts := [.top, .top, .top, .top, .top, .top, .top, .str b1]) (.pure eGT rfl eV) (by kernel_rfl) (by kernel_rfl)
              · exact fun k _ => show Ent _ _ _ _ _ _ _ (.str (b1.drop 14)) _ from Ent.agreeL2 (L := [106]) (ts := [.top, .top, .top, .top, .top, .top, .top, .top, .top, .top, .top, .top, .top, .top, .top, .top, .top, .top, .top, .top, .top, .top, .top, .top, .top, .top, .top, .top, .top, .top, .top, .top, .top, .top, .top, .top, .top, .top, .top, .top, .top, .top, .top, .top, .top, .top, .top, .top, .top, .top, .top, .top, .top, .top, .top, .top, .top, .top, .top, .top, .top, .top, .top, .top, .top, .top, .top, .top, .top, .top, .top, .top, .top, .top, .top, .top, .top, .top, .top, .top, .top, .top, .top, .top, .top, .top, .top, .top, .top, .top, .top, .top, .top, .top, .top, .top, .top, .top, .top, .top, .top, .top, .top, .top, .top, .top, .str b1]) (.pure eGT rfl eV) (by kernel_rfl) (by kernel_rfl)
              · exact fun k _ => show Ent _ _ _ _ _ _ _ (.sl 3 [.str n1, .str b1, .str n2, .str b2, .str n3, .str b3] .ro) _ from Ent.agreeL2 (L := [4]) (ts := [.top, .top, .top, .top, .sl 3 [.str n1, .str b1, .str n2, .str b2, .str n3, .str b3] .ro]) (.pure eGT rfl eV) (by kernel_rfl) (by kernel_rfl)
              · exact fun k _ => show Ent _ _ _ _ _ _ _ (.row [.str n2, .str b2, .str n3, .str b3]) _ from Ent.agreeL2 (L := [108]) (ts := [.top, .top, .top, .top, .top, .top, .top, .top, .top, .top, .top, .top, .top, .top, .top, .top, .top, .top, .top, .top, .top, .top, .top, .top, .top, .top, .top, .top, .top, .top, .top, .top, .top, .top, .top, .top, .top, .top, .top, .top, .top, .top, .top, .top, .top, .top, .top, .top, .top, .top, .top, .top, .top, .top, .top, .top, .top, .top, .top, .top, .top, .top, .top, .top, .top, .top, .top, .top, .top, .top, .top, .top, .top, .top, .top, .top, .top, .top, .top, .top, .top, .top, .top, .top, .top, .top, .top, .top, .top, .top, .top, .top, .top, .top, .top, .top, .top, .top, .top, .top, .top, .top, .top, .top, .top, .top, .top, .top, .sl 3 [.str n1, .str b1, .str n2, .str b2, .str n3, .str b3] .ro]) (.pure eGT rfl eV) (by kernel_rfl) (by kernel_rfl)
              · exact fun k _ => show Ent _ _ _ _ _ _ _ (.row [.str b2, .str n3, .str b3]) _ from Ent.agreeL2 (L := [109]) (ts := [.top, .top, .top, .top, .top, .top, .top, .top, .top, .top, .top, .top, .top, .top, .top, .top, .top, .top, .top, .top, .top, .top, .top, .top, .top, .top, .top, .top, .top, .top, .top, .top, .top, .top, .top, .top, .top, .top, .top, .top, .top, .top, .top, .top, .top, .top, .top, .top, .top, .top, .top, .top, .top, .top, .top, .top, .top, .top, .top, .top, .top, .top, .top, .top, .top, .top, .top, .top, .top, .top, .top, .top, .top, .top, .top, .top, .top, .top, .top, .top, .top, .top, .top, .top, .top, .top, .top, .top, .top, .top, .top, .top, .top, .top, .top, .top, .top, .top, .top, .top, .top, .top, .top, .top, .top, .top, .top, .top, .top, .row [.str n2, .str b2, .str n3, .str b3]]) (.pure eGT rfl eV) (by kernel_rfl) (by kernel_rfl)
              · exact fun k _ => show Ent _ _ _ _ _ _ _ (.str b2) _ from Ent.agreeL2 (L := [110]) (ts := [.top, .top, .top, .top, .top, .top, .top, .top, .top, .top, .top, .top, .top, .top, .top, .top, .top, .top, .top, .top, .top, .top, .top, .top, .top, .top, .top, .top, .top, .top, .top, .top, .top, .top, .top, .top, .top, .top, .top, .top, .top, .top, .top, .top, .top, .top, .top, .top, .top, .top, .top, .top, .top, .top, .top, .top, .top, .top, .top, .top, .top, .top, .top, .top, .top, .top, .top, .top, .top, .top, .top, .top, .top, .top, .top, .top, .top, .top, .top, .top, .top, .top, .top, .top, .top, .top, .top, .top, .top, .top, .top, .top, .top, .top, .top, .top, .top, .top, .top, .top, .top, .top, .top, .top, .top, .top, .top, .top, .top, .top, .row [.str b2, .str n3, .str b3]]) (.pure eGT rfl eV) (by kernel_rfl) (by kernel_rfl)
              · exact fun k _ => show Ent _ _ _ _ _ _ _ (.agg [.str b2, .sl 0 [] .full, .int .i64 0]) _ from Ent.agreeL2 (L := [111]) (ts := [.top, .top, .top, .top, .top, .top, .top, .top, .top, .top, .top, .top, .top, .top, .top, .top, .top, .top, .top, .top, .top, .top, .top, .top, .top, .top, .top, .top, .top, .top, .top, .top, .top, .top, .top, .top, .top, .top, .top, .top, .top, .top, .top, .top, .top, .top, .top, .top, .top, .top, .top, .top, .top, .top, .top, .top, .top, .top, .top, .top, .top, .top, .top, .top, .top, .top, .top, .top, .top, .top, .top, .top, .top, .top, .top, .top, .top, .top, .top, .top, .top, .top, .top, .top, .top, .top, .top, .top, .top, .top, .top, .top, .top, .top, .top, .top, .top, .top, .top, .top, .top, .top, .top, .top, .top, .top, .top, .top, .top, .top, .top, .str b2]) (.heap eGT rfl (by first | exact eV | exact eLit)) (by kernel_rfl) (by kernel_rfl)
              · exact fun k _ => show Ent _ _ _ _ _ _ _ (.sl J.length (jobAV J) .ro) _ from Ent.agreeL2 (L := [8]) (ts := [.top, .top, .top, .top, .top, .top, .top, .top, .sl J.length (jobAV J) .ro]) (.pure eGT rfl eV) (by kernel_rfl) (by kernel_rfl)
              · exact fun k _ => show Ent _ _ _ _ _ _ _ (.tup [.agg [.str [], .sl 0 [] .full, .int .i64 0], .sl 0 [] .full, .bool false]) _ from Ent.agreeL2 (L := [107, 112, 113]) (ts := [.top, .top, .top, .top, .top, .top, .top, .top, .top, .top, .top, .top, .top, .top, .top, .top, .top, .top, .top, .top, .top, .top, .top, .top, .top, .top, .top, .top, .top, .top, .top, .top, .top, .top, .top, .top, .top, .top, .top, .top, .top, .top, .top, .top, .top, .top, .top, .top, .top, .top, .top, .top, .top, .top, .top, .top, .top, .top, .top, .top, .top, .top, .top, .top, .top, .top, .top, .top, .top, .top, .top, .top, .top, .top, .top, .top, .top, .top, .top, .top, .top, .top, .top, .top, .top, .top, .top, .top, .top, .top, .top, .top, .top, .top, .top, .top, .top, .top, .top, .top, .top, .top, .top, .top, .top, .top, .top, .str (b1.drop 14), .top, .top, .top, .top, .agg [.str b2, .sl 0 [] .full, .int .i64 0], .sl J.length (jobAV J) .ro]) (.call eGT rfl rfl eA (args := [.str (b1.drop 14), .int .i64 0, .agg [.str b2, .sl 0 [] .full, .int .i64 0], .sl J.length (jobAV J) .ro]) eArgs ((hmk _).call trivial)) (by kernel_rfl) (by kernel_rfl)
              · exact fun k _ => show Ent _ _ _ _ _ _ _ (.tup [.agg [.str [], .sl 0 [] .full, .int .i64 0], .sl 0 [] .full, .bool false]) _ from Ent.agreeL2 (L := [114]) (ts := [.top, .top, .top, .top, .top, .top, .top, .top, .top, .top, .top, .top, .top, .top, .top, .top, .top, .top, .top, .top, .top, .top, .top, .top, .top, .top, .top, .top, .top, .top, .top, .top, .top, .top, .top, .top, .top, .top, .top, .top, .top, .top, .top, .top, .top, .top, .top, .top, .top, .top, .top, .top, .top, .top, .top, .top, .top, .top, .top, .top, .top, .top, .top, .top, .top, .top, .top, .top, .top, .top, .top, .top, .top, .top, .top, .top, .top, .top, .top, .top, .top, .top, .top, .top, .top, .top, .top, .top, .top, .top, .top, .top, .top, .top, .top, .top, .top, .top, .top, .top, .top, .top, .top, .top, .top, .top, .top, .top, .top, .top, .top, .top, .top, .top, .tup [.agg [.str [], .sl 0 [] .full, .int .i64 0], .sl 0 [] .full, .bool false]]) (.pure eGT rfl eV) (by kernel_rfl) (by kernel_rfl)
              · exact fun k _ => show Ent _ _ _ _ _ _ _ (.agg [.str [], .sl 0 [] .full, .int .i64 0]) _ from Ent.agreeL2 (L := [105]) (ts := [.top, .top, .top, .top, .top, .top, .top, .top, .top, .top, .top, .top, .top, .top, .top, .top, .top, .top, .top, .top, .top, .top, .top, .top, .top, .top, .top, .top, .top, .top, .top, .top, .top, .top, .top, .top, .top, .top, .top, .top, .top, .top, .top, .top, .top, .top, .top, .top, .top, .top, .top, .top, .top, .top, .top, .top, .top, .top, .top, .top, .top, .top, .top, .top, .top, .top, .top, .top, .top, .top, .top, .top, .top, .top, .top, .top, .top, .top, .top, .top, .top, .top, .top, .top, .top, .top, .top, .top, .top, .top, .top, .top, .top, .top, .top, .top, .top, .top, .top, .top, .top, .top, .top, .top, .top, .tup [.agg [.str [], .sl 0 [] .full, .int .i64 0], .sl 0 [] .full, .bool false]]) (.pure eGT rfl eV) (by kernel_rfl) (by kernel_rfl)
              · exact fun k _ => show Ent _ _ _ _ _ _ _ (.sl 0 [] .full) _ from Ent.agreeL2 (L := [105]) (ts := [.top, .top, .top, .top, .top, .top, .top, .top, .top, .top, .top, .top, .top, .top, .top, .top, .top, .top, .top, .top, .top, .top, .top, .top, .top, .top, .top, .top, .top, .top, .top, .top, .top, .top, .top, .top, .top, .top, .top, .top, .top, .top, .top, .top, .top, .top, .top, .top, .top, .top, .top, .top, .top, .top, .top, .top, .top, .top, .top, .top, .top, .top, .top, .top, .top, .top, .top, .top, .top, .top, .top, .top, .top, .top, .top, .top, .top, .top, .top, .top, .top, .top, .top, .top, .top, .top, .top, .top, .top, .top, .top, .top, .top, .top, .top, .top, .top, .top, .top, .top, .top, .top, .top, .top, .top, .tup [.agg [.str [], .sl 0 [] .full, .int .i64 0], .sl 0 [] .full, .bool false]]) (.pure eGT rfl eV) (by kernel_rfl) (by kernel_rfl)
              · exact fun k _ => show Ent _ _ _ _ _ _ _ (.bool false) _ from Ent.agreeL2 (L := [105]) (ts := [.top, .top, .top, .top, .top, .top, .top, .top, .top, .top, .top, .top, .top, .top, .top, .top, .top, .top, .top, .top, .top, .top, .top, .top, .top, .top, .top, .top, .top, .top, .top, .top, .top, .top, .top, .top, .top, .top, .top, .top, .top, .top, .top, .top, .top, .top, .top, .top, .top, .top, .top, .top, .top, .top, .top, .top, .top, .top, .top, .top, .top, .top, .top, .top, .top, .top, .top, .top, .top, .top, .top, .top, .top, .top, .top, .top, .top, .top, .top, .top, .top, .top, .top, .top, .top, .top, .top, .top, .top, .top, .top, .top, .top, .top, .top, .top, .top, .top, .top, .top, .top, .top, .top, .top, .top, .tup [.agg [.str [], .sl 0 [] .full, .int .i64 0], .sl 0 [] .full, .bool false]]) (.pure eGT rfl eV) (by kernel_rfl) (by kernel_rfl)
              · exact ⟨by decide, show Ent _ _ _ _ _ _ ((H ++ [.dead])) (.ref (H.length + 1) 0) ((H ++ [.dead, .cells [.str [], .sl 0 [] .full, .int .i64 0]])) from Ent.agreeL2 (L := []) (ts := []) (.heap eGT rfl eV) (by kernel_rfl) (by kernel_rfl)⟩
              · exact ⟨by decide, show Ent _ _ _ _ _ _ ((H ++ [.dead, .cells [.str [], .sl 0 [] .full, .int .i64 0]])) (.top) ((H ++ [.dead, .cells [.str [], .sl 0 [] .full, .int .i64 0]])) from Ent.agreeL2 (L := [17, 115]) (ts := [.top, .top, .top, .top, .top, .top, .top, .top, .top, .top, .top, .top, .top, .top, .top, .top, .top, .ref (H.length + 1) 0, .top, .top, .top, .top, .top, .top, .top, .top, .top, .top, .top, .top, .top, .top, .top, .top, .top, .top, .top, .top, .top, .top, .top, .top, .top, .top, .top, .top, .top, .top, .top, .top, .top, .top, .top, .top, .top, .top, .top, .top, .top, .top, .top, .top, .top, .top, .top, .top, .top, .top, .top, .top, .top, .top, .top, .top, .top, .top, .top, .top, .top, .top, .top, .top, .top, .top, .top, .top, .top, .top, .top, .top, .top, .top, .top, .top, .top, .top, .top, .top, .top, .top, .top, .top, .top, .top, .top, .top, .top, .top, .top, .top, .top, .top, .top, .top, .top, .agg [.str [], .sl 0 [] .full, .int .i64 0]]) (.heap eGT rfl eV) (by kernel_rfl) (by kernel_rfl)⟩
              · exact fun k _ => show Ent _ _ _ _ _ _ _ (.sl 0 [] .full) _ from Ent.agreeL2 (L := [116]) (ts := [.top, .top, .top, .top, .top, .top, .top, .top, .top, .top, .top, .top, .top, .top, .top, .top, .top, .top, .top, .top, .top, .top, .top, .top, .top, .top, .top, .top, .top, .top, .top, .top, .top, .top, .top, .top, .top, .top, .top, .top, .top, .top, .top, .top, .top, .top, .top, .top, .top, .top, .top, .top, .top, .top, .top, .top, .top, .top, .top, .top, .top, .top, .top, .top, .top, .top, .top, .top, .top, .top, .top, .top, .top, .top, .top, .top, .top, .top, .top, .top, .top, .top, .top, .top, .top, .top, .top, .top, .top, .top, .top, .top, .top, .top, .top, .top, .top, .top, .top, .top, .top, .top, .top, .top, .top, .top, .top, .top, .top, .top, .top, .top, .top, .top, .top, .top, .sl 0 [] .full]) (.pure eGT rfl eV) (by kernel_rfl) (by kernel_rfl)
              · exact fun k _ => show Ent _ _ _ _ _ _ _ (.bool false) _ from Ent.agreeL2 (L := [117]) (ts := [.top, .top, .top, .top, .top, .top, .top, .top, .top, .top, .top, .top, .top, .top, .top, .top, .top, .top, .top, .top, .top, .top, .top, .top, .top, .top, .top, .top, .top, .top, .top, .top, .top, .top, .top, .top, .top, .top, .top, .top, .top, .top, .top, .top, .top, .top, .top, .top, .top, .top, .top, .top, .top, .top, .top, .top, .top, .top, .top, .top, .top, .top, .top, .top, .top, .top, .top, .top, .top, .top, .top, .top, .top, .top, .top, .top, .top, .top, .top, .top, .top, .top, .top, .top, .top, .top, .top, .top, .top, .top, .top, .top, .top, .top, .top, .top, .top, .top, .top, .top, .top, .top, .top, .top, .top, .top, .top, .top, .top, .top, .top, .top, .top, .top, .top, .top, .top, .bool false]) (.pure eGT rfl eV) (by kernel_rfl) (by kernel_rfl)
              refine wseq_normal ?_
              repeat' (first | refine go ?_ | (refine br (fun hc => ?_) (fun hc => ?_) <;> try (exfalso; omega)) | fail)
              exact .junkd ⟨rfl, rfl⟩
          · rw [hno fun K hK => hR0 (by rw [(hKL K hK).2.1]; rfl)]
            repeat' (first | refine go ?_ | (refine br (fun hc => ?_) (fun hc => ?_) <;> try (exfalso; omega)) | fail)
            all_goals exact .junkd ⟨rfl, rfl⟩
      · rw [hmn hm]
        unfold mailer at hm
        by_cases hl14 : 14 ≤ b1.length
        · have hl15 : ¬ ((b1.length : Int) < 14) := by omega
          have hh := And.intro hm hl15
          refine enter (md := fun _ => 0) Tryz.func35 (fun hfit hgl => ?_)
          repeat' (first | refine go ?_ | (refine br (fun hc => ?_) (fun hc => ?_) <;> try (exfalso; omega)) | fail)
          all_goals exact .now ⟨rfl, rfl⟩
        · have hl15 : (b1.length : Int) < 14 := by omega
          have hh := hl15
          refine enter (md := fun _ => 0) Tryz.func35 (fun hfit hgl => ?_)
          repeat' (first | refine go ?_ | (refine br (fun hc => ?_) (fun hc => ?_) <;> try (exfalso; omega)) | fail)
          all_goals exact .now ⟨rfl, rfl⟩
    · have hn := hno fun J hJ => by
        obtain ⟨host, fro, k1, k2, k3⟩ := bnc_jobs hJ
        rw [hP] at k2
        injection k2 with k2 _
        exact h3 (by rw [k2]; rfl)
      rw [hn]
      have hl := fldAV_len l
      refine enter (md := fun _ => 0) Tryz.func35 (fun hfit hgl => ?_)
      repeat' (first | refine go ?_ | (refine br (fun hc => ?_) (fun hc => ?_) <;> try (exfalso; omega)) | fail)
      all_goals exact .now ⟨rfl, rfl⟩
  · have hn := hno fun J hJ => by
      obtain ⟨host, fro, k1, k2, k3⟩ := bnc_jobs hJ
      rw [hP] at k2
      injection k2 with k2 k4
      injection k4 with _ k4
      exact h0 k4
    rw [hn]
    refine enter (md := fun _ => 0) Tryz.func35 (fun hfit hgl => ?_)
    repeat' (first | refine go ?_ | (refine br (fun hc => ?_) (fun hc => ?_) <;> try (exfalso; omega)) | fail)
    all_goals exact .now ⟨rfl, rfl⟩

end Go.Ab.Tryz

end
