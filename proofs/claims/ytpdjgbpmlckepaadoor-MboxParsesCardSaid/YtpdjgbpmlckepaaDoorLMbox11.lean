/- Walks: a mailbox file read, by the document. -/
import Derived.Test.YtpdjgbpmlckepaaDoorLMbox10
set_option linter.unusedSimpArgs false
set_option linter.unusedVariables false
set_option maxHeartbeats 4000000
set_option maxRecDepth 4000
namespace Go.Ab.Tryd
open Go Go.Ab Go.Proofs
attribute [local irreducible] W Wl Wop TrA WSeq WLoopS FPost DPost RPost WRound DK onEnd
attribute [local simp] belowL_bytesAV belowL_ltrAV belowL_rowsAV
variable {n0 : Nat} {w0 : World} {gl : Nat → List AV} {H : List AO}

open Classical in
/-- The letters that some bytes are, by the document. -/
noncomputable def rreadR (b : List UInt8) : Option (List Ltr) := match linesR (lns b).length (lns b) with
  | none => none
  | some l => if (∀ x ∈ l, x.Ok) ∧ showM l = b then some l else none
theorem isFrom_iff (x : List UInt8) (h0 : 0 < x.length) : isFrom x = true ↔ Bg x ∧ (x.getD 0 0).toNat = 70 := by
  unfold isFrom
  rw [decide_eq_true_iff]
  cases x with
  | nil => simp at h0
  | cons c t =>
    simp only [List.getD_cons_zero]
    constructor
    · intro h
      have hc : c = 70 := by
        rw [show fromB = [70, 114, 111, 109, 32] from rfl] at h
        simp only [List.take_succ_cons, List.cons.injEq] at h
        exact h.1
      subst hc
      have hm : mk (70 :: t) = 0 := by unfold mk; rw [if_neg (by decide)]
      exact ⟨by unfold Bg; rw [hm]; exact h, rfl⟩
    · rintro ⟨h, hc⟩
      have hc : c = 70 := UInt8.toNat_inj.1 hc
      subst hc
      have hm : mk (70 :: t) = 0 := by unfold mk; rw [if_neg (by decide)]
      unfold Bg at h
      rw [hm] at h; exact h
theorem bodyLs_at : ∀ {L : List (List UInt8)} {j : Nat}, j < (bodyLs L).length → j < L.length ∧ L.getD j [] = (bodyLs L).getD j [] ∧ isFrom (L.getD j []) = false
  | [], j, h => by simp [bodyLs] at h
  | x :: L, j, h => by
    cases hx : isFrom x with
    | true => simp [bodyLs, hx] at h
    | false =>
      have e : bodyLs (x :: L) = x :: bodyLs L := by simp [bodyLs, hx]
      rw [e] at h ⊢
      cases j with
      | zero => exact ⟨by simp, rfl, by simpa using hx⟩
      | succ j =>
        have ih := bodyLs_at (L := L) (j := j) (by simpa using h)
        exact ⟨by simpa using ih.1, by simpa using ih.2.1, by simpa using ih.2.2⟩
theorem bodyLs_end : ∀ {L : List (List UInt8)}, (bodyLs L).length < L.length → isFrom (L.getD (bodyLs L).length []) = true
  | [], h => by simp at h
  | x :: L, h => by
    cases hx : isFrom x with
    | true => simp [bodyLs, hx]
    | false =>
      have e : bodyLs (x :: L) = x :: bodyLs L := by simp [bodyLs, hx]
      rw [e] at h ⊢
      have ih := bodyLs_end (L := L) (by simpa using h)
      simpa using ih
theorem bodyLs_le (L : List (List UInt8)) : (bodyLs L).length ≤ L.length := by
  unfold bodyLs
  induction L with
  | nil => simp
  | cons x L ih => simp only [List.takeWhile_cons]; split <;> simp <;> omega
theorem bodyLs_sum (b : List UInt8) (i j : Nat) : (((bodyLs ((lns b).drop i)).take j).flatten).length ≤ b.length := by
  have h1 := flatten_take_le (bodyLs ((lns b).drop i)) j
  have h2 := takeWhile_flat_len (fun x => !isFrom x) ((lns b).drop i)
  have h3 : ((lns b).drop i).flatten.length ≤ (lns b).flatten.length := by
    have := congrArg List.length (congrArg List.flatten (List.take_append_drop i (lns b)))
    rw [List.flatten_append, List.length_append] at this
    omega
  rw [lns_join] at h3
  unfold bodyLs at *
  omega
theorem firstR_len {x f : List UInt8} {n : Int} (h : firstR x = some (f, n)) : f.length ≤ x.length ∧ n ≤ 9223372036854775807 := by
  unfold firstR at h
  split at h
  · simp at h
  · rename_i z hz
    have hzl : z.length ≤ x.length := by
      unfold fstS at hz
      split at hz
      · injection hz with hz; subst hz; simp only [List.length_drop, List.length_take]; omega
      · simp at hz
    unfold fstT at h
    split at h
    · simp at h
    · rename_i who w hw
      have := cutAt_len hw
      split at h
      · rename_i hk
        simp only [Option.some.injEq, Prod.mk.injEq] at h
        obtain ⟨h1, h2⟩ := h
        have h4 := hk.1.1.2
        refine ⟨?_, by omega⟩
        rw [← h1]
        split
        · exact Nat.zero_le _
        · omega
      · simp at h
theorem linesR_all : ∀ (k : Nat) (L : List (List UInt8)) (l : List Ltr), linesR k L = some l → ∀ {M : Nat}, L.flatten.length ≤ M → ∀ x ∈ l, x.fro.length ≤ M ∧ x.body.length ≤ M ∧ x.at_ ≤ 9223372036854775807
  | 0, [], l, h, M, _ => by
    simp only [linesR, Option.some.injEq] at h
    subst h; intro x hx; simp at hx
  | 0, _ :: _, l, h, M, _ => by simp [linesR] at h
  | k + 1, [], l, h, M, _ => by
    simp only [linesR, Option.some.injEq] at h
    subst h; intro x hx; simp at hx
  | k + 1, y :: L, l, h, M, hM => by
    unfold linesR at h
    split at h
    · simp at h
    · rename_i f n hf
      split at h
      · cases hp : linesR k (L.drop (bodyLs L).length) with
        | none => rw [hp] at h; simp at h
        | some l' =>
          rw [hp] at h
          simp only [Option.map_some, Option.some.injEq] at h
          subst h
          rw [List.flatten_cons, List.length_append] at hM
          have hd : (L.drop (bodyLs L).length).flatten.length ≤ L.flatten.length := by
            have := congrArg List.length (congrArg List.flatten (List.take_append_drop (bodyLs L).length L))
            rw [List.flatten_append, List.length_append] at this
            omega
          have ih := linesR_all k _ l' hp (M := M) (by omega)
          obtain ⟨r1, r2⟩ := firstR_len hf
          have hu := unquoteS_len ((bodyLs L).flatten.take ((bodyLs L).flatten.length - 1))
          have hb := takeWhile_flat_len (fun x => !isFrom x) L
          rw [List.length_take] at hu
          intro x hx
          rcases List.mem_cons.1 hx with e | e
          · subst e
            refine ⟨by simp only; omega, ?_, r2⟩
            simp only
            unfold bodyLs at hu ⊢
            omega
          · exact ih x e
      · simp at h
/-- What is read, up to a place. -/
structure RInv (b : List UInt8) (i : Nat) (l : List Ltr) (k : Nat) : Prop where
  le : i ≤ (lns b).length
  le2 : (lns b).length - i ≤ k
  sum : l.length ≤ i
  eq : linesR (lns b).length (lns b) = (linesR k ((lns b).drop i)).map (l ++ ·)

theorem rparse_e [ht : Tab10 n0 w0] (b : List UInt8) (hb : b.length ≤ 100000) : AEnter (env n0 w0 gl) 21 [.sl b.length (bytesAV b) .ro] H (fun y H' => y = .ret (match rreadR b with
  | some l => .tup [.sl l.length (ltrAV l) .ro, .int .i64 0]
  | none => .tup [.sl 0 [] .full, .int .i64 100]) ∧ H' = H) := by
  have hrl := rowsAV_len (lns b)
  have hcount : (lns b).length ≤ b.length := lns_count b
  refine enter (md := fun _ => 0) Tryd.func21 (fun hfit hgl => ?_)
  refine gos ?_
  refine wseq_normal ?_
  refine gos ?_
  refine wseq_shift (Shift.vec 3 4 rfl) ?_
  simp only [List.set_cons_succ, List.set_cons_zero]
  repeat' (first | refine go ?_ | (refine br (fun hc => ?_) (fun hc => ?_) <;> try (exfalso; omega)) | fail)
  refine loop (fun i : List Ltr × Nat × Nat => (.sl b.length (bytesAV b) .ro :: .top :: .sl 0 [] .full :: .int .i64 0 :: .vsl H.length i.1.length :: .sl (lns b).length (rowsAV (lns b)) .ro :: .int .i64 (i.2.1 : Int) :: .top :: .top :: .top :: .top :: .top :: .top :: .top :: .top :: .top :: .top :: .top :: .top :: .top :: .top :: .top :: .top :: .top :: .top :: .top :: .top :: .top :: .top :: .top :: .top :: .top :: .top :: .top :: .top :: .top :: .top :: .top :: .top :: .top :: .top :: .top :: .top :: .top :: .top :: .top :: .top :: .top :: .top :: .top :: .top :: .top :: .top :: .top :: .top :: .top :: .top :: .top :: .top :: .top :: .top :: .top :: .top :: .top :: .top :: .top :: .top :: .top :: .top :: .top :: .top :: .top :: .top :: .top :: .top :: .top :: .top :: .top :: .top :: .top :: .top :: .top :: .top :: .top :: .top :: .top :: .top :: .top :: .top :: .top :: .top :: .top :: .top :: .top :: .top :: .top :: .top :: .top :: .top :: .top :: [])) (fun i => H ++ [.vec 3 i.1.length (ltrAV i.1)])
    (fun i => RInv b i.2.1 i.1 i.2.2) (fun i => (lns b).length - i.2.1) ([], 0, (lns b).length) ⟨Nat.zero_le _, Nat.le_refl _, Nat.le_refl _, by simp⟩ ?_
  rintro ⟨l, i, k⟩ ⟨hi, hk, hsum, heq⟩
  simp only at hi hk hsum heq ⊢
  have hfl := ltrAV_len l
  by_cases hlt : i < (lns b).length
  · obtain ⟨k, rfl⟩ : ∃ j, k = j + 1 := ⟨k - 1, by omega⟩
    have hat := rowsAV_at hlt
    obtain ⟨hx1, hx2⟩ := lns_at_len (b := b) hlt
    have hdr : (lns b).drop i = (lns b).getD i [] :: (lns b).drop (i + 1) := by
      rw [List.drop_eq_getElem_cons hlt]; simp [List.getD_eq_getElem?_getD, hlt]
    rw [hdr] at heq
    generalize (lns b).getD i [] = x at *
    have hf : ∀ H, Ctr (env n0 w0 gl) 67 [.sl x.length (bytesAV x) .ro] H True (.tup [.agg [.str (firstE x).1, .int .i64 (firstE x).2.1, .sl 0 [] .full], .bool (firstE x).2.2]) H := fun H => .of fun _ => first10_t x (by omega)
    have hfl3 := firstE_len x
    rcases hE : firstE x with ⟨f, n, is⟩
    rw [hE] at hf hfl3
    simp only at hf hfl3
    cases is with
    | false =>
      have hN : rreadR b = none := by
        unfold rreadR; rw [heq]
        simp only [linesR, firstR_false hE]; rfl
      rw [hN]
      have hh := And.intro hrl hat
      repeat' (first | refine go ?_ | (refine br (fun hc => ?_) (fun hc => ?_) <;> try (exfalso; omega)) | fail)
      all_goals exact .junkd ⟨rfl, rfl⟩
    | true =>
      have hlR : linesR (k + 1) (x :: (lns b).drop (i + 1)) = open Classical in if BodyOk2 ((lns b).drop (i + 1)) then (linesR k (((lns b).drop (i + 1)).drop (bodyLs ((lns b).drop (i + 1))).length)).map (Ltr.mk f n (unquoteS ((bodyLs ((lns b).drop (i + 1))).flatten.take ((bodyLs ((lns b).drop (i + 1))).flatten.length - 1))) :: ·) else none := by
        simp only [linesR, firstR_true hE]
      rw [hlR] at heq
      unfold BodyOk2 at heq
      have hh := And.intro hrl hat
      refine gos ?_
      refine wseq_normal ?_
      refine gos ?_
      refine wseq_normal ?_
      refine gos ?_
      refine wseq_normal ?_
      refine gos ?_
      refine wseq_normal ?_
      refine gos ?_
      refine wseq_normal ?_
      refine gos ?_
      refine wseq_normal ?_
      refine gos ?_
      refine wseq_shift (Shift.vec 1 9 rfl) ?_
      simp only [List.set_cons_succ, List.set_cons_zero, List.append_assoc, List.cons_append, List.nil_append, List.length_append, List.length_cons, List.length_nil, Nat.zero_add, Nat.reduceAdd]
      repeat' (first | refine go ?_ | (refine br (fun hc => ?_) (fun hc => ?_) <;> try (exfalso; omega)) | fail)
      have hLle := bodyLs_le ((lns b).drop (i + 1))
      rw [List.length_drop] at hLle
      have hLd : ∀ j, ((lns b).drop (i + 1)).getD j [] = (lns b).getD (i + 1 + j) [] := fun j => by simp [List.getD_eq_getElem?_getD, List.getElem?_drop]
      have hsumF := bodyLs_sum b (i + 1)
      have hbat := fun j => @bodyLs_at ((lns b).drop (i + 1)) j
      have hbend := @bodyLs_end ((lns b).drop (i + 1))
      rw [List.length_drop] at hbend
      simp only [hLd, List.length_drop] at hbat hbend
      generalize hBL : bodyLs ((lns b).drop (i + 1)) = B at *
      refine loop (fun q : Nat × Nat => (.sl b.length (bytesAV b) .ro :: .top :: .sl 0 [] .full :: .int .i64 0 :: .vsl H.length l.length :: .sl (lns b).length (rowsAV (lns b)) .ro :: .int .i64 (q.1 : Int) :: .ref (H.length + 1) 0 :: .top :: .vsl (H.length + 2) (B.take q.2).flatten.length :: .top :: .top :: .top :: .top :: .top :: .top :: .top :: .top :: .top :: .top :: .top :: .top :: .top :: .top :: .top :: .top :: .top :: .top :: .top :: .top :: .top :: .top :: .top :: .top :: .top :: .top :: .top :: .top :: .top :: .top :: .top :: .top :: .top :: .top :: .top :: .top :: .top :: .top :: .top :: .top :: .top :: .top :: .top :: .top :: .top :: .top :: .top :: .top :: .top :: .top :: .top :: .top :: .top :: .top :: .top :: .top :: .top :: .top :: .top :: .top :: .top :: .top :: .top :: .top :: .top :: .top :: .top :: .top :: .top :: .top :: .top :: .top :: .top :: .top :: .top :: .top :: .top :: .top :: .top :: .top :: .top :: .top :: .top :: .top :: .top :: .top :: .top :: .top :: .top :: .top :: []))
        (fun q => H ++ [.vec 3 l.length (ltrAV l), .cells [.str f, .int .i64 n, .sl 0 [] .full], .vec 1 (B.take q.2).flatten.length (bytesAV (B.take q.2).flatten)])
        (fun q => q.1 = i + 1 + q.2 ∧ q.2 ≤ B.length) (fun q => B.length - q.2) (i + 1, 0) ⟨rfl, Nat.zero_le _⟩ ?_
      rintro ⟨p, j⟩ ⟨hpj, hj⟩
      simp only at hpj hj ⊢
      by_cases hjl : j < B.length
      · obtain ⟨q1, q2, q3⟩ := hbat j hjl
        rw [← hpj] at q2 q3
        have hat2 := rowsAV_at (show p < (lns b).length by omega)
        obtain ⟨hy1, hy2⟩ := lns_at_len (b := b) (show p < (lns b).length by omega)
        have hsucc : (B.take (j + 1)).flatten = (B.take j).flatten ++ B.getD j [] := by
          rw [List.take_succ_eq_append_getElem hjl, List.flatten_append]
          simp [List.getD_eq_getElem?_getD, hjl]
        rw [← q2] at hsucc
        have hsl := congrArg List.length hsucc
        have hsb := congrArg bytesAV hsucc
        rw [bytesAV_append] at hsb
        rw [List.length_append] at hsl
        have hs1 := hsumF j
        clear hsucc q2
        generalize (lns b).getD p [] = y at *
        have hnf : ¬ (Bg y ∧ (y.getD 0 0).toNat = 70) := fun h => by rw [(isFrom_iff y hy2).2 h] at q3; cases q3
        by_cases hBg : Bg y
        · have h70 : ¬ ((y.getD 0 0).toNat : Int) = 70 := fun h => hnf ⟨hBg, by omega⟩
          have hd0 : (List.take 1 (bytesAV y)).headD .top = .int .u8 ((y.getD 0 0).toNat) := by have := bytesAV_hd (s := y) (i := 0) hy2; simpa using this
          have hh := And.intro hrl (And.intro hat2 (And.intro (tf_true hBg) (And.intro h70 hd0)))
          repeat' (first | refine go ?_ | (refine br (fun hc => ?_) (fun hc => ?_) <;> try (exfalso; omega)) | fail)
          rw [← hsl, ← hsb]
          exact again (p + 1, j + 1) ⟨by simp only; omega, by simp only; omega⟩ (by simp only; omega)
        · have hh := And.intro hrl (And.intro hat2 (tf_false hBg))
          repeat' (first | refine go ?_ | (refine br (fun hc => ?_) (fun hc => ?_) <;> try (exfalso; omega)) | fail)
          rw [← hsl, ← hsb]
          exact again (p + 1, j + 1) ⟨by simp only; omega, by simp only; omega⟩ (by simp only; omega)
      · obtain rfl : j = B.length := by omega
        rw [List.take_length]
        have hs1 := hsumF B.length
        rw [List.take_length] at hs1
        rw [← hpj] at hbend
        by_cases hlast : p < (lns b).length
        case' pos =>
          have hat2 := rowsAV_at hlast
          obtain ⟨hy1, hy2⟩ := lns_at_len (b := b) hlast
          have hf2 := hbend (by omega)
          generalize (lns b).getD p [] = y at *
          obtain ⟨hBg, h70⟩ := (isFrom_iff y hy2).1 hf2
          have hd0 : (List.take 1 (bytesAV y)).headD .top = .int .u8 ((y.getD 0 0).toNat) := by have := bytesAV_hd (s := y) (i := 0) hy2; simpa using this
          have hh := And.intro hrl (And.intro hat2 (And.intro (tf_true hBg) (And.intro h70 hd0)))
          refine gos ?_
          refine wseq_normal ?_
          refine gos ?_
          refine wseq_normal ?_
          refine gos ?_
          refine wseq_normal ?_
          refine gos ?_
          refine wseq_normal ?_
          refine gos ?_
        case' neg =>
          refine gos ?_
          refine wseq_normal ?_
          refine gos ?_
        all_goals
          refine wseq_shift (Shift.know 9 (sz := 1) rfl (by rw [getE]; rfl)) ?_
          simp only [List.set_cons_succ, List.set_cons_zero, getE, setE]
          have hh := hrl
          have hFN : ∀ q : Prop, q → q := fun q h => h
          by_cases c1 : B.flatten.length = 0
          · have hN : rreadR b = none := by
              unfold rreadR; rw [heq, if_neg (fun h => h.1 c1)]; rfl
            rw [hN]
            repeat' (first | refine go ?_ | (refine br (fun hc => ?_) (fun hc => ?_) <;> try (exfalso; omega)) | fail)
            all_goals exact .junkd ⟨rfl, rfl⟩
          · by_cases c2 : (B.flatten.getD (B.flatten.length - 1) 0).toNat = 10
            · rw [if_pos ⟨c1, c2⟩, List.drop_drop] at heq
              have hul : (B.flatten.take (B.flatten.length - 1)).length = B.flatten.length - 1 := by rw [List.length_take]; omega
              have hbk : List.take (B.flatten.length - 1) (bytesAV B.flatten) = bytesAV (B.flatten.take (B.flatten.length - 1)) := by simp [bytesAV]
              have htk : List.take (B.flatten.length - 1) (bytesAV (B.flatten.take (B.flatten.length - 1))) = bytesAV (B.flatten.take (B.flatten.length - 1)) := List.take_of_length_le (by rw [bytesAV_len]; omega)
              have hN1 : ((B.flatten.length : Int) - 1).toNat = B.flatten.length - 1 := by omega
              generalize B.flatten = F at *
              have hu : ∀ H, Ctr (env n0 w0 gl) 69 [.sl (F.length - 1) (bytesAV (F.take (F.length - 1))) .ro] H True (.sl (unquoteS (F.take (F.length - 1))).length (bytesAV (unquoteS (F.take (F.length - 1)))) .ro) H := fun H => ⟨fun _ => by
                have := (unquote09_t (n0 := n0) (w0 := w0) (gl := gl) (H := H) (F.take (F.length - 1))).call (by omega)
                rw [hul] at this; exact this⟩
              have hh := And.intro hh (And.intro c2 (And.intro hul (And.intro hbk (And.intro htk (And.intro hN1 (And.intro (Nat.sub_zero (F.length - 1)) hfl))))))
              repeat' (first | refine go ?_ | (refine br (fun hc => ?_) (fun hc => ?_) <;> try (exfalso; omega)) | fail)
              rw [ltrAV_snoc, show l.length + 1 = (l ++ [⟨f, n, unquoteS (F.take (F.length - 1))⟩] : List Ltr).length by simp]
              refine againJ (l ++ [⟨f, n, unquoteS (F.take (F.length - 1))⟩], p, k) ⟨by simp only; omega, by simp only; omega, by simp only [List.length_append, List.length_cons, List.length_nil]; omega, by rw [heq, show i + 1 + B.length = p by omega]; simp [Option.map_map, Function.comp_def]⟩ (by simp only; omega) [.cells [.str f, .int .i64 n, .sl (unquoteS (F.take (F.length - 1))).length (bytesAV (unquoteS (F.take (F.length - 1)))) .ro], .dead] ?_
              simp
            · have hN : rreadR b = none := by
                unfold rreadR; rw [heq, if_neg (fun h => c2 h.2)]; rfl
              rw [hN]
              have c2i : ¬ ((B.flatten.getD (B.flatten.length - 1) 0).toNat : Int) = 10 := by omega
              have hN1 : ((B.flatten.length : Int) - 1).toNat = B.flatten.length - 1 := by omega
              have hh := And.intro hh (And.intro c2i hN1)
              repeat' (first | refine go ?_ | (refine br (fun hc => ?_) (fun hc => ?_) <;> try (exfalso; omega)) | fail)
              all_goals exact .junkd ⟨rfl, rfl⟩
  · obtain rfl : i = (lns b).length := by omega
    have hm : linesR (lns b).length (lns b) = some l := by
      rw [heq, List.drop_length]
      cases k <;> simp [linesR]
    have hall := linesR_all _ _ _ hm (M := b.length) (by rw [lns_join]; exact Nat.le_refl _)
    have hsm : ∀ x ∈ l, x.Small := fun x hx => by
      have := hall x hx
      exact ⟨by omega, by omega, this.2.2⟩
    have hE : ∀ H, Ctr (env n0 w0 gl) 70 [.sl l.length (ltrAV l) .ro] H True (exportV l) H := fun H => ⟨fun _ => (export09_t (n0 := n0) (w0 := w0) (gl := gl) (H := H) l).call ⟨by omega, hsm⟩⟩
    unfold exportV at hE
    refine gos ?_
    refine wseq_normal ?_
    refine gos ?_
    refine wseq_shift (Shift.know 4 (sz := 3) rfl (by rw [getE0]; rfl)) ?_
    simp only [List.set_cons_succ, List.set_cons_zero, setE0]
    by_cases hok : ∀ x ∈ l, x.Ok
    · rw [tf_true hok] at hE
      simp only [if_true] at hE
      by_cases hbq : showM l = b
      · have hM : rreadR b = some l := by unfold rreadR; rw [hm]; simp only; rw [if_pos ⟨hok, hbq⟩]
        rw [hM]
        rw [hbq] at hE
        repeat' (first | refine go ?_ | (refine br (fun hc => ?_) (fun hc => ?_) <;> try (exfalso; omega)) | fail)
        all_goals exact .junkd ⟨rfl, rfl⟩
      · have hN : rreadR b = none := by unfold rreadR; rw [hm]; simp only; rw [if_neg (fun h => hbq h.2)]
        rw [hN]
        have hh := hbq
        repeat' (first | refine go ?_ | (refine br (fun hc => ?_) (fun hc => ?_) <;> try (exfalso; omega)) | fail)
        all_goals exact .junkd ⟨rfl, rfl⟩
    · have hN : rreadR b = none := by unfold rreadR; rw [hm]; simp only; rw [if_neg (fun h => hok h.1)]
      rw [hN]
      rw [tf_false hok] at hE
      simp only [Bool.false_eq_true, if_false] at hE
      repeat' (first | refine go ?_ | (refine br (fun hc => ?_) (fun hc => ?_) <;> try (exfalso; omega)) | fail)
      all_goals exact .junkd ⟨rfl, rfl⟩

theorem rreadR_show {l : List Ltr} (h : ∀ x ∈ l, x.Ok ∧ x.at_ ≤ 9223372036854775807) : rreadR (showM l) = some l := by
  unfold rreadR
  rw [linesR_show l _ h (Nat.le_refl _)]
  simp only
  rw [if_pos ⟨fun x hx => (h x hx).1, rfl⟩]
theorem rreadR_of {b : List UInt8} {l : List Ltr} (h : rreadR b = some l) : (∀ x ∈ l, x.Ok ∧ x.at_ ≤ 9223372036854775807) ∧ showM l = b := by
  unfold rreadR at h
  split at h
  · simp at h
  · rename_i l' hp
    split at h
    · rename_i hk
      injection h with h
      subst h
      have := linesR_all _ _ _ hp (M := b.length) (by rw [lns_join]; exact Nat.le_refl _)
      exact ⟨fun x hx => ⟨hk.1 x hx, (this x hx).2.2⟩, hk.2⟩
    · simp at h
/-- Both read the same. -/
theorem read_same (b : List UInt8) : rreadR b = mreadR b := by
  cases h : mreadR b with
  | some l =>
    obtain ⟨h1, h2⟩ := mreadR_of h
    rw [← h2]
    exact rreadR_show fun x hx => ⟨(h1 x hx).1, (h1 x hx).2.1⟩
  | none =>
    cases k : rreadR b with
    | none => rfl
    | some l =>
      obtain ⟨k1, k2⟩ := rreadR_of k
      rw [← k2, mreadR_show k1] at h
      cases h
theorem rparse_t [ht : Tab10 n0 w0] (b : List UInt8) (hb : b.length ≤ 100000) : AEnter (env n0 w0 gl) 21 [.sl b.length (bytesAV b) .ro] H (fun y H' => y = .ret (mreadV b) ∧ H' = H) := by
  have := rparse_e (n0 := n0) (w0 := w0) (gl := gl) (H := H) b hb
  rw [read_same] at this
  exact this

end Go.Ab.Tryd
