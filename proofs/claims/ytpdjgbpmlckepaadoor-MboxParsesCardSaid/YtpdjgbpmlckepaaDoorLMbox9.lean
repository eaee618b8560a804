/- Walks: a mailbox file, read. -/
import Derived.Test.YtpdjgbpmlckepaaDoorLMbox8
set_option linter.unusedSimpArgs false
set_option linter.unusedVariables false
set_option maxHeartbeats 4000000
set_option maxRecDepth 4000
namespace Go.Ab.Tryd
open Go Go.Ab Go.Proofs
attribute [local irreducible] W Wl Wop TrA WSeq WLoopS FPost DPost RPost WRound DK onEnd
attribute [local simp] belowL_bytesAV belowL_ltrAV
variable {n0 : Nat} {w0 : World} {gl : Nat → List AV} {H : List AO}

open Classical in
/-- The letters that some bytes are. -/
noncomputable def mreadR (b : List UInt8) : Option (List Ltr) := match mparseR b.length b with
  | none => none
  | some l => if (∀ x ∈ l, x.Ok) ∧ showM l = b then some l else none
theorem ltrAV_snoc (l : List Ltr) (f : List UInt8) (n : Int) (b : List UInt8) : ltrAV l ++ [.str f, .int .i64 n, .sl b.length (bytesAV b) .ro] = ltrAV (l ++ [⟨f, n, b⟩]) := by simp [ltrAV, Ltr.cells]
structure PInv (b : List UInt8) (l : List Ltr) (s : List UInt8) (k : Nat) : Prop where
  le : s.length ≤ k
  sum : l.length + s.length ≤ b.length
  eq : mparseR b.length b = (mparseR k s).map (l ++ ·)

theorem mparse1_t [ht : Tab10 n0 w0] [he : Errs n0 w0] (b : List UInt8) (hb : b.length ≤ 100000) : AEnter (env n0 w0 gl) 62 [.ref H.length 0, .ref (H.length + 1) 0] (H ++ [.cells [.sl b.length (bytesAV b) .ro], .cells [.sl 0 [] .full], .cells [.int .i64 0]])
    (fun y H' => (∃ l, mreadR b = some l ∧ y = .ret (.tup []) ∧ H' = H ++ [.cells [.sl b.length (bytesAV b) .ro], .cells [.sl l.length (ltrAV l) .ro], .cells [.int .i64 0]]) ∨
      (mreadR b = none ∧ y = .panic thrownM ∧ ∃ x z, H' = H ++ .cells [.sl b.length (bytesAV b) .ro] :: .cells [x] :: .cells [.int .i64 0] :: z)) := by
  refine enter (md := fun _ => 0) Tryd.func62 (fun hfit hgl => ?_)
  have hgl2 : ∀ i, belowL (H.length + 3) ((env n0 w0 gl).gl i) = true := by simpa using hgl
  have hfit2 : Fit (H.length + 3) H := fun o ho => by have := hfit o (List.mem_append_left _ ho); simpa using this
  refine gos ?_
  refine wseq_shift (Shift.cellVec 3 (H.length + 1) 0 (xs := [.sl 0 [] .full]) (by simp [getE]) (by simp) rfl rfl) ?_
  simp only [List.append_assoc, List.cons_append, List.nil_append, setE, List.set_cons_succ, List.set_cons_zero, List.length_append, List.length_cons, List.length_nil, Nat.zero_add, Nat.reduceAdd]
  repeat' (first | refine go ?_ | (refine br (fun hc => ?_) (fun hc => ?_) <;> try (exfalso; omega)) | fail)
  refine loop (fun i : List Ltr × List UInt8 × Nat => (.ref H.length 0 :: .ref (H.length + 1) 0 :: .ref (H.length + 3) 0 :: .fn 63 [.ref (H.length + 3) 0] [] :: .fn 64 [.ref (H.length + 3) 0] [] :: .top :: .top :: .top :: .top :: .top :: .top :: .top :: .top :: .top :: .top :: .top :: .top :: .top :: .top :: .top :: .top :: .top :: .top :: .top :: .top :: .top :: .top :: .top :: .top :: .top :: .top :: .top :: .top :: .top :: .top :: .top :: .top :: .top :: .top :: .top :: .top :: .top :: .top :: []))
    (fun i => H ++ [.cells [.sl b.length (bytesAV b) .ro], .cells [.vsl (H.length + 4) i.1.length], .cells [.int .i64 0], .cells [.sl i.2.1.length (bytesAV i.2.1) .ro], .vec 3 i.1.length (ltrAV i.1)])
    (fun i => PInv b i.1 i.2.1 i.2.2) (fun i => i.2.1.length) ([], b, b.length) ⟨Nat.le_refl _, by simp, by simp⟩ ?_
  rintro ⟨l, s, k⟩ ⟨hk, hsum, heq⟩
  simp only at hk hsum heq ⊢
  have hfl := ltrAV_len l
  by_cases h0 : 0 < s.length
  · obtain ⟨k, rfl⟩ : ∃ j, k = j + 1 := ⟨k - 1, by omega⟩
    have hstep : mparseR (k + 1) s = match mheadR s with
      | none => none
      | some (f, n, y) => match mbodyR y with
        | none => none
        | some (b, z) => (mparseR k z).map (Ltr.mk f n b :: ·) := by
      conv => lhs; unfold mparseR
      rw [if_neg (fun e => by rw [e] at h0; simp at h0)]
      rfl
    rw [hstep] at heq
    rcases hh1 : mheadR s with _ | ⟨f, n, y⟩
    · rw [hh1] at heq
      have hN : mreadR b = none := by unfold mreadR; rw [heq]; rfl
      have hp : CtrP (env n0 w0 gl) 63 [.ref (H.length + 3) 0] (H ++ [.cells [.sl b.length (bytesAV b) .ro], .cells [.vsl (H.length + 4) l.length], .cells [.int .i64 0], .cells [.sl s.length (bytesAV s) .ro], .vec 3 l.length (ltrAV l)]) True thrownM (H ++ [.cells [.sl b.length (bytesAV b) .ro], .cells [.vsl (H.length + 4) l.length], .cells [.int .i64 0], .cells [.sl (restL s).length (bytesAV (restL s)) .ro], .vec 3 l.length (ltrAV l)]) := .of fun _ => by
        have := mhead_t (n0 := n0) (w0 := w0) (gl := gl) (a := H.length + 3) (s := s) (H := H ++ [.cells [.sl b.length (bytesAV b) .ro], .cells [.vsl (H.length + 4) l.length], .cells [.int .i64 0], .cells [.sl s.length (bytesAV s) .ro], .vec 3 l.length (ltrAV l)]) (by omega) (by simp)
        unfold mheadE at this
        rw [hh1] at this
        simpa using this
      repeat' (first | refine go ?_ | (refine br (fun hc => ?_) (fun hc => ?_) <;> try (exfalso; omega)) | fail)
      all_goals exact .now (.inr ⟨hN, rfl, _, _, rfl⟩)
    · obtain rfl := mheadR_restL hh1
      obtain ⟨r1, r2, r3, r4⟩ := mheadR_rest hh1
      rw [hh1] at heq
      simp only at heq
      have hp : Ctr (env n0 w0 gl) 63 [.ref (H.length + 3) 0] (H ++ [.cells [.sl b.length (bytesAV b) .ro], .cells [.vsl (H.length + 4) l.length], .cells [.int .i64 0], .cells [.sl s.length (bytesAV s) .ro], .vec 3 l.length (ltrAV l)]) True (.agg [.str f, .int .i64 n, .sl 0 [] .full]) (H ++ [.cells [.sl b.length (bytesAV b) .ro], .cells [.vsl (H.length + 4) l.length], .cells [.int .i64 0], .cells [.sl (restL s).length (bytesAV (restL s)) .ro], .vec 3 l.length (ltrAV l)]) := .of fun _ => by
        have := mhead_t (n0 := n0) (w0 := w0) (gl := gl) (a := H.length + 3) (s := s) (H := H ++ [.cells [.sl b.length (bytesAV b) .ro], .cells [.vsl (H.length + 4) l.length], .cells [.int .i64 0], .cells [.sl s.length (bytesAV s) .ro], .vec 3 l.length (ltrAV l)]) (by omega) (by simp)
        unfold mheadE at this
        rw [hh1] at this
        simpa using this
      have hbt : AEnter (env n0 w0 gl) 64 [.ref (H.length + 3) 0] (H ++ [.cells [.sl b.length (bytesAV b) .ro], .cells [.vsl (H.length + 4) l.length], .cells [.int .i64 0], .cells [.sl (restL s).length (bytesAV (restL s)) .ro], .vec 3 l.length (ltrAV l), .cells [.str f, .int .i64 n, .sl 0 [] .full]]) (fun y H' => y = mbodyE (restL s) ∧ H' = H ++ [.cells [.sl b.length (bytesAV b) .ro], .cells [.vsl (H.length + 4) l.length], .cells [.int .i64 0], .cells [.sl (bodyRest (restL s)).length (bytesAV (bodyRest (restL s))) .ro], .vec 3 l.length (ltrAV l), .cells [.str f, .int .i64 n, .sl 0 [] .full]]) := by
        have := mbody_t (n0 := n0) (w0 := w0) (gl := gl) (a := H.length + 3) (s := restL s) (H := H ++ [.cells [.sl b.length (bytesAV b) .ro], .cells [.vsl (H.length + 4) l.length], .cells [.int .i64 0], .cells [.sl (restL s).length (bytesAV (restL s)) .ro], .vec 3 l.length (ltrAV l), .cells [.str f, .int .i64 n, .sl 0 [] .full]]) (by omega) (by simp)
        simpa using this
      unfold mbodyE at hbt
      rcases hh2 : mbodyR (restL s) with _ | ⟨bd, z⟩
      · rw [hh2] at heq hbt
        have hN : mreadR b = none := by unfold mreadR; rw [heq]; rfl
        have hp2 : CtrP (env n0 w0 gl) 64 [.ref (H.length + 3) 0] (H ++ [.cells [.sl b.length (bytesAV b) .ro], .cells [.vsl (H.length + 4) l.length], .cells [.int .i64 0], .cells [.sl (restL s).length (bytesAV (restL s)) .ro], .vec 3 l.length (ltrAV l), .cells [.str f, .int .i64 n, .sl 0 [] .full]]) True thrownM _ := .of fun _ => hbt
        repeat' (first | refine go ?_ | (refine br (fun hc => ?_) (fun hc => ?_) <;> try (exfalso; omega)) | fail)
        all_goals exact .now (.inr ⟨hN, rfl, _, _, rfl⟩)
      · obtain rfl := mbodyR_rest hh2
        rw [hh2] at heq hbt
        simp only at heq hbt
        have hrl := bodyRest_len (restL s)
        have hp2 : Ctr (env n0 w0 gl) 64 [.ref (H.length + 3) 0] (H ++ [.cells [.sl b.length (bytesAV b) .ro], .cells [.vsl (H.length + 4) l.length], .cells [.int .i64 0], .cells [.sl (restL s).length (bytesAV (restL s)) .ro], .vec 3 l.length (ltrAV l), .cells [.str f, .int .i64 n, .sl 0 [] .full]]) True (.sl bd.length (bytesAV bd) .ro) _ := .of fun _ => hbt
        have hh := hfl
        repeat' (first | refine go ?_ | (refine br (fun hc => ?_) (fun hc => ?_) <;> try (exfalso; omega)) | fail)
        rw [ltrAV_snoc]
        refine againJ (l ++ [⟨f, n, bd⟩], bodyRest (restL s), k) ⟨by simp only; omega, by simp; omega, by rw [heq]; simp [Option.map_map, Function.comp_def]⟩ (by simp only; omega) [.cells [.str f, .int .i64 n, .sl bd.length (bytesAV bd) .ro]] ?_
        simp
  · have hs0 : s = [] := List.length_eq_zero_iff.1 (by omega)
    have hm : mparseR b.length b = some l := by
      rw [heq, hs0]
      cases k <;> simp [mparseR]
    have hall := mparseR_all _ _ _ hm
    have hcount := mparseR_count _ _ _ hm
    have hsm : ∀ x ∈ l, x.Small := fun x hx => by
      have := hall x hx
      exact ⟨by omega, by omega, this.2.2⟩
    have hE : ∀ H, Ctr (env n0 w0 gl) 26 [.sl l.length (ltrAV l) .ro] H True (exportV l) H := fun H => ⟨fun _ => (export_t (n0 := n0) (w0 := w0) (gl := gl) (H := H) l).call ⟨by omega, hsm⟩⟩
    unfold exportV at hE
    have hq : ∀ H tok, Ctr (env n0 w0 gl) 41 [.sl (showM l).length (bytesAV (showM l)) tok, .sl b.length (bytesAV b) .ro] H True (.bool (decide (showM l = b))) H := fun H tok => ⟨fun _ => (bequal_t (n0 := n0) (w0 := w0) (gl := gl) (H := H) (showM l) b _ _ tok .ro).call ⟨rfl, rfl⟩⟩
    refine gos ?_
    refine wseq_normal ?_
    refine gos ?_
    refine wseq_shift (Shift.cellKnow (H.length + 1) 0 (H.length + 4) (xs := [.vsl (H.length + 4) l.length]) (sz := 3) (n := l.length) (ys := ltrAV l) (by simp [getE]) rfl (by simp) (by simp [getE]) rfl) ?_
    simp only [getE, setE, List.set_cons_succ, List.set_cons_zero]
    by_cases hok : ∀ x ∈ l, x.Ok
    · rw [tf_true hok] at hE
      simp only [if_true] at hE
      by_cases hbq : showM l = b
      · have hM : mreadR b = some l := by unfold mreadR; rw [hm]; simp only; rw [if_pos ⟨hok, hbq⟩]
        rw [decide_eq_true hbq] at hq
        repeat' (first | refine go ?_ | (refine br (fun hc => ?_) (fun hc => ?_) <;> try (exfalso; omega)) | fail)
        rw [show ∀ a b c d e : AO, H ++ [a, b, c, d, e] = (H ++ [a, b, c]) ++ [d, e] from fun _ _ _ _ _ => by simp]
        exact .junkd (.inl ⟨l, hM, rfl, rfl⟩)
      · have hN : mreadR b = none := by unfold mreadR; rw [hm]; simp only; rw [if_neg (fun h => hbq h.2)]
        rw [decide_eq_false hbq] at hq
        repeat' (first | refine go ?_ | (refine br (fun hc => ?_) (fun hc => ?_) <;> try (exfalso; omega)) | fail)
        exact .now (.inr ⟨hN, rfl, _, _, rfl⟩)
    · have hN : mreadR b = none := by unfold mreadR; rw [hm]; simp only; rw [if_neg (fun h => hok h.1)]
      rw [tf_false hok] at hE
      simp only [Bool.false_eq_true, if_false] at hE
      repeat' (first | refine go ?_ | (refine br (fun hc => ?_) (fun hc => ?_) <;> try (exfalso; omega)) | fail)
      exact .now (.inr ⟨hN, rfl, _, _, rfl⟩)

noncomputable def mreadV (b : List UInt8) : AV := match mreadR b with
  | some l => .tup [.sl l.length (ltrAV l) .ro, .int .i64 0]
  | none => .tup [.sl 0 [] .full, .int .i64 100]
theorem mparse_t [ht : Tab10 n0 w0] [he : Errs n0 w0] (b : List UInt8) (hb : b.length ≤ 100000) : AEnter (env n0 w0 gl) 20 [.sl b.length (bytesAV b) .ro] H (fun y H' => y = .ret (mreadV b) ∧ H' = H) := by
  have hp := mparse1_t (n0 := n0) (w0 := w0) (gl := gl) (H := H) b hb
  unfold mreadV
  refine enter (md := fun _ => 0) Tryd.func20 (fun hfit hgl => ?_)
  repeat' (first | refine go ?_ | (refine br (fun hc => ?_) (fun hc => ?_) <;> try (exfalso; omega)) | fail)
  ((with_reducible apply wop_call); (· rfl); (· rfl); (· (simp only [AAct.ev, List.getD_cons_zero, List.getD_cons_succ, constAV, env_gl]; try exact rfl)); (· (simp only [evCallArgs, List.map_cons, List.map_nil, List.nil_append, List.append_nil, List.cons_append, Array.toList, List.toList_toArray, AAct.ev, List.getD_cons_zero, List.getD_cons_succ, constAV, env_gl]; try exact rfl)))
  rcases hM : mreadR b with _ | l
  · refine (mcaught_t (R := fun x H' => x = .ret (.int .i64 100) ∧ ∃ x z, H' = H ++ .cells [.sl b.length (bytesAV b) .ro] :: .cells [x] :: .cells [.int .i64 100] :: z) _ [] _ fun hf2 => ?_).call.mono ?_
    · simp only [List.append_assoc, List.cons_append, List.nil_append]
      refine hp.call.mono ?_
      rintro x H' (⟨l, h, _⟩ | ⟨_, rfl, y, z, rfl⟩)
      · rw [hM] at h; cases h
      · exact ⟨by simp, .inr ⟨rfl, .now ⟨rfl, y, z, by simp⟩⟩⟩
    · rintro x H' ⟨rfl, y, z, rfl⟩
      repeat' (first | refine go ?_ | (refine br (fun hc => ?_) (fun hc => ?_) <;> try (exfalso; omega)) | fail)
      exact .junkd ⟨rfl, rfl⟩
  · refine (mcaught_t (R := fun x H' => x = .ret (.int .i64 0) ∧ H' = H ++ [.cells [.sl b.length (bytesAV b) .ro], .cells [.sl l.length (ltrAV l) .ro], .cells [.int .i64 0]]) _ [] _ fun hf2 => ?_).call.mono ?_
    · simp only [List.append_assoc, List.cons_append, List.nil_append]
      refine hp.call.mono ?_
      rintro x H' (⟨l', h, rfl, rfl⟩ | ⟨h, _⟩)
      · rw [hM] at h
        injection h with h
        subst h
        exact ⟨by simp, .inl ⟨rfl, .now ⟨rfl, by simp⟩⟩⟩
      · rw [hM] at h; cases h
    · rintro x H' ⟨rfl, rfl⟩
      repeat' (first | refine go ?_ | (refine br (fun hc => ?_) (fun hc => ?_) <;> try (exfalso; omega)) | fail)
      exact .junkd ⟨rfl, rfl⟩
/-- What is exported is read again; nothing else is read. -/
theorem mreadR_show {l : List Ltr} (h : ∀ x ∈ l, x.Ok ∧ x.at_ ≤ 9223372036854775807) : mreadR (showM l) = some l := by
  unfold mreadR
  rw [mparseR_show l _ h (Nat.le_refl _)]
  simp only
  rw [if_pos ⟨fun x hx => (h x hx).1, rfl⟩]
theorem mreadR_of {b : List UInt8} {l : List Ltr} (h : mreadR b = some l) : (∀ x ∈ l, x.Ok ∧ x.at_ ≤ 9223372036854775807 ∧ x.fro.length ≤ b.length ∧ x.body.length ≤ b.length) ∧ showM l = b := by
  unfold mreadR at h
  split at h
  · simp at h
  · rename_i l' hp
    split at h
    · rename_i hk
      injection h with h
      subst h
      have := mparseR_all _ _ _ hp
      exact ⟨fun x hx => ⟨hk.1 x hx, (this x hx).2.2, (this x hx).1, (this x hx).2.1⟩, hk.2⟩
    · simp at h

end Go.Ab.Tryd
