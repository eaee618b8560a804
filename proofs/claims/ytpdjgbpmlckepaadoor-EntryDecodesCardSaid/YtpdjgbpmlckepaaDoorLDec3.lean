/- Walks: any bytes read as a message: the body. Printed by mkDec3.py. -/
import Derived.Test.YtpdjgbpmlckepaaDoorLDec2
set_option linter.unusedSimpArgs false
set_option linter.unusedVariables false
set_option maxHeartbeats 8000000
set_option maxRecDepth 4000
namespace Go.Ab.Tryd
open Go Go.Ab Go.Proofs
attribute [local irreducible] W Wl Wop TrA WSeq WLoopS FPost DPost RPost WRound DK onEnd
attribute [local simp] belowL_bytesAV belowL_strsM belowL_appM
variable {n0 : Nat} {w0 : World} {gl : Nat → List AV} {H : List AO}

noncomputable def toL (b : List UInt8) (i : Nat) : List (List UInt8) := (List.range i).map fun j => cutA (cutN (5 + j) b)
theorem toL_len (b : List UInt8) (i : Nat) : (toL b i).length = i := by simp [toL]
theorem toL_succ (b : List UInt8) (i : Nat) : toL b (i + 1) = toL b i ++ [cutA (cutN (5 + i) b)] := by simp [toL, List.range_succ]
theorem toL_at {b : List UInt8} {i j : Nat} (h : j < i) : (toL b i).getD j [] = cutA (cutN (5 + j) b) := by simp [toL, List.getD_eq_getElem?_getD, h]

theorem dec1_t [ht : Tab10 n0 w0] [he : Errs n0 w0] (b : List UInt8) (hb : b.length ≤ 10000) :
    AEnter (env n0 w0 gl) 34 [.ref H.length 0, .ref (H.length + 1) 0] (H ++ [.cells [.sl b.length (bytesAV b) .ro], .cells [.int .i64 0, .str [], .str [], .sl 0 [] .full, .int .i64 0, .sl 0 [] .full], .cells [.int .i64 0]])
      (fun y H' => (∃ m, decM b = some m ∧ y = .ret (.tup []) ∧ H' = H ++ [.cells [.sl b.length (bytesAV b) .ro], .cells m.av, .cells [.int .i64 0]]) ∨
        (decM b = none ∧ y = .panic thrown ∧ ∃ x1 x2 x3 x4 x5 x6 z, H' = H ++ .cells [.sl b.length (bytesAV b) .ro] :: .cells [x1, x2, x3, x4, x5, x6] :: .cells [.int .i64 0] :: z)) := by
  have hlen := fun k => cutN_len k b
  have hl0 : b.length ≤ 10000 := hb
  have hl1 : (cutN 1 b).length ≤ 10000 := Nat.le_trans (hlen 1) hb
  have hl2 : (cutN 2 b).length ≤ 10000 := Nat.le_trans (hlen 2) hb
  have hl3 : (cutN 3 b).length ≤ 10000 := Nat.le_trans (hlen 3) hb
  have hl4 : (cutN 4 b).length ≤ 10000 := Nat.le_trans (hlen 4) hb
  have hl5 : (cutN 5 b).length ≤ 10000 := Nat.le_trans (hlen 5) hb
  by_cases c0 : CutOk b
  rotate_left 1
  · have hno : decM b = none := decM_fail fun m h => c0 h.c0
    have hx : CtrP (env n0 w0 gl) 38 [.ref (H.length + 4) 0] (H ++ [.cells [.sl b.length (bytesAV b) .ro], .cells [.int .i64 0, .str [], .str [], .sl 0 [] .full, .int .i64 0, .sl 0 [] .full], .cells [.int .i64 0], .cells [.sl (b).length (bytesAV (b)) .ro], .cells [.fn 35 [] [.ref (H.length + 3) 0]]]) True thrown (H ++ [.cells [.sl b.length (bytesAV b) .ro], .cells [.int .i64 0, .str [], .str [], .sl 0 [] .full, .int .i64 0, .sl 0 [] .full], .cells [.int .i64 0], .cells [.sl (b).length (bytesAV (b)) .ro], .cells [.fn 35 [] [.ref (H.length + 3) 0]]]) := .of fun _ =>
      dnum_cut (n0 := n0) (w0 := w0) (gl := gl) (c := H.length + 3) (d := H.length + 4) (s := b) (H := H ++ [.cells [.sl b.length (bytesAV b) .ro], .cells [.int .i64 0, .str [], .str [], .sl 0 [] .full, .int .i64 0, .sl 0 [] .full], .cells [.int .i64 0], .cells [.sl (b).length (bytesAV (b)) .ro], .cells [.fn 35 [] [.ref (H.length + 3) 0]]]) (by omega) (by simp) (by simp) c0
    refine enter (md := fun _ => 0) Tryd.func34 (fun hfit hgl => ?_)
    simp only [List.length_append, List.length_cons, List.length_nil, Nat.zero_add, Nat.reduceAdd]
    refine gos ?_
    refine wseq_normal ?_
    refine gos ?_
    refine wseq_normal ?_
    refine gos ?_
    refine wseq_normal ?_
    refine w_seq ?_
    refine w_drawnV [.pure, .panics 0, .pure, .never, .pure, .never, .pure, .never, .never, .never, .never, .never, .never, .never, .never, .never, .never, .never] [.fn 38 [] [.ref (H.length + 4) 0], .top, .fn 35 [] [.ref (H.length + 3) 0], .top, .fn 35 [] [.ref (H.length + 3) 0], .top, .fn 38 [] [.ref (H.length + 4) 0]] [H ++ [.cells [.sl b.length (bytesAV b) .ro], .cells [.int .i64 0, .str [], .str [], .sl 0 [] .full, .int .i64 0, .sl 0 [] .full], .cells [.int .i64 0], .cells [.sl (b).length (bytesAV (b)) .ro], .cells [.fn 35 [] [.ref (H.length + 3) 0]]]] 0 (by intro _ h; cases h) (by simp only [List.length_cons, List.length_nil, Nat.reduceAdd]; exact rfl) (by decide +kernel) rfl (allV_of ⟨?_, ?_, ?_, ?_, ?_, ?_, ?_, ?_, ?_, ?_, ?_, ?_, ?_, ?_, ?_, ?_, ?_, ?_, trivial⟩)
    all_goals try exact trivial
    · exact fun k _ => Ent.agree1 (t0 := 4) (ts := [.top, .top, .top, .top, .fn 38 [] [.ref (H.length + 4) 0]]) (.pure eGT rfl eV) (by kernel_rfl) (by kernel_rfl)
    · refine ⟨Nat.le_refl _, thrown, H ++ [.cells [.sl b.length (bytesAV b) .ro], .cells [.int .i64 0, .str [], .str [], .sl 0 [] .full, .int .i64 0, .sl 0 [] .full], .cells [.int .i64 0], .cells [.sl (b).length (bytesAV (b)) .ro], .cells [.fn 35 [] [.ref (H.length + 3) 0]]], EntP.agree1 (t0 := 11) (ts := [.top, .top, .top, .top, .top, .top, .top, .top, .top, .top, .top, .fn 38 [] [.ref (H.length + 4) 0]]) (show EntP _ _ _ _ _ (H ++ [.cells [.sl b.length (bytesAV b) .ro], .cells [.int .i64 0, .str [], .str [], .sl 0 [] .full, .int .i64 0, .sl 0 [] .full], .cells [.int .i64 0], .cells [.sl (b).length (bytesAV (b)) .ro], .cells [.fn 35 [] [.ref (H.length + 3) 0]]]) thrown (H ++ [.cells [.sl b.length (bytesAV b) .ro], .cells [.int .i64 0, .str [], .str [], .sl 0 [] .full, .int .i64 0, .sl 0 [] .full], .cells [.int .i64 0], .cells [.sl (b).length (bytesAV (b)) .ro], .cells [.fn 35 [] [.ref (H.length + 3) 0]]]) from .call eGT rfl rfl eA (args := [.ref (H.length + 4) 0]) eArgs (hx.call trivial)) (by kernel_rfl) (by kernel_rfl), fun ts => ?_⟩
      repeat' (first | refine go ?_ | (refine br (fun hc => ?_) (fun hc => ?_) <;> try (exfalso; omega)) | fail)
      all_goals exact .now (.inr ⟨hno, rfl, _, _, _, _, _, _, _, rfl⟩)
    · intro k hk
      match k, hk with
      | 0, _ =>
        show Ent _ _ _ _ _ _ (H ++ [.cells [.sl b.length (bytesAV b) .ro], .cells [.int .i64 0, .str [], .str [], .sl 0 [] .full, .int .i64 0, .sl 0 [] .full], .cells [.int .i64 0], .cells [.sl (b).length (bytesAV (b)) .ro], .cells [.fn 35 [] [.ref (H.length + 3) 0]]]) (.fn 35 [] [.ref (H.length + 3) 0]) (H ++ [.cells [.sl b.length (bytesAV b) .ro], .cells [.int .i64 0, .str [], .str [], .sl 0 [] .full, .int .i64 0, .sl 0 [] .full], .cells [.int .i64 0], .cells [.sl (b).length (bytesAV (b)) .ro], .cells [.fn 35 [] [.ref (H.length + 3) 0]]])
        exact Ent.agree1 (t0 := 3) (ts := [.top, .top, .top, .ref (H.length + 4) 0]) (.pure eGT rfl eV) (by kernel_rfl) (by kernel_rfl)
    · intro k hk
      match k, hk with
      | 0, _ =>
        show Ent _ _ _ _ _ _ (H ++ [.cells [.sl b.length (bytesAV b) .ro], .cells [.int .i64 0, .str [], .str [], .sl 0 [] .full, .int .i64 0, .sl 0 [] .full], .cells [.int .i64 0], .cells [.sl (b).length (bytesAV (b)) .ro], .cells [.fn 35 [] [.ref (H.length + 3) 0]]]) (.fn 35 [] [.ref (H.length + 3) 0]) (H ++ [.cells [.sl b.length (bytesAV b) .ro], .cells [.int .i64 0, .str [], .str [], .sl 0 [] .full, .int .i64 0, .sl 0 [] .full], .cells [.int .i64 0], .cells [.sl (b).length (bytesAV (b)) .ro], .cells [.fn 35 [] [.ref (H.length + 3) 0]]])
        exact Ent.agree1 (t0 := 3) (ts := [.top, .top, .top, .ref (H.length + 4) 0]) (.pure eGT rfl eV) (by kernel_rfl) (by kernel_rfl)
    · exact fun k _ => Ent.agree1 (t0 := 4) (ts := [.top, .top, .top, .top, .fn 38 [] [.ref (H.length + 4) 0]]) (.pure eGT rfl eV) (by kernel_rfl) (by kernel_rfl)
  by_cases q0 : ∃ a, Lib.parseIntB 64 (cutA b) = .ok a
  rotate_left 1
  · have hno : decM b = none := decM_fail fun m h => q0 ⟨_, h.i0⟩
    have hx : CtrP (env n0 w0 gl) 38 [.ref (H.length + 4) 0] (H ++ [.cells [.sl b.length (bytesAV b) .ro], .cells [.int .i64 0, .str [], .str [], .sl 0 [] .full, .int .i64 0, .sl 0 [] .full], .cells [.int .i64 0], .cells [.sl (b).length (bytesAV (b)) .ro], .cells [.fn 35 [] [.ref (H.length + 3) 0]]]) True thrown (H ++ [.cells [.sl b.length (bytesAV b) .ro], .cells [.int .i64 0, .str [], .str [], .sl 0 [] .full, .int .i64 0, .sl 0 [] .full], .cells [.int .i64 0], .cells [.sl (cutN 1 b).length (bytesAV (cutN 1 b)) .ro], .cells [.fn 35 [] [.ref (H.length + 3) 0]]]) := .of fun _ => by
      have := dnum_bad (n0 := n0) (w0 := w0) (gl := gl) (c := H.length + 3) (d := H.length + 4) (s := b) (H := H ++ [.cells [.sl b.length (bytesAV b) .ro], .cells [.int .i64 0, .str [], .str [], .sl 0 [] .full, .int .i64 0, .sl 0 [] .full], .cells [.int .i64 0], .cells [.sl (b).length (bytesAV (b)) .ro], .cells [.fn 35 [] [.ref (H.length + 3) 0]]]) (by omega) (by simp) (by simp) c0 q0
      simpa [show cutB (b) = cutN 1 b from rfl] using this
    refine enter (md := fun _ => 0) Tryd.func34 (fun hfit hgl => ?_)
    simp only [List.length_append, List.length_cons, List.length_nil, Nat.zero_add, Nat.reduceAdd]
    refine gos ?_
    refine wseq_normal ?_
    refine gos ?_
    refine wseq_normal ?_
    refine gos ?_
    refine wseq_normal ?_
    refine w_seq ?_
    refine w_drawnV [.pure, .panics 0, .pure, .never, .pure, .never, .pure, .never, .never, .never, .never, .never, .never, .never, .never, .never, .never, .never] [.fn 38 [] [.ref (H.length + 4) 0], .top, .fn 35 [] [.ref (H.length + 3) 0], .top, .fn 35 [] [.ref (H.length + 3) 0], .top, .fn 38 [] [.ref (H.length + 4) 0]] [H ++ [.cells [.sl b.length (bytesAV b) .ro], .cells [.int .i64 0, .str [], .str [], .sl 0 [] .full, .int .i64 0, .sl 0 [] .full], .cells [.int .i64 0], .cells [.sl (b).length (bytesAV (b)) .ro], .cells [.fn 35 [] [.ref (H.length + 3) 0]]]] 0 (by intro _ h; cases h) (by simp only [List.length_cons, List.length_nil, Nat.reduceAdd]; exact rfl) (by decide +kernel) rfl (allV_of ⟨?_, ?_, ?_, ?_, ?_, ?_, ?_, ?_, ?_, ?_, ?_, ?_, ?_, ?_, ?_, ?_, ?_, ?_, trivial⟩)
    all_goals try exact trivial
    · exact fun k _ => Ent.agree1 (t0 := 4) (ts := [.top, .top, .top, .top, .fn 38 [] [.ref (H.length + 4) 0]]) (.pure eGT rfl eV) (by kernel_rfl) (by kernel_rfl)
    · refine ⟨Nat.le_refl _, thrown, H ++ [.cells [.sl b.length (bytesAV b) .ro], .cells [.int .i64 0, .str [], .str [], .sl 0 [] .full, .int .i64 0, .sl 0 [] .full], .cells [.int .i64 0], .cells [.sl (cutN 1 b).length (bytesAV (cutN 1 b)) .ro], .cells [.fn 35 [] [.ref (H.length + 3) 0]]], EntP.agree1 (t0 := 11) (ts := [.top, .top, .top, .top, .top, .top, .top, .top, .top, .top, .top, .fn 38 [] [.ref (H.length + 4) 0]]) (show EntP _ _ _ _ _ (H ++ [.cells [.sl b.length (bytesAV b) .ro], .cells [.int .i64 0, .str [], .str [], .sl 0 [] .full, .int .i64 0, .sl 0 [] .full], .cells [.int .i64 0], .cells [.sl (b).length (bytesAV (b)) .ro], .cells [.fn 35 [] [.ref (H.length + 3) 0]]]) thrown (H ++ [.cells [.sl b.length (bytesAV b) .ro], .cells [.int .i64 0, .str [], .str [], .sl 0 [] .full, .int .i64 0, .sl 0 [] .full], .cells [.int .i64 0], .cells [.sl (cutN 1 b).length (bytesAV (cutN 1 b)) .ro], .cells [.fn 35 [] [.ref (H.length + 3) 0]]]) from .call eGT rfl rfl eA (args := [.ref (H.length + 4) 0]) eArgs (hx.call trivial)) (by kernel_rfl) (by kernel_rfl), fun ts => ?_⟩
      repeat' (first | refine go ?_ | (refine br (fun hc => ?_) (fun hc => ?_) <;> try (exfalso; omega)) | fail)
      all_goals exact .now (.inr ⟨hno, rfl, _, _, _, _, _, _, _, rfl⟩)
    · intro k hk
      match k, hk with
      | 0, _ =>
        show Ent _ _ _ _ _ _ (H ++ [.cells [.sl b.length (bytesAV b) .ro], .cells [.int .i64 0, .str [], .str [], .sl 0 [] .full, .int .i64 0, .sl 0 [] .full], .cells [.int .i64 0], .cells [.sl (b).length (bytesAV (b)) .ro], .cells [.fn 35 [] [.ref (H.length + 3) 0]]]) (.fn 35 [] [.ref (H.length + 3) 0]) (H ++ [.cells [.sl b.length (bytesAV b) .ro], .cells [.int .i64 0, .str [], .str [], .sl 0 [] .full, .int .i64 0, .sl 0 [] .full], .cells [.int .i64 0], .cells [.sl (b).length (bytesAV (b)) .ro], .cells [.fn 35 [] [.ref (H.length + 3) 0]]])
        exact Ent.agree1 (t0 := 3) (ts := [.top, .top, .top, .ref (H.length + 4) 0]) (.pure eGT rfl eV) (by kernel_rfl) (by kernel_rfl)
    · intro k hk
      match k, hk with
      | 0, _ =>
        show Ent _ _ _ _ _ _ (H ++ [.cells [.sl b.length (bytesAV b) .ro], .cells [.int .i64 0, .str [], .str [], .sl 0 [] .full, .int .i64 0, .sl 0 [] .full], .cells [.int .i64 0], .cells [.sl (b).length (bytesAV (b)) .ro], .cells [.fn 35 [] [.ref (H.length + 3) 0]]]) (.fn 35 [] [.ref (H.length + 3) 0]) (H ++ [.cells [.sl b.length (bytesAV b) .ro], .cells [.int .i64 0, .str [], .str [], .sl 0 [] .full, .int .i64 0, .sl 0 [] .full], .cells [.int .i64 0], .cells [.sl (b).length (bytesAV (b)) .ro], .cells [.fn 35 [] [.ref (H.length + 3) 0]]])
        exact Ent.agree1 (t0 := 3) (ts := [.top, .top, .top, .ref (H.length + 4) 0]) (.pure eGT rfl eV) (by kernel_rfl) (by kernel_rfl)
    · exact fun k _ => Ent.agree1 (t0 := 4) (ts := [.top, .top, .top, .top, .fn 38 [] [.ref (H.length + 4) 0]]) (.pure eGT rfl eV) (by kernel_rfl) (by kernel_rfl)
  obtain ⟨id, q0⟩ := q0
  have hx0 : Ctr (env n0 w0 gl) 38 [.ref (H.length + 4) 0] (H ++ [.cells [.sl b.length (bytesAV b) .ro], .cells [.int .i64 0, .str [], .str [], .sl 0 [] .full, .int .i64 0, .sl 0 [] .full], .cells [.int .i64 0], .cells [.sl (b).length (bytesAV (b)) .ro], .cells [.fn 35 [] [.ref (H.length + 3) 0]]]) True (.int .i64 id) (H ++ [.cells [.sl b.length (bytesAV b) .ro], .cells [.int .i64 0, .str [], .str [], .sl 0 [] .full, .int .i64 0, .sl 0 [] .full], .cells [.int .i64 0], .cells [.sl (cutN 1 b).length (bytesAV (cutN 1 b)) .ro], .cells [.fn 35 [] [.ref (H.length + 3) 0]]]) := .of fun _ => by
    have := dnum_ok (n0 := n0) (w0 := w0) (gl := gl) (c := H.length + 3) (d := H.length + 4) (s := b) (H := H ++ [.cells [.sl b.length (bytesAV b) .ro], .cells [.int .i64 0, .str [], .str [], .sl 0 [] .full, .int .i64 0, .sl 0 [] .full], .cells [.int .i64 0], .cells [.sl (b).length (bytesAV (b)) .ro], .cells [.fn 35 [] [.ref (H.length + 3) 0]]]) (by omega) (by simp) (by simp) c0 q0
    simpa [show cutB (b) = cutN 1 b from rfl] using this
  by_cases c1 : CutOk (cutN 1 b)
  rotate_left 1
  · have hno : decM b = none := decM_fail fun m h => c1 h.c1
    have hx : CtrP (env n0 w0 gl) 35 [.ref (H.length + 3) 0] (H ++ [.cells [.sl b.length (bytesAV b) .ro], .cells [.int .i64 0, .str [], .str [], .sl 0 [] .full, .int .i64 0, .sl 0 [] .full], .cells [.int .i64 0], .cells [.sl (cutN 1 b).length (bytesAV (cutN 1 b)) .ro], .cells [.fn 35 [] [.ref (H.length + 3) 0]]]) True thrown (H ++ [.cells [.sl b.length (bytesAV b) .ro], .cells [.int .i64 0, .str [], .str [], .sl 0 [] .full, .int .i64 0, .sl 0 [] .full], .cells [.int .i64 0], .cells [.sl (cutN 1 b).length (bytesAV (cutN 1 b)) .ro], .cells [.fn 35 [] [.ref (H.length + 3) 0]]]) := .of fun _ =>
      dtext_bad (n0 := n0) (w0 := w0) (gl := gl) (c := H.length + 3) (s := cutN 1 b) (H := H ++ [.cells [.sl b.length (bytesAV b) .ro], .cells [.int .i64 0, .str [], .str [], .sl 0 [] .full, .int .i64 0, .sl 0 [] .full], .cells [.int .i64 0], .cells [.sl (cutN 1 b).length (bytesAV (cutN 1 b)) .ro], .cells [.fn 35 [] [.ref (H.length + 3) 0]]]) (by omega) (by simp) c1
    refine enter (md := fun _ => 0) Tryd.func34 (fun hfit hgl => ?_)
    simp only [List.length_append, List.length_cons, List.length_nil, Nat.zero_add, Nat.reduceAdd]
    refine gos ?_
    refine wseq_normal ?_
    refine gos ?_
    refine wseq_normal ?_
    refine gos ?_
    refine wseq_normal ?_
    refine w_seq ?_
    refine w_drawnV [.pure, .step 0, .pure, .panics 1, .pure, .never, .pure, .never, .never, .never, .never, .never, .never, .never, .never, .never, .never, .never] [.fn 38 [] [.ref (H.length + 4) 0], .int .i64 id, .fn 35 [] [.ref (H.length + 3) 0], .top, .fn 35 [] [.ref (H.length + 3) 0], .top, .fn 38 [] [.ref (H.length + 4) 0]] [H ++ [.cells [.sl b.length (bytesAV b) .ro], .cells [.int .i64 0, .str [], .str [], .sl 0 [] .full, .int .i64 0, .sl 0 [] .full], .cells [.int .i64 0], .cells [.sl (b).length (bytesAV (b)) .ro], .cells [.fn 35 [] [.ref (H.length + 3) 0]]], H ++ [.cells [.sl b.length (bytesAV b) .ro], .cells [.int .i64 0, .str [], .str [], .sl 0 [] .full, .int .i64 0, .sl 0 [] .full], .cells [.int .i64 0], .cells [.sl (cutN 1 b).length (bytesAV (cutN 1 b)) .ro], .cells [.fn 35 [] [.ref (H.length + 3) 0]]]] 1 (by intro _ h; cases h) (by simp only [List.length_cons, List.length_nil, Nat.reduceAdd]; exact rfl) (by decide +kernel) rfl (allV_of ⟨?_, ?_, ?_, ?_, ?_, ?_, ?_, ?_, ?_, ?_, ?_, ?_, ?_, ?_, ?_, ?_, ?_, ?_, trivial⟩)
    all_goals try exact trivial
    · exact fun k _ => Ent.agree1 (t0 := 4) (ts := [.top, .top, .top, .top, .fn 38 [] [.ref (H.length + 4) 0]]) (.pure eGT rfl eV) (by kernel_rfl) (by kernel_rfl)
    · exact ⟨by decide, Ent.agree1 (t0 := 11) (ts := [.top, .top, .top, .top, .top, .top, .top, .top, .top, .top, .top, .fn 38 [] [.ref (H.length + 4) 0]]) (show Ent _ _ _ _ _ _ (H ++ [.cells [.sl b.length (bytesAV b) .ro], .cells [.int .i64 0, .str [], .str [], .sl 0 [] .full, .int .i64 0, .sl 0 [] .full], .cells [.int .i64 0], .cells [.sl (b).length (bytesAV (b)) .ro], .cells [.fn 35 [] [.ref (H.length + 3) 0]]]) (.int .i64 id) (H ++ [.cells [.sl b.length (bytesAV b) .ro], .cells [.int .i64 0, .str [], .str [], .sl 0 [] .full, .int .i64 0, .sl 0 [] .full], .cells [.int .i64 0], .cells [.sl (cutN 1 b).length (bytesAV (cutN 1 b)) .ro], .cells [.fn 35 [] [.ref (H.length + 3) 0]]]) from .call eGT rfl rfl eA (args := [.ref (H.length + 4) 0]) eArgs (hx0.call trivial)) (by kernel_rfl) (by kernel_rfl)⟩
    · intro k hk
      match k, hk with
      | 0, _ =>
        show Ent _ _ _ _ _ _ (H ++ [.cells [.sl b.length (bytesAV b) .ro], .cells [.int .i64 0, .str [], .str [], .sl 0 [] .full, .int .i64 0, .sl 0 [] .full], .cells [.int .i64 0], .cells [.sl (b).length (bytesAV (b)) .ro], .cells [.fn 35 [] [.ref (H.length + 3) 0]]]) (.fn 35 [] [.ref (H.length + 3) 0]) (H ++ [.cells [.sl b.length (bytesAV b) .ro], .cells [.int .i64 0, .str [], .str [], .sl 0 [] .full, .int .i64 0, .sl 0 [] .full], .cells [.int .i64 0], .cells [.sl (b).length (bytesAV (b)) .ro], .cells [.fn 35 [] [.ref (H.length + 3) 0]]])
        exact Ent.agree1 (t0 := 3) (ts := [.top, .top, .top, .ref (H.length + 4) 0]) (.pure eGT rfl eV) (by kernel_rfl) (by kernel_rfl)
      | 1, _ =>
        show Ent _ _ _ _ _ _ (H ++ [.cells [.sl b.length (bytesAV b) .ro], .cells [.int .i64 0, .str [], .str [], .sl 0 [] .full, .int .i64 0, .sl 0 [] .full], .cells [.int .i64 0], .cells [.sl (cutN 1 b).length (bytesAV (cutN 1 b)) .ro], .cells [.fn 35 [] [.ref (H.length + 3) 0]]]) (.fn 35 [] [.ref (H.length + 3) 0]) (H ++ [.cells [.sl b.length (bytesAV b) .ro], .cells [.int .i64 0, .str [], .str [], .sl 0 [] .full, .int .i64 0, .sl 0 [] .full], .cells [.int .i64 0], .cells [.sl (cutN 1 b).length (bytesAV (cutN 1 b)) .ro], .cells [.fn 35 [] [.ref (H.length + 3) 0]]])
        exact Ent.agree1 (t0 := 3) (ts := [.top, .top, .top, .ref (H.length + 4) 0]) (.pure eGT rfl eV) (by kernel_rfl) (by kernel_rfl)
    · refine ⟨Nat.le_refl _, thrown, H ++ [.cells [.sl b.length (bytesAV b) .ro], .cells [.int .i64 0, .str [], .str [], .sl 0 [] .full, .int .i64 0, .sl 0 [] .full], .cells [.int .i64 0], .cells [.sl (cutN 1 b).length (bytesAV (cutN 1 b)) .ro], .cells [.fn 35 [] [.ref (H.length + 3) 0]]], EntP.agree1 (t0 := 13) (ts := [.top, .top, .top, .top, .top, .top, .top, .top, .top, .top, .top, .top, .top, .fn 35 [] [.ref (H.length + 3) 0]]) (show EntP _ _ _ _ _ (H ++ [.cells [.sl b.length (bytesAV b) .ro], .cells [.int .i64 0, .str [], .str [], .sl 0 [] .full, .int .i64 0, .sl 0 [] .full], .cells [.int .i64 0], .cells [.sl (cutN 1 b).length (bytesAV (cutN 1 b)) .ro], .cells [.fn 35 [] [.ref (H.length + 3) 0]]]) thrown (H ++ [.cells [.sl b.length (bytesAV b) .ro], .cells [.int .i64 0, .str [], .str [], .sl 0 [] .full, .int .i64 0, .sl 0 [] .full], .cells [.int .i64 0], .cells [.sl (cutN 1 b).length (bytesAV (cutN 1 b)) .ro], .cells [.fn 35 [] [.ref (H.length + 3) 0]]]) from .call eGT rfl rfl eA (args := [.ref (H.length + 3) 0]) eArgs (hx.call trivial)) (by kernel_rfl) (by kernel_rfl), fun ts => ?_⟩
      repeat' (first | refine go ?_ | (refine br (fun hc => ?_) (fun hc => ?_) <;> try (exfalso; omega)) | fail)
      all_goals exact .now (.inr ⟨hno, rfl, _, _, _, _, _, _, _, rfl⟩)
    · intro k hk
      match k, hk with
      | 0, _ =>
        show Ent _ _ _ _ _ _ (H ++ [.cells [.sl b.length (bytesAV b) .ro], .cells [.int .i64 0, .str [], .str [], .sl 0 [] .full, .int .i64 0, .sl 0 [] .full], .cells [.int .i64 0], .cells [.sl (b).length (bytesAV (b)) .ro], .cells [.fn 35 [] [.ref (H.length + 3) 0]]]) (.fn 35 [] [.ref (H.length + 3) 0]) (H ++ [.cells [.sl b.length (bytesAV b) .ro], .cells [.int .i64 0, .str [], .str [], .sl 0 [] .full, .int .i64 0, .sl 0 [] .full], .cells [.int .i64 0], .cells [.sl (b).length (bytesAV (b)) .ro], .cells [.fn 35 [] [.ref (H.length + 3) 0]]])
        exact Ent.agree1 (t0 := 3) (ts := [.top, .top, .top, .ref (H.length + 4) 0]) (.pure eGT rfl eV) (by kernel_rfl) (by kernel_rfl)
      | 1, _ =>
        show Ent _ _ _ _ _ _ (H ++ [.cells [.sl b.length (bytesAV b) .ro], .cells [.int .i64 0, .str [], .str [], .sl 0 [] .full, .int .i64 0, .sl 0 [] .full], .cells [.int .i64 0], .cells [.sl (cutN 1 b).length (bytesAV (cutN 1 b)) .ro], .cells [.fn 35 [] [.ref (H.length + 3) 0]]]) (.fn 35 [] [.ref (H.length + 3) 0]) (H ++ [.cells [.sl b.length (bytesAV b) .ro], .cells [.int .i64 0, .str [], .str [], .sl 0 [] .full, .int .i64 0, .sl 0 [] .full], .cells [.int .i64 0], .cells [.sl (cutN 1 b).length (bytesAV (cutN 1 b)) .ro], .cells [.fn 35 [] [.ref (H.length + 3) 0]]])
        exact Ent.agree1 (t0 := 3) (ts := [.top, .top, .top, .ref (H.length + 4) 0]) (.pure eGT rfl eV) (by kernel_rfl) (by kernel_rfl)
    · exact fun k _ => Ent.agree1 (t0 := 4) (ts := [.top, .top, .top, .top, .fn 38 [] [.ref (H.length + 4) 0]]) (.pure eGT rfl eV) (by kernel_rfl) (by kernel_rfl)
  have hx1 : Ctr (env n0 w0 gl) 35 [.ref (H.length + 3) 0] (H ++ [.cells [.sl b.length (bytesAV b) .ro], .cells [.int .i64 0, .str [], .str [], .sl 0 [] .full, .int .i64 0, .sl 0 [] .full], .cells [.int .i64 0], .cells [.sl (cutN 1 b).length (bytesAV (cutN 1 b)) .ro], .cells [.fn 35 [] [.ref (H.length + 3) 0]]]) True (.str (cutA (cutN 1 b))) (H ++ [.cells [.sl b.length (bytesAV b) .ro], .cells [.int .i64 0, .str [], .str [], .sl 0 [] .full, .int .i64 0, .sl 0 [] .full], .cells [.int .i64 0], .cells [.sl (cutN 2 b).length (bytesAV (cutN 2 b)) .ro], .cells [.fn 35 [] [.ref (H.length + 3) 0]]]) := .of fun _ => by
    have := dtext_ok (n0 := n0) (w0 := w0) (gl := gl) (c := H.length + 3) (s := cutN 1 b) (H := H ++ [.cells [.sl b.length (bytesAV b) .ro], .cells [.int .i64 0, .str [], .str [], .sl 0 [] .full, .int .i64 0, .sl 0 [] .full], .cells [.int .i64 0], .cells [.sl (cutN 1 b).length (bytesAV (cutN 1 b)) .ro], .cells [.fn 35 [] [.ref (H.length + 3) 0]]]) (by omega) (by simp) c1
    simpa [show cutB (cutN 1 b) = cutN 2 b from rfl] using this
  by_cases c2 : CutOk (cutN 2 b)
  rotate_left 1
  · have hno : decM b = none := decM_fail fun m h => c2 h.c2
    have hx : CtrP (env n0 w0 gl) 35 [.ref (H.length + 3) 0] (H ++ [.cells [.sl b.length (bytesAV b) .ro], .cells [.int .i64 0, .str [], .str [], .sl 0 [] .full, .int .i64 0, .sl 0 [] .full], .cells [.int .i64 0], .cells [.sl (cutN 2 b).length (bytesAV (cutN 2 b)) .ro], .cells [.fn 35 [] [.ref (H.length + 3) 0]]]) True thrown (H ++ [.cells [.sl b.length (bytesAV b) .ro], .cells [.int .i64 0, .str [], .str [], .sl 0 [] .full, .int .i64 0, .sl 0 [] .full], .cells [.int .i64 0], .cells [.sl (cutN 2 b).length (bytesAV (cutN 2 b)) .ro], .cells [.fn 35 [] [.ref (H.length + 3) 0]]]) := .of fun _ =>
      dtext_bad (n0 := n0) (w0 := w0) (gl := gl) (c := H.length + 3) (s := cutN 2 b) (H := H ++ [.cells [.sl b.length (bytesAV b) .ro], .cells [.int .i64 0, .str [], .str [], .sl 0 [] .full, .int .i64 0, .sl 0 [] .full], .cells [.int .i64 0], .cells [.sl (cutN 2 b).length (bytesAV (cutN 2 b)) .ro], .cells [.fn 35 [] [.ref (H.length + 3) 0]]]) (by omega) (by simp) c2
    refine enter (md := fun _ => 0) Tryd.func34 (fun hfit hgl => ?_)
    simp only [List.length_append, List.length_cons, List.length_nil, Nat.zero_add, Nat.reduceAdd]
    refine gos ?_
    refine wseq_normal ?_
    refine gos ?_
    refine wseq_normal ?_
    refine gos ?_
    refine wseq_normal ?_
    refine w_seq ?_
    refine w_drawnV [.pure, .step 0, .pure, .step 1, .pure, .panics 2, .pure, .never, .never, .never, .never, .never, .never, .never, .never, .never, .never, .never] [.fn 38 [] [.ref (H.length + 4) 0], .int .i64 id, .fn 35 [] [.ref (H.length + 3) 0], .str (cutA (cutN 1 b)), .fn 35 [] [.ref (H.length + 3) 0], .top, .fn 38 [] [.ref (H.length + 4) 0]] [H ++ [.cells [.sl b.length (bytesAV b) .ro], .cells [.int .i64 0, .str [], .str [], .sl 0 [] .full, .int .i64 0, .sl 0 [] .full], .cells [.int .i64 0], .cells [.sl (b).length (bytesAV (b)) .ro], .cells [.fn 35 [] [.ref (H.length + 3) 0]]], H ++ [.cells [.sl b.length (bytesAV b) .ro], .cells [.int .i64 0, .str [], .str [], .sl 0 [] .full, .int .i64 0, .sl 0 [] .full], .cells [.int .i64 0], .cells [.sl (cutN 1 b).length (bytesAV (cutN 1 b)) .ro], .cells [.fn 35 [] [.ref (H.length + 3) 0]]], H ++ [.cells [.sl b.length (bytesAV b) .ro], .cells [.int .i64 0, .str [], .str [], .sl 0 [] .full, .int .i64 0, .sl 0 [] .full], .cells [.int .i64 0], .cells [.sl (cutN 2 b).length (bytesAV (cutN 2 b)) .ro], .cells [.fn 35 [] [.ref (H.length + 3) 0]]]] 2 (by intro _ h; cases h) (by simp only [List.length_cons, List.length_nil, Nat.reduceAdd]; exact rfl) (by decide +kernel) rfl (allV_of ⟨?_, ?_, ?_, ?_, ?_, ?_, ?_, ?_, ?_, ?_, ?_, ?_, ?_, ?_, ?_, ?_, ?_, ?_, trivial⟩)
    all_goals try exact trivial
    · exact fun k _ => Ent.agree1 (t0 := 4) (ts := [.top, .top, .top, .top, .fn 38 [] [.ref (H.length + 4) 0]]) (.pure eGT rfl eV) (by kernel_rfl) (by kernel_rfl)
    · exact ⟨by decide, Ent.agree1 (t0 := 11) (ts := [.top, .top, .top, .top, .top, .top, .top, .top, .top, .top, .top, .fn 38 [] [.ref (H.length + 4) 0]]) (show Ent _ _ _ _ _ _ (H ++ [.cells [.sl b.length (bytesAV b) .ro], .cells [.int .i64 0, .str [], .str [], .sl 0 [] .full, .int .i64 0, .sl 0 [] .full], .cells [.int .i64 0], .cells [.sl (b).length (bytesAV (b)) .ro], .cells [.fn 35 [] [.ref (H.length + 3) 0]]]) (.int .i64 id) (H ++ [.cells [.sl b.length (bytesAV b) .ro], .cells [.int .i64 0, .str [], .str [], .sl 0 [] .full, .int .i64 0, .sl 0 [] .full], .cells [.int .i64 0], .cells [.sl (cutN 1 b).length (bytesAV (cutN 1 b)) .ro], .cells [.fn 35 [] [.ref (H.length + 3) 0]]]) from .call eGT rfl rfl eA (args := [.ref (H.length + 4) 0]) eArgs (hx0.call trivial)) (by kernel_rfl) (by kernel_rfl)⟩
    · intro k hk
      match k, hk with
      | 0, _ =>
        show Ent _ _ _ _ _ _ (H ++ [.cells [.sl b.length (bytesAV b) .ro], .cells [.int .i64 0, .str [], .str [], .sl 0 [] .full, .int .i64 0, .sl 0 [] .full], .cells [.int .i64 0], .cells [.sl (b).length (bytesAV (b)) .ro], .cells [.fn 35 [] [.ref (H.length + 3) 0]]]) (.fn 35 [] [.ref (H.length + 3) 0]) (H ++ [.cells [.sl b.length (bytesAV b) .ro], .cells [.int .i64 0, .str [], .str [], .sl 0 [] .full, .int .i64 0, .sl 0 [] .full], .cells [.int .i64 0], .cells [.sl (b).length (bytesAV (b)) .ro], .cells [.fn 35 [] [.ref (H.length + 3) 0]]])
        exact Ent.agree1 (t0 := 3) (ts := [.top, .top, .top, .ref (H.length + 4) 0]) (.pure eGT rfl eV) (by kernel_rfl) (by kernel_rfl)
      | 1, _ =>
        show Ent _ _ _ _ _ _ (H ++ [.cells [.sl b.length (bytesAV b) .ro], .cells [.int .i64 0, .str [], .str [], .sl 0 [] .full, .int .i64 0, .sl 0 [] .full], .cells [.int .i64 0], .cells [.sl (cutN 1 b).length (bytesAV (cutN 1 b)) .ro], .cells [.fn 35 [] [.ref (H.length + 3) 0]]]) (.fn 35 [] [.ref (H.length + 3) 0]) (H ++ [.cells [.sl b.length (bytesAV b) .ro], .cells [.int .i64 0, .str [], .str [], .sl 0 [] .full, .int .i64 0, .sl 0 [] .full], .cells [.int .i64 0], .cells [.sl (cutN 1 b).length (bytesAV (cutN 1 b)) .ro], .cells [.fn 35 [] [.ref (H.length + 3) 0]]])
        exact Ent.agree1 (t0 := 3) (ts := [.top, .top, .top, .ref (H.length + 4) 0]) (.pure eGT rfl eV) (by kernel_rfl) (by kernel_rfl)
      | 2, _ =>
        show Ent _ _ _ _ _ _ (H ++ [.cells [.sl b.length (bytesAV b) .ro], .cells [.int .i64 0, .str [], .str [], .sl 0 [] .full, .int .i64 0, .sl 0 [] .full], .cells [.int .i64 0], .cells [.sl (cutN 2 b).length (bytesAV (cutN 2 b)) .ro], .cells [.fn 35 [] [.ref (H.length + 3) 0]]]) (.fn 35 [] [.ref (H.length + 3) 0]) (H ++ [.cells [.sl b.length (bytesAV b) .ro], .cells [.int .i64 0, .str [], .str [], .sl 0 [] .full, .int .i64 0, .sl 0 [] .full], .cells [.int .i64 0], .cells [.sl (cutN 2 b).length (bytesAV (cutN 2 b)) .ro], .cells [.fn 35 [] [.ref (H.length + 3) 0]]])
        exact Ent.agree1 (t0 := 3) (ts := [.top, .top, .top, .ref (H.length + 4) 0]) (.pure eGT rfl eV) (by kernel_rfl) (by kernel_rfl)
    · exact ⟨by decide, Ent.agree1 (t0 := 13) (ts := [.top, .top, .top, .top, .top, .top, .top, .top, .top, .top, .top, .top, .top, .fn 35 [] [.ref (H.length + 3) 0]]) (show Ent _ _ _ _ _ _ (H ++ [.cells [.sl b.length (bytesAV b) .ro], .cells [.int .i64 0, .str [], .str [], .sl 0 [] .full, .int .i64 0, .sl 0 [] .full], .cells [.int .i64 0], .cells [.sl (cutN 1 b).length (bytesAV (cutN 1 b)) .ro], .cells [.fn 35 [] [.ref (H.length + 3) 0]]]) (.str (cutA (cutN 1 b))) (H ++ [.cells [.sl b.length (bytesAV b) .ro], .cells [.int .i64 0, .str [], .str [], .sl 0 [] .full, .int .i64 0, .sl 0 [] .full], .cells [.int .i64 0], .cells [.sl (cutN 2 b).length (bytesAV (cutN 2 b)) .ro], .cells [.fn 35 [] [.ref (H.length + 3) 0]]]) from .call eGT rfl rfl eA (args := [.ref (H.length + 3) 0]) eArgs (hx1.call trivial)) (by kernel_rfl) (by kernel_rfl)⟩
    · intro k hk
      match k, hk with
      | 0, _ =>
        show Ent _ _ _ _ _ _ (H ++ [.cells [.sl b.length (bytesAV b) .ro], .cells [.int .i64 0, .str [], .str [], .sl 0 [] .full, .int .i64 0, .sl 0 [] .full], .cells [.int .i64 0], .cells [.sl (b).length (bytesAV (b)) .ro], .cells [.fn 35 [] [.ref (H.length + 3) 0]]]) (.fn 35 [] [.ref (H.length + 3) 0]) (H ++ [.cells [.sl b.length (bytesAV b) .ro], .cells [.int .i64 0, .str [], .str [], .sl 0 [] .full, .int .i64 0, .sl 0 [] .full], .cells [.int .i64 0], .cells [.sl (b).length (bytesAV (b)) .ro], .cells [.fn 35 [] [.ref (H.length + 3) 0]]])
        exact Ent.agree1 (t0 := 3) (ts := [.top, .top, .top, .ref (H.length + 4) 0]) (.pure eGT rfl eV) (by kernel_rfl) (by kernel_rfl)
      | 1, _ =>
        show Ent _ _ _ _ _ _ (H ++ [.cells [.sl b.length (bytesAV b) .ro], .cells [.int .i64 0, .str [], .str [], .sl 0 [] .full, .int .i64 0, .sl 0 [] .full], .cells [.int .i64 0], .cells [.sl (cutN 1 b).length (bytesAV (cutN 1 b)) .ro], .cells [.fn 35 [] [.ref (H.length + 3) 0]]]) (.fn 35 [] [.ref (H.length + 3) 0]) (H ++ [.cells [.sl b.length (bytesAV b) .ro], .cells [.int .i64 0, .str [], .str [], .sl 0 [] .full, .int .i64 0, .sl 0 [] .full], .cells [.int .i64 0], .cells [.sl (cutN 1 b).length (bytesAV (cutN 1 b)) .ro], .cells [.fn 35 [] [.ref (H.length + 3) 0]]])
        exact Ent.agree1 (t0 := 3) (ts := [.top, .top, .top, .ref (H.length + 4) 0]) (.pure eGT rfl eV) (by kernel_rfl) (by kernel_rfl)
      | 2, _ =>
        show Ent _ _ _ _ _ _ (H ++ [.cells [.sl b.length (bytesAV b) .ro], .cells [.int .i64 0, .str [], .str [], .sl 0 [] .full, .int .i64 0, .sl 0 [] .full], .cells [.int .i64 0], .cells [.sl (cutN 2 b).length (bytesAV (cutN 2 b)) .ro], .cells [.fn 35 [] [.ref (H.length + 3) 0]]]) (.fn 35 [] [.ref (H.length + 3) 0]) (H ++ [.cells [.sl b.length (bytesAV b) .ro], .cells [.int .i64 0, .str [], .str [], .sl 0 [] .full, .int .i64 0, .sl 0 [] .full], .cells [.int .i64 0], .cells [.sl (cutN 2 b).length (bytesAV (cutN 2 b)) .ro], .cells [.fn 35 [] [.ref (H.length + 3) 0]]])
        exact Ent.agree1 (t0 := 3) (ts := [.top, .top, .top, .ref (H.length + 4) 0]) (.pure eGT rfl eV) (by kernel_rfl) (by kernel_rfl)
    · refine ⟨Nat.le_refl _, thrown, H ++ [.cells [.sl b.length (bytesAV b) .ro], .cells [.int .i64 0, .str [], .str [], .sl 0 [] .full, .int .i64 0, .sl 0 [] .full], .cells [.int .i64 0], .cells [.sl (cutN 2 b).length (bytesAV (cutN 2 b)) .ro], .cells [.fn 35 [] [.ref (H.length + 3) 0]]], EntP.agree1 (t0 := 15) (ts := [.top, .top, .top, .top, .top, .top, .top, .top, .top, .top, .top, .top, .top, .top, .top, .fn 35 [] [.ref (H.length + 3) 0]]) (show EntP _ _ _ _ _ (H ++ [.cells [.sl b.length (bytesAV b) .ro], .cells [.int .i64 0, .str [], .str [], .sl 0 [] .full, .int .i64 0, .sl 0 [] .full], .cells [.int .i64 0], .cells [.sl (cutN 2 b).length (bytesAV (cutN 2 b)) .ro], .cells [.fn 35 [] [.ref (H.length + 3) 0]]]) thrown (H ++ [.cells [.sl b.length (bytesAV b) .ro], .cells [.int .i64 0, .str [], .str [], .sl 0 [] .full, .int .i64 0, .sl 0 [] .full], .cells [.int .i64 0], .cells [.sl (cutN 2 b).length (bytesAV (cutN 2 b)) .ro], .cells [.fn 35 [] [.ref (H.length + 3) 0]]]) from .call eGT rfl rfl eA (args := [.ref (H.length + 3) 0]) eArgs (hx.call trivial)) (by kernel_rfl) (by kernel_rfl), fun ts => ?_⟩
      repeat' (first | refine go ?_ | (refine br (fun hc => ?_) (fun hc => ?_) <;> try (exfalso; omega)) | fail)
      all_goals exact .now (.inr ⟨hno, rfl, _, _, _, _, _, _, _, rfl⟩)
    · exact fun k _ => Ent.agree1 (t0 := 4) (ts := [.top, .top, .top, .top, .fn 38 [] [.ref (H.length + 4) 0]]) (.pure eGT rfl eV) (by kernel_rfl) (by kernel_rfl)
  have hx2 : Ctr (env n0 w0 gl) 35 [.ref (H.length + 3) 0] (H ++ [.cells [.sl b.length (bytesAV b) .ro], .cells [.int .i64 0, .str [], .str [], .sl 0 [] .full, .int .i64 0, .sl 0 [] .full], .cells [.int .i64 0], .cells [.sl (cutN 2 b).length (bytesAV (cutN 2 b)) .ro], .cells [.fn 35 [] [.ref (H.length + 3) 0]]]) True (.str (cutA (cutN 2 b))) (H ++ [.cells [.sl b.length (bytesAV b) .ro], .cells [.int .i64 0, .str [], .str [], .sl 0 [] .full, .int .i64 0, .sl 0 [] .full], .cells [.int .i64 0], .cells [.sl (cutN 3 b).length (bytesAV (cutN 3 b)) .ro], .cells [.fn 35 [] [.ref (H.length + 3) 0]]]) := .of fun _ => by
    have := dtext_ok (n0 := n0) (w0 := w0) (gl := gl) (c := H.length + 3) (s := cutN 2 b) (H := H ++ [.cells [.sl b.length (bytesAV b) .ro], .cells [.int .i64 0, .str [], .str [], .sl 0 [] .full, .int .i64 0, .sl 0 [] .full], .cells [.int .i64 0], .cells [.sl (cutN 2 b).length (bytesAV (cutN 2 b)) .ro], .cells [.fn 35 [] [.ref (H.length + 3) 0]]]) (by omega) (by simp) c2
    simpa [show cutB (cutN 2 b) = cutN 3 b from rfl] using this
  by_cases c3 : CutOk (cutN 3 b)
  rotate_left 1
  · have hno : decM b = none := decM_fail fun m h => c3 h.c3
    have hx : CtrP (env n0 w0 gl) 38 [.ref (H.length + 4) 0] (H ++ [.cells [.sl b.length (bytesAV b) .ro], .cells [.int .i64 0, .str [], .str [], .sl 0 [] .full, .int .i64 0, .sl 0 [] .full], .cells [.int .i64 0], .cells [.sl (cutN 3 b).length (bytesAV (cutN 3 b)) .ro], .cells [.fn 35 [] [.ref (H.length + 3) 0]]]) True thrown (H ++ [.cells [.sl b.length (bytesAV b) .ro], .cells [.int .i64 0, .str [], .str [], .sl 0 [] .full, .int .i64 0, .sl 0 [] .full], .cells [.int .i64 0], .cells [.sl (cutN 3 b).length (bytesAV (cutN 3 b)) .ro], .cells [.fn 35 [] [.ref (H.length + 3) 0]]]) := .of fun _ =>
      dnum_cut (n0 := n0) (w0 := w0) (gl := gl) (c := H.length + 3) (d := H.length + 4) (s := cutN 3 b) (H := H ++ [.cells [.sl b.length (bytesAV b) .ro], .cells [.int .i64 0, .str [], .str [], .sl 0 [] .full, .int .i64 0, .sl 0 [] .full], .cells [.int .i64 0], .cells [.sl (cutN 3 b).length (bytesAV (cutN 3 b)) .ro], .cells [.fn 35 [] [.ref (H.length + 3) 0]]]) (by omega) (by simp) (by simp) c3
    refine enter (md := fun _ => 0) Tryd.func34 (fun hfit hgl => ?_)
    simp only [List.length_append, List.length_cons, List.length_nil, Nat.zero_add, Nat.reduceAdd]
    refine gos ?_
    refine wseq_normal ?_
    refine gos ?_
    refine wseq_normal ?_
    refine gos ?_
    refine wseq_normal ?_
    refine w_seq ?_
    refine w_drawnP (fun X => X[H.length + 4]? = some (.cells [.fn 35 [] [.ref (H.length + 3) 0]])) (by intro _ h; cases h) (by simp only [List.length_cons, List.length_nil, Nat.reduceAdd]; exact rfl) ?_
    refine goP ?_
    refine panP ?_
    intro ts
    repeat' (first | refine go ?_ | (refine br (fun hc => ?_) (fun hc => ?_) <;> try (exfalso; omega)) | fail)
    all_goals exact .now (.inr ⟨hno, rfl, _, _, _, _, _, _, _, rfl⟩)
  by_cases q3 : ∃ a, Lib.parseIntB 64 (cutA (cutN 3 b)) = .ok a
  rotate_left 1
  · have hno : decM b = none := decM_fail fun m h => q3 ⟨_, h.i3⟩
    have hx : CtrP (env n0 w0 gl) 38 [.ref (H.length + 4) 0] (H ++ [.cells [.sl b.length (bytesAV b) .ro], .cells [.int .i64 0, .str [], .str [], .sl 0 [] .full, .int .i64 0, .sl 0 [] .full], .cells [.int .i64 0], .cells [.sl (cutN 3 b).length (bytesAV (cutN 3 b)) .ro], .cells [.fn 35 [] [.ref (H.length + 3) 0]]]) True thrown (H ++ [.cells [.sl b.length (bytesAV b) .ro], .cells [.int .i64 0, .str [], .str [], .sl 0 [] .full, .int .i64 0, .sl 0 [] .full], .cells [.int .i64 0], .cells [.sl (cutN 4 b).length (bytesAV (cutN 4 b)) .ro], .cells [.fn 35 [] [.ref (H.length + 3) 0]]]) := .of fun _ => by
      have := dnum_bad (n0 := n0) (w0 := w0) (gl := gl) (c := H.length + 3) (d := H.length + 4) (s := cutN 3 b) (H := H ++ [.cells [.sl b.length (bytesAV b) .ro], .cells [.int .i64 0, .str [], .str [], .sl 0 [] .full, .int .i64 0, .sl 0 [] .full], .cells [.int .i64 0], .cells [.sl (cutN 3 b).length (bytesAV (cutN 3 b)) .ro], .cells [.fn 35 [] [.ref (H.length + 3) 0]]]) (by omega) (by simp) (by simp) c3 q3
      simpa [show cutB (cutN 3 b) = cutN 4 b from rfl] using this
    refine enter (md := fun _ => 0) Tryd.func34 (fun hfit hgl => ?_)
    simp only [List.length_append, List.length_cons, List.length_nil, Nat.zero_add, Nat.reduceAdd]
    refine gos ?_
    refine wseq_normal ?_
    refine gos ?_
    refine wseq_normal ?_
    refine gos ?_
    refine wseq_normal ?_
    refine w_seq ?_
    refine w_drawnP (fun X => X[H.length + 4]? = some (.cells [.fn 35 [] [.ref (H.length + 3) 0]])) (by intro _ h; cases h) (by simp only [List.length_cons, List.length_nil, Nat.reduceAdd]; exact rfl) ?_
    refine goP ?_
    refine panP ?_
    intro ts
    repeat' (first | refine go ?_ | (refine br (fun hc => ?_) (fun hc => ?_) <;> try (exfalso; omega)) | fail)
    all_goals exact .now (.inr ⟨hno, rfl, _, _, _, _, _, _, _, rfl⟩)
  obtain ⟨at_, q3⟩ := q3
  have hx3 : Ctr (env n0 w0 gl) 38 [.ref (H.length + 4) 0] (H ++ [.cells [.sl b.length (bytesAV b) .ro], .cells [.int .i64 0, .str [], .str [], .sl 0 [] .full, .int .i64 0, .sl 0 [] .full], .cells [.int .i64 0], .cells [.sl (cutN 3 b).length (bytesAV (cutN 3 b)) .ro], .cells [.fn 35 [] [.ref (H.length + 3) 0]]]) True (.int .i64 at_) (H ++ [.cells [.sl b.length (bytesAV b) .ro], .cells [.int .i64 0, .str [], .str [], .sl 0 [] .full, .int .i64 0, .sl 0 [] .full], .cells [.int .i64 0], .cells [.sl (cutN 4 b).length (bytesAV (cutN 4 b)) .ro], .cells [.fn 35 [] [.ref (H.length + 3) 0]]]) := .of fun _ => by
    have := dnum_ok (n0 := n0) (w0 := w0) (gl := gl) (c := H.length + 3) (d := H.length + 4) (s := cutN 3 b) (H := H ++ [.cells [.sl b.length (bytesAV b) .ro], .cells [.int .i64 0, .str [], .str [], .sl 0 [] .full, .int .i64 0, .sl 0 [] .full], .cells [.int .i64 0], .cells [.sl (cutN 3 b).length (bytesAV (cutN 3 b)) .ro], .cells [.fn 35 [] [.ref (H.length + 3) 0]]]) (by omega) (by simp) (by simp) c3 q3
    simpa [show cutB (cutN 3 b) = cutN 4 b from rfl] using this
  refine enter (md := fun _ => 0) Tryd.func34 (fun hfit hgl => ?_)
  simp only [List.length_append, List.length_cons, List.length_nil, Nat.zero_add, Nat.reduceAdd]
  refine gos ?_
  refine wseq_normal ?_
  refine gos ?_
  refine wseq_normal ?_
  refine gos ?_
  refine wseq_normal ?_
  refine w_seq ?_
  refine w_drawnP (fun X => X[H.length + 4]? = some (.cells [.fn 35 [] [.ref (H.length + 3) 0]])) (by intro _ h; cases h) (by simp only [List.length_cons, List.length_nil, Nat.reduceAdd]; exact rfl) ?_
  refine goP ?_
  refine wseq_normal ?_
  repeat' (first | refine go ?_ | (refine br (fun hc => ?_) (fun hc => ?_) <;> try (exfalso; omega)) | fail)
  by_cases c4 : CutOk (cutN 4 b)
  rotate_left 1
  · have hno : decM b = none := decM_fail fun m h => c4 h.c4
    have hx : CtrP (env n0 w0 gl) 38 [.ref (H.length + 4) 0] (H ++ [.cells [.sl b.length (bytesAV b) .ro], .cells [.int .i64 id, .str (cutA (cutN 1 b)), .str (cutA (cutN 2 b)), .sl 0 [] .full, .int .i64 at_, .sl 0 [] .full], .cells [.int .i64 0], .cells [.sl (cutN 4 b).length (bytesAV (cutN 4 b)) .ro], .cells [.fn 35 [] [.ref (H.length + 3) 0]]]) True thrown (H ++ [.cells [.sl b.length (bytesAV b) .ro], .cells [.int .i64 id, .str (cutA (cutN 1 b)), .str (cutA (cutN 2 b)), .sl 0 [] .full, .int .i64 at_, .sl 0 [] .full], .cells [.int .i64 0], .cells [.sl (cutN 4 b).length (bytesAV (cutN 4 b)) .ro], .cells [.fn 35 [] [.ref (H.length + 3) 0]]]) := .of fun _ =>
      dnum_cut (n0 := n0) (w0 := w0) (gl := gl) (c := H.length + 3) (d := H.length + 4) (s := cutN 4 b) (H := H ++ [.cells [.sl b.length (bytesAV b) .ro], .cells [.int .i64 id, .str (cutA (cutN 1 b)), .str (cutA (cutN 2 b)), .sl 0 [] .full, .int .i64 at_, .sl 0 [] .full], .cells [.int .i64 0], .cells [.sl (cutN 4 b).length (bytesAV (cutN 4 b)) .ro], .cells [.fn 35 [] [.ref (H.length + 3) 0]]]) (by omega) (by simp) (by simp) c4
    repeat' (first | refine go ?_ | (refine br (fun hc => ?_) (fun hc => ?_) <;> try (exfalso; omega)) | fail)
    all_goals exact .now (.inr ⟨hno, rfl, _, _, _, _, _, _, _, rfl⟩)
  by_cases q4 : ∃ a, Lib.parseIntB 64 (cutA (cutN 4 b)) = .ok a
  rotate_left 1
  · have hno : decM b = none := decM_fail fun m h => q4 ⟨_, h.i4⟩
    have hx : CtrP (env n0 w0 gl) 38 [.ref (H.length + 4) 0] (H ++ [.cells [.sl b.length (bytesAV b) .ro], .cells [.int .i64 id, .str (cutA (cutN 1 b)), .str (cutA (cutN 2 b)), .sl 0 [] .full, .int .i64 at_, .sl 0 [] .full], .cells [.int .i64 0], .cells [.sl (cutN 4 b).length (bytesAV (cutN 4 b)) .ro], .cells [.fn 35 [] [.ref (H.length + 3) 0]]]) True thrown (H ++ [.cells [.sl b.length (bytesAV b) .ro], .cells [.int .i64 id, .str (cutA (cutN 1 b)), .str (cutA (cutN 2 b)), .sl 0 [] .full, .int .i64 at_, .sl 0 [] .full], .cells [.int .i64 0], .cells [.sl (cutN 5 b).length (bytesAV (cutN 5 b)) .ro], .cells [.fn 35 [] [.ref (H.length + 3) 0]]]) := .of fun _ => by
      have := dnum_bad (n0 := n0) (w0 := w0) (gl := gl) (c := H.length + 3) (d := H.length + 4) (s := cutN 4 b) (H := H ++ [.cells [.sl b.length (bytesAV b) .ro], .cells [.int .i64 id, .str (cutA (cutN 1 b)), .str (cutA (cutN 2 b)), .sl 0 [] .full, .int .i64 at_, .sl 0 [] .full], .cells [.int .i64 0], .cells [.sl (cutN 4 b).length (bytesAV (cutN 4 b)) .ro], .cells [.fn 35 [] [.ref (H.length + 3) 0]]]) (by omega) (by simp) (by simp) c4 q4
      simpa [show cutB (cutN 4 b) = cutN 5 b from rfl] using this
    repeat' (first | refine go ?_ | (refine br (fun hc => ?_) (fun hc => ?_) <;> try (exfalso; omega)) | fail)
    all_goals exact .now (.inr ⟨hno, rfl, _, _, _, _, _, _, _, rfl⟩)
  obtain ⟨n, q4⟩ := q4
  have hx4 : Ctr (env n0 w0 gl) 38 [.ref (H.length + 4) 0] (H ++ [.cells [.sl b.length (bytesAV b) .ro], .cells [.int .i64 id, .str (cutA (cutN 1 b)), .str (cutA (cutN 2 b)), .sl 0 [] .full, .int .i64 at_, .sl 0 [] .full], .cells [.int .i64 0], .cells [.sl (cutN 4 b).length (bytesAV (cutN 4 b)) .ro], .cells [.fn 35 [] [.ref (H.length + 3) 0]]]) True (.int .i64 n) (H ++ [.cells [.sl b.length (bytesAV b) .ro], .cells [.int .i64 id, .str (cutA (cutN 1 b)), .str (cutA (cutN 2 b)), .sl 0 [] .full, .int .i64 at_, .sl 0 [] .full], .cells [.int .i64 0], .cells [.sl (cutN 5 b).length (bytesAV (cutN 5 b)) .ro], .cells [.fn 35 [] [.ref (H.length + 3) 0]]]) := .of fun _ => by
    have := dnum_ok (n0 := n0) (w0 := w0) (gl := gl) (c := H.length + 3) (d := H.length + 4) (s := cutN 4 b) (H := H ++ [.cells [.sl b.length (bytesAV b) .ro], .cells [.int .i64 id, .str (cutA (cutN 1 b)), .str (cutA (cutN 2 b)), .sl 0 [] .full, .int .i64 at_, .sl 0 [] .full], .cells [.int .i64 0], .cells [.sl (cutN 4 b).length (bytesAV (cutN 4 b)) .ro], .cells [.fn 35 [] [.ref (H.length + 3) 0]]]) (by omega) (by simp) (by simp) c4 q4
    simpa [show cutB (cutN 4 b) = cutN 5 b from rfl] using this
  have hnN : ∀ m, DecAt m b → (m.to.length : Int) = n := fun m h => by
    have := h.i4
    rw [q4] at this
    injection this with this
    exact this.symm
  by_cases hn : 1 ≤ n ∧ n ≤ 100
  rotate_left 1
  · have hno : decM b = none := decM_fail fun m h => by
      have h1 := hnN m h
      have h2 := h.n1
      have h3 := h.n2
      omega
    by_cases h1 : 1 ≤ n
    · have h2 : ¬ n ≤ 100 := fun h => hn ⟨h1, h⟩
      repeat' (first | refine go ?_ | (refine br (fun hc => ?_) (fun hc => ?_) <;> try (exfalso; omega)) | fail)
      all_goals exact .now (.inr ⟨hno, rfl, _, _, _, _, _, _, _, rfl⟩)
    · repeat' (first | refine go ?_ | (refine br (fun hc => ?_) (fun hc => ?_) <;> try (exfalso; omega)) | fail)
      all_goals exact .now (.inr ⟨hno, rfl, _, _, _, _, _, _, _, rfl⟩)
  obtain ⟨hn1, hn2⟩ := hn
  obtain ⟨N, rfl⟩ : ∃ N : Nat, n = (N : Int) := ⟨n.toNat, by omega⟩
  have hid := parseIntB_lo q0
  have hat := parseIntB_lo q3
  have ha1 := cutA_len (cutN 1 b)
  have ha2 := cutA_len (cutN 2 b)
  generalize hcls : cutA (cutN 1 b) = cls at *
  generalize hfro : cutA (cutN 2 b) = fro at *
  repeat' (first | refine go ?_ | (refine br (fun hc => ?_) (fun hc => ?_) <;> try (exfalso; omega)) | fail)
  have hgl2 : ∀ i, belowL (H.length + 3) ((env n0 w0 gl).gl i) = true := by simpa using hgl
  have hfit2 : Fit (H.length + 3) H := fun o ho => by have := hfit o (List.mem_append_left _ ho); simpa using this
  refine loop (fun i : List (List UInt8) × List UInt8 => (.ref H.length 0 :: .ref (H.length + 1) 0 :: .ref (H.length + 3) 0 :: .ref (H.length + 4) 0 :: .top :: .top :: .top :: .top :: .top :: .top :: .top :: .top :: .top :: .top :: .top :: .top :: .top :: .top :: .top :: .top :: .top :: .top :: .top :: .top :: .top :: .top :: .top :: .top :: .top :: .top :: .top :: .top :: .top :: .top :: .int .i64 N :: .int .i64 (i.1.length : Int) :: .top :: .top :: .top :: .top :: .top :: .top :: .top :: .top :: .top :: .top :: .top :: .top :: .top :: .top :: .top :: .top :: .top :: .top :: .top :: .top :: .top :: .top :: .top :: .top :: .top :: .top :: .top :: .top :: [])) (fun i => H ++ ([.cells [.sl b.length (bytesAV b) .ro], .cells [.int .i64 id, .str cls, .str fro, rcV i.1 (H.length + 5), .int .i64 at_, .sl 0 [] .full], .cells [.int .i64 0], .cells [.sl i.2.length (bytesAV i.2) .ro], .cells [.fn 35 [] [.ref (H.length + 3) 0]]] ++ rcT i.1))
    (fun i => i.1.length ≤ N ∧ i.2 = cutN (5 + i.1.length) b ∧ i.1 = toL b i.1.length ∧ ∀ j, j < i.1.length → CutOk (cutN (5 + j) b)) (fun i => N - i.1.length) ([], cutN 5 b) ⟨Nat.zero_le _, rfl, rfl, fun j h => absurd h (Nat.not_lt_zero _)⟩ ?_
  rintro ⟨l, s⟩ ⟨hlN, hs, hl, hall⟩
  simp only at hlN hs hl hall ⊢
  have hsl : s.length ≤ 10000 := by rw [hs]; exact Nat.le_trans (hlen _) hb
  have hal := cutA_len s
  by_cases hlt : l.length < N
  · by_cases hc : CutOk s
    rotate_left 1
    · have hno : decM b = none := decM_fail fun m h => by
        have h1 := hnN m h
        have h2 := (h.ct l.length (by omega)).1
        rw [← hs] at h2
        exact hc h2
      rcases l with _ | ⟨x, l⟩
      · simp only [rcV, rcT, List.append_nil, List.length_nil]
        simp only [List.length_nil] at hlt
        have hh := hlt
        have hx : CtrP (env n0 w0 gl) 35 [.ref (H.length + 3) 0] (H ++ [.cells [.sl b.length (bytesAV b) .ro], .cells [.int .i64 id, .str cls, .str fro, .sl 0 [] .full, .int .i64 at_, .sl 0 [] .full], .cells [.int .i64 0], .cells [.sl (s).length (bytesAV (s)) .ro], .cells [.fn 35 [] [.ref (H.length + 3) 0]]]) True thrown (H ++ [.cells [.sl b.length (bytesAV b) .ro], .cells [.int .i64 id, .str cls, .str fro, .sl 0 [] .full, .int .i64 at_, .sl 0 [] .full], .cells [.int .i64 0], .cells [.sl (s).length (bytesAV (s)) .ro], .cells [.fn 35 [] [.ref (H.length + 3) 0]]]) := .of fun _ =>
          dtext_bad (n0 := n0) (w0 := w0) (gl := gl) (c := H.length + 3) (s := s) (H := H ++ [.cells [.sl b.length (bytesAV b) .ro], .cells [.int .i64 id, .str cls, .str fro, .sl 0 [] .full, .int .i64 at_, .sl 0 [] .full], .cells [.int .i64 0], .cells [.sl (s).length (bytesAV (s)) .ro], .cells [.fn 35 [] [.ref (H.length + 3) 0]]]) (by omega) (by simp) hc
        refine gos ?_
        refine wseq_normal ?_
        refine gos ?_
        refine wseq_normal ?_
        refine w_seq ?_
        refine w_block ?_
        refine w_drawnP (fun X => X[H.length + 1]? = some (.cells [.int .i64 id, .str cls, .str fro, .sl 0 [] .full, .int .i64 at_, .sl 0 [] .full]) ∧ X[H.length + 4]? = some (.cells [.fn 35 [] [.ref (H.length + 3) 0]])) (by intro _ h; cases h) (by simp only [List.length_cons, List.length_nil, Nat.reduceAdd]; exact rfl) ?_
        refine goP ?_
        refine panP ?_
        intro ts
        repeat' (first | refine go ?_ | (refine br (fun hc => ?_) (fun hc => ?_) <;> try (exfalso; omega)) | fail)
        all_goals exact .now (.inr ⟨hno, rfl, _, _, _, _, _, _, _, rfl⟩)
      · simp only [rcV, rcT, List.cons_append, List.nil_append, List.length_cons]
        simp only [List.length_cons] at hlt
        have hh := hlt
        have hx : CtrP (env n0 w0 gl) 35 [.ref (H.length + 3) 0] (H ++ [.cells [.sl b.length (bytesAV b) .ro], .cells [.int .i64 id, .str cls, .str fro, .sl (l.length + 1) ((x :: l).map .str) (.at (H.length + 5) (l.length + 1)), .int .i64 at_, .sl 0 [] .full], .cells [.int .i64 0], .cells [.sl (s).length (bytesAV (s)) .ro], .cells [.fn 35 [] [.ref (H.length + 3) 0]], .tail 1 (l.length + 1)]) True thrown (H ++ [.cells [.sl b.length (bytesAV b) .ro], .cells [.int .i64 id, .str cls, .str fro, .sl (l.length + 1) ((x :: l).map .str) (.at (H.length + 5) (l.length + 1)), .int .i64 at_, .sl 0 [] .full], .cells [.int .i64 0], .cells [.sl (s).length (bytesAV (s)) .ro], .cells [.fn 35 [] [.ref (H.length + 3) 0]], .tail 1 (l.length + 1)]) := .of fun _ =>
          dtext_bad (n0 := n0) (w0 := w0) (gl := gl) (c := H.length + 3) (s := s) (H := H ++ [.cells [.sl b.length (bytesAV b) .ro], .cells [.int .i64 id, .str cls, .str fro, .sl (l.length + 1) ((x :: l).map .str) (.at (H.length + 5) (l.length + 1)), .int .i64 at_, .sl 0 [] .full], .cells [.int .i64 0], .cells [.sl (s).length (bytesAV (s)) .ro], .cells [.fn 35 [] [.ref (H.length + 3) 0]], .tail 1 (l.length + 1)]) (by omega) (by simp) hc
        refine gos ?_
        refine wseq_normal ?_
        refine gos ?_
        refine wseq_normal ?_
        refine w_seq ?_
        refine w_block ?_
        refine w_drawnP (fun X => X[H.length + 1]? = some (.cells [.int .i64 id, .str cls, .str fro, .sl (l.length + 1) ((x :: l).map .str) (.at (H.length + 5) (l.length + 1)), .int .i64 at_, .sl 0 [] .full]) ∧ X[H.length + 4]? = some (.cells [.fn 35 [] [.ref (H.length + 3) 0]])) (by intro _ h; cases h) (by simp only [List.length_cons, List.length_nil, Nat.reduceAdd]; exact rfl) ?_
        refine goP ?_
        refine panP ?_
        intro ts
        repeat' (first | refine go ?_ | (refine br (fun hc => ?_) (fun hc => ?_) <;> try (exfalso; omega)) | fail)
        all_goals exact .now (.inr ⟨hno, rfl, _, _, _, _, _, _, _, rfl⟩)
    have hts : l ++ [cutA s] = toL b (l.length + 1) := by rw [toL_succ, ← hl, hs]
    have hs2 : cutB s = cutN (5 + (l.length + 1)) b := by rw [hs]; rfl
    have hall2 : ∀ j, j < l.length + 1 → CutOk (cutN (5 + j) b) := fun j hj => by
      rcases Nat.lt_succ_iff_lt_or_eq.1 hj with h | h
      · exact hall j h
      · subst h; rw [← hs]; exact hc
    rcases l with _ | ⟨x, l⟩
    · simp only [rcV, rcT, List.append_nil, List.length_nil]
      simp only [List.length_nil] at hlt
      have hh := hlt
      have hx : Ctr (env n0 w0 gl) 35 [.ref (H.length + 3) 0] (H ++ [.cells [.sl b.length (bytesAV b) .ro], .cells [.int .i64 id, .str cls, .str fro, .sl 0 [] .full, .int .i64 at_, .sl 0 [] .full], .cells [.int .i64 0], .cells [.sl (s).length (bytesAV (s)) .ro], .cells [.fn 35 [] [.ref (H.length + 3) 0]]]) True (.str (cutA s)) (H ++ [.cells [.sl b.length (bytesAV b) .ro], .cells [.int .i64 id, .str cls, .str fro, .sl 0 [] .full, .int .i64 at_, .sl 0 [] .full], .cells [.int .i64 0], .cells [.sl (cutB s).length (bytesAV (cutB s)) .ro], .cells [.fn 35 [] [.ref (H.length + 3) 0]]]) := .of fun _ => by
        have := dtext_ok (n0 := n0) (w0 := w0) (gl := gl) (c := H.length + 3) (s := s) (H := H ++ [.cells [.sl b.length (bytesAV b) .ro], .cells [.int .i64 id, .str cls, .str fro, .sl 0 [] .full, .int .i64 at_, .sl 0 [] .full], .cells [.int .i64 0], .cells [.sl (s).length (bytesAV (s)) .ro], .cells [.fn 35 [] [.ref (H.length + 3) 0]]]) (by omega) (by simp) hc
        simpa using this
      refine gos ?_
      refine wseq_normal ?_
      refine gos ?_
      refine wseq_normal ?_
      refine w_seq ?_
      refine w_block ?_
      refine w_drawnP (fun X => X[H.length + 1]? = some (.cells [.int .i64 id, .str cls, .str fro, .sl 0 [] .full, .int .i64 at_, .sl 0 [] .full]) ∧ X[H.length + 4]? = some (.cells [.fn 35 [] [.ref (H.length + 3) 0]])) (by intro _ h; cases h) (by simp only [List.length_cons, List.length_nil, Nat.reduceAdd]; exact rfl) ?_
      refine goP ?_
      repeat' (first | refine go ?_ | (refine br (fun hc => ?_) (fun hc => ?_) <;> try (exfalso; omega)) | fail)
      exact again ([cutA s], cutB s) ⟨by simp; omega, hs2, hts, hall2⟩ (by simp; omega)
    · simp only [rcV, rcT, List.cons_append, List.nil_append, List.length_cons]
      simp only [List.length_cons] at hlt hlN
      have hx : Ctr (env n0 w0 gl) 35 [.ref (H.length + 3) 0] (H ++ [.cells [.sl b.length (bytesAV b) .ro], .cells [.int .i64 id, .str cls, .str fro, .sl (l.length + 1) ((x :: l).map .str) (.at (H.length + 5) (l.length + 1)), .int .i64 at_, .sl 0 [] .full], .cells [.int .i64 0], .cells [.sl (s).length (bytesAV (s)) .ro], .cells [.fn 35 [] [.ref (H.length + 3) 0]], .tail 1 (l.length + 1)]) True (.str (cutA s)) (H ++ [.cells [.sl b.length (bytesAV b) .ro], .cells [.int .i64 id, .str cls, .str fro, .sl (l.length + 1) ((x :: l).map .str) (.at (H.length + 5) (l.length + 1)), .int .i64 at_, .sl 0 [] .full], .cells [.int .i64 0], .cells [.sl (cutB s).length (bytesAV (cutB s)) .ro], .cells [.fn 35 [] [.ref (H.length + 3) 0]], .tail 1 (l.length + 1)]) := .of fun _ => by
        have := dtext_ok (n0 := n0) (w0 := w0) (gl := gl) (c := H.length + 3) (s := s) (H := H ++ [.cells [.sl b.length (bytesAV b) .ro], .cells [.int .i64 id, .str cls, .str fro, .sl (l.length + 1) ((x :: l).map .str) (.at (H.length + 5) (l.length + 1)), .int .i64 at_, .sl 0 [] .full], .cells [.int .i64 0], .cells [.sl (s).length (bytesAV (s)) .ro], .cells [.fn 35 [] [.ref (H.length + 3) 0]], .tail 1 (l.length + 1)]) (by omega) (by simp) hc
        simpa using this
      have hml : (l.map AV.str).length = l.length := List.length_map ..
      have hh := And.intro hml hlt
      refine gos ?_
      refine wseq_normal ?_
      refine gos ?_
      refine wseq_normal ?_
      refine w_seq ?_
      refine w_block ?_
      refine w_drawnP (fun X => X[H.length + 1]? = some (.cells [.int .i64 id, .str cls, .str fro, .sl (l.length + 1) ((x :: l).map .str) (.at (H.length + 5) (l.length + 1)), .int .i64 at_, .sl 0 [] .full]) ∧ X[H.length + 4]? = some (.cells [.fn 35 [] [.ref (H.length + 3) 0]])) (by intro _ h; cases h) (by simp only [List.length_cons, List.length_nil, Nat.reduceAdd]; exact rfl) ?_
      refine goP ?_
      repeat' (first | refine go ?_ | (refine br (fun hc => ?_) (fun hc => ?_) <;> try (exfalso; omega)) | fail)
      have hle : (x :: (l ++ [cutA s])).length = (x :: l).length + 1 := by simp
      rw [show (((l.length + 1 : Nat) : Int) + 1) = (((x :: (l ++ [cutA s])).length : Nat) : Int) by rw [hle]; simp]
      refine againJ (x :: (l ++ [cutA s]), cutB s) ⟨by simp only; rw [hle]; simp only [List.length_cons]; omega, by simp only; rw [hle]; exact hs2, by simp only; rw [hle]; exact hts, by simp only; rw [hle]; exact hall2⟩ (by simp only; rw [hle]; simp only [List.length_cons]; omega) [] ?_
      simp
  have hN : N = l.length := by omega
  simp only [List.cons_append, List.nil_append]
  refine gos ?_
  refine wseq_normal ?_
  refine gos ?_
  refine wseq_shift (Shift.cells (H.length + 1) (xs := [.int .i64 id, .str cls, .str fro, rcV l (H.length + 5), .int .i64 at_, .sl 0 [] .full]) (ys := [.int .i64 id, .str cls, .str fro, .sl l.length (l.map .str) .ro, .int .i64 at_, .sl 0 [] .full]) (by simp) rfl (fun g k c q => by
    match k, q with
    | 0, q => exact q
    | 1, q => exact q
    | 2, q => exact q
    | 3, q => exact rcV_ro q
    | 4, q => exact q
    | 5, q => exact q
    | k + 6, q => exact q)) ?_
  rw [show ∀ (x y b0 : AO) (z : List AO), (H ++ b0 :: x :: z).set (H.length + 1) y = H ++ b0 :: y :: z from fun _ _ _ _ => by simp]
  by_cases hc : CutOk s
  rotate_left 1
  · have hno : decM b = none := decM_fail fun m h => by
      have h1 := hnN m h
      have h2 := h.cb
      rw [show m.to.length = l.length by omega, ← hs] at h2
      exact hc h2
    have hx : CtrP (env n0 w0 gl) 35 [.ref (H.length + 3) 0] (H ++ .cells [.sl b.length (bytesAV b) .ro] :: .cells [.int .i64 id, .str cls, .str fro, .sl l.length (l.map .str) .ro, .int .i64 at_, .sl 0 [] .full] :: .cells [.int .i64 0] :: .cells [.sl (s).length (bytesAV (s)) .ro] :: .cells [.fn 35 [] [.ref (H.length + 3) 0]] :: rcT l) True thrown (H ++ .cells [.sl b.length (bytesAV b) .ro] :: .cells [.int .i64 id, .str cls, .str fro, .sl l.length (l.map .str) .ro, .int .i64 at_, .sl 0 [] .full] :: .cells [.int .i64 0] :: .cells [.sl (s).length (bytesAV (s)) .ro] :: .cells [.fn 35 [] [.ref (H.length + 3) 0]] :: rcT l) := .of fun _ =>
      dtext_bad (n0 := n0) (w0 := w0) (gl := gl) (c := H.length + 3) (s := s) (H := H ++ .cells [.sl b.length (bytesAV b) .ro] :: .cells [.int .i64 id, .str cls, .str fro, .sl l.length (l.map .str) .ro, .int .i64 at_, .sl 0 [] .full] :: .cells [.int .i64 0] :: .cells [.sl (s).length (bytesAV (s)) .ro] :: .cells [.fn 35 [] [.ref (H.length + 3) 0]] :: rcT l) (by omega) (by simp) hc
    repeat' (first | refine go ?_ | (refine br (fun hc => ?_) (fun hc => ?_) <;> try (exfalso; omega)) | fail)
    all_goals exact .now (.inr ⟨hno, rfl, _, _, _, _, _, _, _, rfl⟩)
  have hx : Ctr (env n0 w0 gl) 35 [.ref (H.length + 3) 0] (H ++ .cells [.sl b.length (bytesAV b) .ro] :: .cells [.int .i64 id, .str cls, .str fro, .sl l.length (l.map .str) .ro, .int .i64 at_, .sl 0 [] .full] :: .cells [.int .i64 0] :: .cells [.sl (s).length (bytesAV (s)) .ro] :: .cells [.fn 35 [] [.ref (H.length + 3) 0]] :: rcT l) True (.str (cutA s)) (H ++ .cells [.sl b.length (bytesAV b) .ro] :: .cells [.int .i64 id, .str cls, .str fro, .sl l.length (l.map .str) .ro, .int .i64 at_, .sl 0 [] .full] :: .cells [.int .i64 0] :: .cells [.sl (cutB s).length (bytesAV (cutB s)) .ro] :: .cells [.fn 35 [] [.ref (H.length + 3) 0]] :: rcT l) := .of fun _ => by
    have := dtext_ok (n0 := n0) (w0 := w0) (gl := gl) (c := H.length + 3) (s := s) (H := H ++ .cells [.sl b.length (bytesAV b) .ro] :: .cells [.int .i64 id, .str cls, .str fro, .sl l.length (l.map .str) .ro, .int .i64 at_, .sl 0 [] .full] :: .cells [.int .i64 0] :: .cells [.sl (s).length (bytesAV (s)) .ro] :: .cells [.fn 35 [] [.ref (H.length + 3) 0]] :: rcT l) (by omega) (by simp) hc
    simpa using this
  have hget : ∀ i, i < l.length → CutOk (cutN (5 + i) b) ∧ cutA (cutN (5 + i) b) = l.getD i [] := fun i hi => ⟨hall i hi, by rw [hl, toL_at hi]⟩
  have hgl3 : ∀ i, i < l.length → (l.getD i []).length ≤ 10000 := fun i hi => by
    rw [← (hget i hi).2]
    exact Nat.le_trans (cutA_len _) (Nat.le_trans (hlen _) hb)
  generalize hbody : cutA s = body at *
  have hS : (Msg.mk id cls fro l at_ body).Small := ⟨hat.2, by simp only; omega, fun i hi => Nat.le_trans (hgl3 i hi) (by omega), by simp only; omega, by simp only; omega⟩
  have hD : DecAt (Msg.mk id cls fro l at_ body) b := ⟨c0, q0, c1, hcls, c2, hfro, c3, q3, c4, by rw [q4, hN], by simp only; omega, by simp only; omega, hget, by simp only; rw [← hs]; exact hc, by simp only; rw [← hs]; exact hbody⟩
  have hml : (l.map AV.str).length = l.length := List.length_map ..
  by_cases hE : (Msg.mk id cls fro l at_ body).EncOk
  · have hen : ∀ H, Ctr (env n0 w0 gl) 40 [.agg [.int .i64 id, .str cls, .str fro, .sl l.length (l.map .str) .ro, .int .i64 at_, .sl body.length (bytesAV body) .ro]] H True (.tup [.sl (Msg.mk id cls fro l at_ body).enc.length (bytesAV (Msg.mk id cls fro l at_ body).enc) .ro, .int .i64 0]) H := fun H => .of fun _ => encode_ok (n0 := n0) (w0 := w0) (gl := gl) (H := H) _ hS hE
    by_cases hq : (Msg.mk id cls fro l at_ body).enc = b
    · have hM := decM_some hS hE hq
      have heq : ∀ H tok tok2, Ctr (env n0 w0 gl) 41 [.sl (Msg.mk id cls fro l at_ body).enc.length (bytesAV (Msg.mk id cls fro l at_ body).enc) tok, .sl b.length (bytesAV b) tok2] H True (.bool true) H := fun H tok tok2 => ⟨fun _ => by
        have := (equal_t (n0 := n0) (w0 := w0) (gl := gl) (H := H) (Msg.mk id cls fro l at_ body).enc b tok tok2).call trivial
        rwa [show ((Msg.mk id cls fro l at_ body).enc == b) = true by simp [hq]] at this⟩
      generalize (Msg.mk id cls fro l at_ body).enc = en at hen heq
      have hh := hml
      repeat' (first | refine go ?_ | (refine br (fun hc => ?_) (fun hc => ?_) <;> try (exfalso; omega)) | fail)
      rw [show ∀ (a0 a1 a2 a3 a4 : AO) (z : List AO), H ++ a0 :: a1 :: a2 :: a3 :: a4 :: z = (H ++ [a0, a1, a2]) ++ (a3 :: a4 :: z) from fun _ _ _ _ _ _ => by simp]
      exact .junkd (.inl ⟨_, hM, rfl, rfl⟩)
    · have hno : decM b = none := decM_none fun m k1 k2 k3 => by
        have := dec_inj (dec_at k1 k2 k3) hD
        rw [this] at k3
        exact hq k3
      have heq : ∀ H tok tok2, Ctr (env n0 w0 gl) 41 [.sl (Msg.mk id cls fro l at_ body).enc.length (bytesAV (Msg.mk id cls fro l at_ body).enc) tok, .sl b.length (bytesAV b) tok2] H True (.bool false) H := fun H tok tok2 => ⟨fun _ => by
        have := (equal_t (n0 := n0) (w0 := w0) (gl := gl) (H := H) (Msg.mk id cls fro l at_ body).enc b tok tok2).call trivial
        rwa [show ((Msg.mk id cls fro l at_ body).enc == b) = false by simp [hq]] at this⟩
      generalize (Msg.mk id cls fro l at_ body).enc = en at hen heq
      have hh := hml
      repeat' (first | refine go ?_ | (refine br (fun hc => ?_) (fun hc => ?_) <;> try (exfalso; omega)) | fail)
      all_goals exact .now (.inr ⟨hno, rfl, _, _, _, _, _, _, _, rfl⟩)
  · have hno : decM b = none := decM_none fun m k1 k2 k3 => by
      have := dec_inj (dec_at k1 k2 k3) hD
      rw [this] at k2
      exact hE k2
    have hen : ∀ H, Ctr (env n0 w0 gl) 40 [.agg [.int .i64 id, .str cls, .str fro, .sl l.length (l.map .str) .ro, .int .i64 at_, .sl body.length (bytesAV body) .ro]] H True (.tup [.sl 0 [] .full, .int .i64 150]) H := fun H => .of fun _ => encode_bad (n0 := n0) (w0 := w0) (gl := gl) (H := H) _ hS hE
    have hh := hml
    repeat' (first | refine go ?_ | (refine br (fun hc => ?_) (fun hc => ?_) <;> try (exfalso; omega)) | fail)
    all_goals exact .now (.inr ⟨hno, rfl, _, _, _, _, _, _, _, rfl⟩)


end Go.Ab.Tryd
