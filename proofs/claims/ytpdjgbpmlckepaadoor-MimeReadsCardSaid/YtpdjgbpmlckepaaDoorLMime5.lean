/- Walks: a report taken apart. Printed by mkMime5.py. -/
import Derived.Test.YtpdjgbpmlckepaaDoorLMime4
set_option linter.unusedSimpArgs false
set_option linter.unusedVariables false
set_option maxHeartbeats 8000000
set_option maxRecDepth 4000
namespace Go.Ab.Tryd
open Go Go.Ab Go.Proofs
attribute [local irreducible] W Wl Wop TrA WSeq WLoopS FPost DPost RPost WRound DK onEnd
attribute [local simp] belowL_bytesAV belowL_strsM belowL_appM
variable {n0 : Nat} {w0 : World} {gl : Nat → List AV} {H : List AO}

/-- A list of texts that grows; what stands behind it. -/
def rcV (l : List (List UInt8)) (id : Nat) : AV := match l with
  | [] => .sl 0 [] .full
  | x :: l => .sl (x :: l).length ((x :: l).map .str) (.at id (x :: l).length)
def rcT (l : List (List UInt8)) : List AO := match l with
  | [] => []
  | x :: l => [.tail 1 (x :: l).length]
theorem rcV_ro {g : Ghost} {l : List (List UInt8)} {id : Nat} {c : Value} (h : VRel g (rcV l id) c) : VRel g (.sl l.length (l.map .str) .ro) c := by
  cases l with
  | nil => exact sl_ro g c h
  | cons x l => exact sl_ro g c h
theorem lineA_bad {s : List UInt8} (h : ¬ LineOk s) : lineA s = [] := by
  unfold LineOk at h
  unfold lineA
  cases hc : crlfAt s with
  | none => rfl
  | some p => exact absurd (by rw [hc]; simp) h
theorem pIntV_bad {s : List UInt8} (h : ¬ ∃ a, Lib.parseIntB 64 s = .ok a) : ∃ n, pIntV s = .tup [.int .i64 n, .iface 163 .top] := by
  unfold pIntV
  rcases hq : Lib.parseIntB 64 s with a | _ | _
  · exact absurd ⟨a, hq⟩ h
  · exact ⟨_, rfl⟩
  · exact ⟨_, rfl⟩

theorem mread1_t [ht : Tab10 n0 w0] [hml : GLInt gl 0] [he : Errs n0 w0] (r : List UInt8) (hr : r.length ≤ 10000) :
    AEnter (env n0 w0 gl) 47 [.ref H.length 0, .ref (H.length + 1) 0, .ref (H.length + 2) 0] (H ++ [.cells [.sl r.length (bytesAV r) .ro], .cells [.str [], .sl 0 [] .full, .int .i64 0], .cells [.sl 0 [] .full], .cells [.int .i64 0]])
      (fun y H' => (∃ a, RdOk r a ∧ y = .ret (.tup []) ∧ H' = H ++ [.cells [.sl r.length (bytesAV r) .ro], .cells [.str (rdFro r), .sl (rdTo r).length ((rdTo r).map .str) .ro, .int .i64 a], .cells [.sl (rdBody r a).length (bytesAV (rdBody r a)) .ro], .cells [.int .i64 0]]) ∨
        ((∀ a, ¬ RdOk r a) ∧ y = .panic (thrown11 110) ∧ ∃ x1 x2 x3 x4 z, H' = H ++ .cells [.sl r.length (bytesAV r) .ro] :: .cells [x1, x2, x3] :: .cells [x4] :: .cells [.int .i64 0] :: z)) := by
  have hrl := fun k => restN_len k r
  refine enter (md := fun _ => 0) Tryd.func47 (fun hfit hgl => ?_)
  have hgl2 : ∀ i, belowL (H.length + 4) ((env n0 w0 gl).gl i) = true := by simpa using hgl
  have hfit2 : Fit (H.length + 4) H := fun o ho => by have := hfit o (List.mem_append_left _ ho); simpa using this
  have hr0 : (restN 0 r).length ≤ 10000 := hr
  have hr1 : (restN 1 r).length ≤ 10000 := Nat.le_trans (hrl 1) hr
  have hr2 : (restN 2 r).length ≤ 10000 := Nat.le_trans (hrl 2) hr
  have hr3 : (restN 3 r).length ≤ 10000 := Nat.le_trans (hrl 3) hr
  have hr4 : (restN 4 r).length ≤ 10000 := Nat.le_trans (hrl 4) hr
  have hr5 : (restN 5 r).length ≤ 10000 := Nat.le_trans (hrl 5) hr
  have hr6 : (restN 6 r).length ≤ 10000 := Nat.le_trans (hrl 6) hr
  have hr7 : (restN 7 r).length ≤ 10000 := Nat.le_trans (hrl 7) hr
  have hr8 : (restN 8 r).length ≤ 10000 := Nat.le_trans (hrl 8) hr
  have e0 : r = restN 0 r := rfl
  simp only [List.length_append, List.length_cons, List.length_nil, Nat.zero_add, Nat.reduceAdd]
  repeat' (first | refine go ?_ | (refine br (fun hc => ?_) (fun hc => ?_) <;> try (exfalso; omega)) | fail)
  try rw [show (AO.cells [.str r]) = .cells [.str (restN 0 r)] from rfl]
  by_cases hL0 : LineOk (restN 0 r)
  rotate_left 1
  · have hL := hL0
    have hx0 : CtrP (env n0 w0 gl) 51 [.str [], .ref (H.length + 5) 0] (H ++ [.cells [.sl r.length (bytesAV r) .ro], .cells [.str [], .sl 0 [] .full, .int .i64 0], .cells [.sl 0 [] .full], .cells [.int .i64 0], .cells [.str (restN 0 r)], .cells [.fn 48 [] [.ref (H.length + 4) 0]]]) True (thrown11 110) (H ++ [.cells [.sl r.length (bytesAV r) .ro], .cells [.str [], .sl 0 [] .full, .int .i64 0], .cells [.sl 0 [] .full], .cells [.int .i64 0], .cells [.str (restN 0 r)], .cells [.fn 48 [] [.ref (H.length + 4) 0]]]) := .of fun _ =>
      field_bad (n0 := n0) (w0 := w0) (gl := gl) (c := H.length + 4) (d := H.length + 5) (p := []) (s := restN 0 r) (H := H ++ [.cells [.sl r.length (bytesAV r) .ro], .cells [.str [], .sl 0 [] .full, .int .i64 0], .cells [.sl 0 [] .full], .cells [.int .i64 0], .cells [.str (restN 0 r)], .cells [.fn 48 [] [.ref (H.length + 4) 0]]]) (by omega) (by simp) (by simp) hL
    repeat' (first | refine go ?_ | (refine br (fun hc => ?_) (fun hc => ?_) <;> try (exfalso; omega)) | fail)
    all_goals exact .now (.inr ⟨fun a h => hL0 h.1.1, rfl, _, _, _, _, _, rfl⟩)
  have hL := hL0
  have hP0 : tf (PrefOk [] (lineA (restN 0 r))) = true := tf_true ⟨Nat.zero_le _, rfl⟩
  have hx0 : Ctr (env n0 w0 gl) 51 [.str [], .ref (H.length + 5) 0] (H ++ [.cells [.sl r.length (bytesAV r) .ro], .cells [.str [], .sl 0 [] .full, .int .i64 0], .cells [.sl 0 [] .full], .cells [.int .i64 0], .cells [.str (restN 0 r)], .cells [.fn 48 [] [.ref (H.length + 4) 0]]]) True (.tup [.str (prefA [] (lineA (restN 0 r))), .bool true]) (H ++ [.cells [.sl r.length (bytesAV r) .ro], .cells [.str [], .sl 0 [] .full, .int .i64 0], .cells [.sl 0 [] .full], .cells [.int .i64 0], .cells [.str (restN 1 r)], .cells [.fn 48 [] [.ref (H.length + 4) 0]]]) := .of fun _ => by
    have := field_ok (n0 := n0) (w0 := w0) (gl := gl) (c := H.length + 4) (d := H.length + 5) (p := []) (s := restN 0 r) (H := H ++ [.cells [.sl r.length (bytesAV r) .ro], .cells [.str [], .sl 0 [] .full, .int .i64 0], .cells [.sl 0 [] .full], .cells [.int .i64 0], .cells [.str (restN 0 r)], .cells [.fn 48 [] [.ref (H.length + 4) 0]]]) (by decide) (by omega) (by simp) (by simp) hL
    rw [hP0] at this
    simpa [show lineB (restN 0 r) = restN 1 r from rfl, show ([] : List UInt8) = [] from rfl] using this
  repeat' (first | refine go ?_ | (refine br (fun hc => ?_) (fun hc => ?_) <;> try (exfalso; omega)) | fail)
  by_cases hL1 : LineOk (restN 1 r)
  rotate_left 1
  · have hL := hL1
    have hx1 : CtrP (env n0 w0 gl) 51 [.str [67, 111, 110, 116, 101, 110, 116, 45, 84, 121, 112, 101, 58, 32, 109, 117, 108, 116, 105, 112, 97, 114, 116, 47, 109, 105, 120, 101, 100, 59, 32, 98, 111, 117, 110, 100, 97, 114, 121, 61], .ref (H.length + 5) 0] (H ++ [.cells [.sl r.length (bytesAV r) .ro], .cells [.str [], .sl 0 [] .full, .int .i64 0], .cells [.sl 0 [] .full], .cells [.int .i64 0], .cells [.str (restN 1 r)], .cells [.fn 48 [] [.ref (H.length + 4) 0]]]) True (thrown11 110) (H ++ [.cells [.sl r.length (bytesAV r) .ro], .cells [.str [], .sl 0 [] .full, .int .i64 0], .cells [.sl 0 [] .full], .cells [.int .i64 0], .cells [.str (restN 1 r)], .cells [.fn 48 [] [.ref (H.length + 4) 0]]]) := .of fun _ =>
      field_bad (n0 := n0) (w0 := w0) (gl := gl) (c := H.length + 4) (d := H.length + 5) (p := [67, 111, 110, 116, 101, 110, 116, 45, 84, 121, 112, 101, 58, 32, 109, 117, 108, 116, 105, 112, 97, 114, 116, 47, 109, 105, 120, 101, 100, 59, 32, 98, 111, 117, 110, 100, 97, 114, 121, 61]) (s := restN 1 r) (H := H ++ [.cells [.sl r.length (bytesAV r) .ro], .cells [.str [], .sl 0 [] .full, .int .i64 0], .cells [.sl 0 [] .full], .cells [.int .i64 0], .cells [.str (restN 1 r)], .cells [.fn 48 [] [.ref (H.length + 4) 0]]]) (by omega) (by simp) (by simp) hL
    repeat' (first | refine go ?_ | (refine br (fun hc => ?_) (fun hc => ?_) <;> try (exfalso; omega)) | fail)
    all_goals exact .now (.inr ⟨fun a h => hL1 h.1.2.1.1, rfl, _, _, _, _, _, rfl⟩)
  by_cases hP1 : PrefOk ctB (lineA (restN 1 r))
  rotate_left 1
  · have hL := hL1
    have hP := tf_false hP1
    have hx1 : Ctr (env n0 w0 gl) 51 [.str [67, 111, 110, 116, 101, 110, 116, 45, 84, 121, 112, 101, 58, 32, 109, 117, 108, 116, 105, 112, 97, 114, 116, 47, 109, 105, 120, 101, 100, 59, 32, 98, 111, 117, 110, 100, 97, 114, 121, 61], .ref (H.length + 5) 0] (H ++ [.cells [.sl r.length (bytesAV r) .ro], .cells [.str [], .sl 0 [] .full, .int .i64 0], .cells [.sl 0 [] .full], .cells [.int .i64 0], .cells [.str (restN 1 r)], .cells [.fn 48 [] [.ref (H.length + 4) 0]]]) True (.tup [.str (prefA ctB (lineA (restN 1 r))), .bool false]) (H ++ [.cells [.sl r.length (bytesAV r) .ro], .cells [.str [], .sl 0 [] .full, .int .i64 0], .cells [.sl 0 [] .full], .cells [.int .i64 0], .cells [.str (restN 2 r)], .cells [.fn 48 [] [.ref (H.length + 4) 0]]]) := .of fun _ => by
      have := field_ok (n0 := n0) (w0 := w0) (gl := gl) (c := H.length + 4) (d := H.length + 5) (p := ctB) (s := restN 1 r) (H := H ++ [.cells [.sl r.length (bytesAV r) .ro], .cells [.str [], .sl 0 [] .full, .int .i64 0], .cells [.sl 0 [] .full], .cells [.int .i64 0], .cells [.str (restN 1 r)], .cells [.fn 48 [] [.ref (H.length + 4) 0]]]) (by decide) (by omega) (by simp) (by simp) hL
      rw [hP] at this
      simpa [show lineB (restN 1 r) = restN 2 r from rfl, show (ctB : List UInt8) = [67, 111, 110, 116, 101, 110, 116, 45, 84, 121, 112, 101, 58, 32, 109, 117, 108, 116, 105, 112, 97, 114, 116, 47, 109, 105, 120, 101, 100, 59, 32, 98, 111, 117, 110, 100, 97, 114, 121, 61] from rfl] using this
    repeat' (first | refine go ?_ | (refine br (fun hc => ?_) (fun hc => ?_) <;> try (exfalso; omega)) | fail)
    all_goals exact .now (.inr ⟨fun a h => hP1 h.1.2.1.2, rfl, _, _, _, _, _, rfl⟩)
  have hL := hL1
  have hP := tf_true hP1
  have hx1 : Ctr (env n0 w0 gl) 51 [.str [67, 111, 110, 116, 101, 110, 116, 45, 84, 121, 112, 101, 58, 32, 109, 117, 108, 116, 105, 112, 97, 114, 116, 47, 109, 105, 120, 101, 100, 59, 32, 98, 111, 117, 110, 100, 97, 114, 121, 61], .ref (H.length + 5) 0] (H ++ [.cells [.sl r.length (bytesAV r) .ro], .cells [.str [], .sl 0 [] .full, .int .i64 0], .cells [.sl 0 [] .full], .cells [.int .i64 0], .cells [.str (restN 1 r)], .cells [.fn 48 [] [.ref (H.length + 4) 0]]]) True (.tup [.str (prefA ctB (lineA (restN 1 r))), .bool true]) (H ++ [.cells [.sl r.length (bytesAV r) .ro], .cells [.str [], .sl 0 [] .full, .int .i64 0], .cells [.sl 0 [] .full], .cells [.int .i64 0], .cells [.str (restN 2 r)], .cells [.fn 48 [] [.ref (H.length + 4) 0]]]) := .of fun _ => by
    have := field_ok (n0 := n0) (w0 := w0) (gl := gl) (c := H.length + 4) (d := H.length + 5) (p := ctB) (s := restN 1 r) (H := H ++ [.cells [.sl r.length (bytesAV r) .ro], .cells [.str [], .sl 0 [] .full, .int .i64 0], .cells [.sl 0 [] .full], .cells [.int .i64 0], .cells [.str (restN 1 r)], .cells [.fn 48 [] [.ref (H.length + 4) 0]]]) (by decide) (by omega) (by simp) (by simp) hL
    rw [hP] at this
    simpa [show lineB (restN 1 r) = restN 2 r from rfl, show (ctB : List UInt8) = [67, 111, 110, 116, 101, 110, 116, 45, 84, 121, 112, 101, 58, 32, 109, 117, 108, 116, 105, 112, 97, 114, 116, 47, 109, 105, 120, 101, 100, 59, 32, 98, 111, 117, 110, 100, 97, 114, 121, 61] from rfl] using this
  repeat' (first | refine go ?_ | (refine br (fun hc => ?_) (fun hc => ?_) <;> try (exfalso; omega)) | fail)
  rw [show prefA ctB (lineA (restN 1 r)) = rdN r from rfl]
  refine loop (fun i : Nat => (.ref H.length 0 :: .ref (H.length + 1) 0 :: .ref (H.length + 2) 0 :: .ref (H.length + 4) 0 :: .ref (H.length + 5) 0 :: .fn 51 [] [.ref (H.length + 5) 0] :: .str (rdN r) :: .top :: .top :: .top :: .top :: .top :: .top :: .top :: .top :: .top :: .top :: .top :: .top :: .top :: .top :: .top :: .top :: .top :: .top :: .top :: .top :: .top :: .top :: .top :: .int .i64 (i : Int) :: .top :: .top :: .top :: .top :: .top :: .top :: .top :: .top :: .top :: .top :: .top :: .top :: .top :: .top :: .top :: .top :: .top :: .top :: .top :: .top :: .top :: .top :: .top :: .top :: .top :: .top :: .top :: .top :: .top :: .top :: .top :: .top :: .top :: .top :: .top :: .top :: .top :: .top :: .top :: .top :: .top :: .top :: .top :: .top :: .top :: .top :: .top :: .top :: .top :: .top :: .top :: .top :: .top :: .top :: .top :: .top :: .top :: .top :: .top :: .top :: .top :: .top :: .top :: .top :: .top :: .top :: .top :: .top :: .top :: .top :: .top :: .top :: .top :: .top :: .top :: .top :: .top :: .top :: .top :: .top :: .top :: .top :: .top :: .top :: .top :: .top :: .top :: [])) (fun i => H ++ [.cells [.sl r.length (bytesAV r) .ro], .cells [.str [], .sl 0 [] .full, .int .i64 0], .cells [.sl 0 [] .full], .cells [.int .i64 0], .cells [.str (restN (i + 2) r)], .cells [.fn 48 [] [.ref (H.length + 4) 0]]]) (fun i => i ≤ 4 ∧ ∀ j, j < i → LineOk (restN (j + 2) r)) (fun i => 4 - i) 0 ⟨Nat.zero_le _, fun j h => absurd h (Nat.not_lt_zero _)⟩ ?_
  rintro i ⟨hi, hall⟩
  have hri : (restN (i + 2) r).length ≤ 10000 := Nat.le_trans (hrl _) hr
  by_cases hlt : i < 4
  · by_cases hL : LineOk (restN (i + 2) r)
    · have hx : Ctr (env n0 w0 gl) 48 [.ref (H.length + 4) 0] (H ++ [.cells [.sl r.length (bytesAV r) .ro], .cells [.str [], .sl 0 [] .full, .int .i64 0], .cells [.sl 0 [] .full], .cells [.int .i64 0], .cells [.str (restN (i + 2) r)], .cells [.fn 48 [] [.ref (H.length + 4) 0]]]) True (.str (lineA (restN (i + 2) r))) (H ++ [.cells [.sl r.length (bytesAV r) .ro], .cells [.str [], .sl 0 [] .full, .int .i64 0], .cells [.sl 0 [] .full], .cells [.int .i64 0], .cells [.str (restN (i + 1 + 2) r)], .cells [.fn 48 [] [.ref (H.length + 4) 0]]]) := .of fun _ => by
        have := line_ok (n0 := n0) (w0 := w0) (gl := gl) (c := H.length + 4) (s := restN (i + 2) r) (H := H ++ [.cells [.sl r.length (bytesAV r) .ro], .cells [.str [], .sl 0 [] .full, .int .i64 0], .cells [.sl 0 [] .full], .cells [.int .i64 0], .cells [.str (restN (i + 2) r)], .cells [.fn 48 [] [.ref (H.length + 4) 0]]]) (by omega) (by simp) hL
        simpa [show lineB (restN (i + 2) r) = restN (i + 1 + 2) r from rfl] using this
      repeat' (first | refine go ?_ | (refine br (fun hc => ?_) (fun hc => ?_) <;> try (exfalso; omega)) | fail)
      exact again (i + 1) ⟨by omega, fun j hj => by
        rcases Nat.lt_succ_iff_lt_or_eq.1 hj with h | h
        · exact hall j h
        · subst h; exact hL⟩ (by omega)
    · have hx : CtrP (env n0 w0 gl) 48 [.ref (H.length + 4) 0] (H ++ [.cells [.sl r.length (bytesAV r) .ro], .cells [.str [], .sl 0 [] .full, .int .i64 0], .cells [.sl 0 [] .full], .cells [.int .i64 0], .cells [.str (restN (i + 2) r)], .cells [.fn 48 [] [.ref (H.length + 4) 0]]]) True (thrown11 110) (H ++ [.cells [.sl r.length (bytesAV r) .ro], .cells [.str [], .sl 0 [] .full, .int .i64 0], .cells [.sl 0 [] .full], .cells [.int .i64 0], .cells [.str (restN (i + 2) r)], .cells [.fn 48 [] [.ref (H.length + 4) 0]]]) := .of fun _ =>
        line_bad (n0 := n0) (w0 := w0) (gl := gl) (c := H.length + 4) (s := restN (i + 2) r) (H := H ++ [.cells [.sl r.length (bytesAV r) .ro], .cells [.str [], .sl 0 [] .full, .int .i64 0], .cells [.sl 0 [] .full], .cells [.int .i64 0], .cells [.str (restN (i + 2) r)], .cells [.fn 48 [] [.ref (H.length + 4) 0]]]) (by omega) (by simp) hL
      have hno : ∀ a, ¬ RdOk r a := fun a h => hL (by
        rcases (show i = 0 ∨ i = 1 ∨ i = 2 ∨ i = 3 by omega) with rfl | rfl | rfl | rfl
        · exact h.1.2.2.1
        · exact h.1.2.2.2.1
        · exact h.1.2.2.2.2.1
        · exact h.1.2.2.2.2.2.1
        )
      repeat' (first | refine go ?_ | (refine br (fun hc => ?_) (fun hc => ?_) <;> try (exfalso; omega)) | fail)
      all_goals exact .now (.inr ⟨hno, rfl, _, _, _, _, _, rfl⟩)
  obtain rfl : i = 4 := by omega
  rw [show restN (4 + 2) r = restN 6 r from rfl]
  repeat' (first | refine go ?_ | (refine br (fun hc => ?_) (fun hc => ?_) <;> try (exfalso; omega)) | fail)
  by_cases hL6 : LineOk (restN 6 r)
  rotate_left 1
  · have hL := hL6
    have hx6 : CtrP (env n0 w0 gl) 51 [.str [83, 101, 110, 100, 101, 114, 58, 32], .ref (H.length + 5) 0] (H ++ [.cells [.sl r.length (bytesAV r) .ro], .cells [.str [], .sl 0 [] .full, .int .i64 0], .cells [.sl 0 [] .full], .cells [.int .i64 0], .cells [.str (restN 6 r)], .cells [.fn 48 [] [.ref (H.length + 4) 0]]]) True (thrown11 110) (H ++ [.cells [.sl r.length (bytesAV r) .ro], .cells [.str [], .sl 0 [] .full, .int .i64 0], .cells [.sl 0 [] .full], .cells [.int .i64 0], .cells [.str (restN 6 r)], .cells [.fn 48 [] [.ref (H.length + 4) 0]]]) := .of fun _ =>
      field_bad (n0 := n0) (w0 := w0) (gl := gl) (c := H.length + 4) (d := H.length + 5) (p := [83, 101, 110, 100, 101, 114, 58, 32]) (s := restN 6 r) (H := H ++ [.cells [.sl r.length (bytesAV r) .ro], .cells [.str [], .sl 0 [] .full, .int .i64 0], .cells [.sl 0 [] .full], .cells [.int .i64 0], .cells [.str (restN 6 r)], .cells [.fn 48 [] [.ref (H.length + 4) 0]]]) (by omega) (by simp) (by simp) hL
    repeat' (first | refine go ?_ | (refine br (fun hc => ?_) (fun hc => ?_) <;> try (exfalso; omega)) | fail)
    all_goals exact .now (.inr ⟨fun a h => hL6 h.1.2.2.2.2.2.2.1.1, rfl, _, _, _, _, _, rfl⟩)
  by_cases hP6 : PrefOk sndB (lineA (restN 6 r))
  rotate_left 1
  · have hL := hL6
    have hP := tf_false hP6
    have hx6 : Ctr (env n0 w0 gl) 51 [.str [83, 101, 110, 100, 101, 114, 58, 32], .ref (H.length + 5) 0] (H ++ [.cells [.sl r.length (bytesAV r) .ro], .cells [.str [], .sl 0 [] .full, .int .i64 0], .cells [.sl 0 [] .full], .cells [.int .i64 0], .cells [.str (restN 6 r)], .cells [.fn 48 [] [.ref (H.length + 4) 0]]]) True (.tup [.str (prefA sndB (lineA (restN 6 r))), .bool false]) (H ++ [.cells [.sl r.length (bytesAV r) .ro], .cells [.str [], .sl 0 [] .full, .int .i64 0], .cells [.sl 0 [] .full], .cells [.int .i64 0], .cells [.str (restN 7 r)], .cells [.fn 48 [] [.ref (H.length + 4) 0]]]) := .of fun _ => by
      have := field_ok (n0 := n0) (w0 := w0) (gl := gl) (c := H.length + 4) (d := H.length + 5) (p := sndB) (s := restN 6 r) (H := H ++ [.cells [.sl r.length (bytesAV r) .ro], .cells [.str [], .sl 0 [] .full, .int .i64 0], .cells [.sl 0 [] .full], .cells [.int .i64 0], .cells [.str (restN 6 r)], .cells [.fn 48 [] [.ref (H.length + 4) 0]]]) (by decide) (by omega) (by simp) (by simp) hL
      rw [hP] at this
      simpa [show lineB (restN 6 r) = restN 7 r from rfl, show (sndB : List UInt8) = [83, 101, 110, 100, 101, 114, 58, 32] from rfl] using this
    repeat' (first | refine go ?_ | (refine br (fun hc => ?_) (fun hc => ?_) <;> try (exfalso; omega)) | fail)
    all_goals exact .now (.inr ⟨fun a h => hP6 h.1.2.2.2.2.2.2.1.2, rfl, _, _, _, _, _, rfl⟩)
  have hL := hL6
  have hP := tf_true hP6
  have hx6 : Ctr (env n0 w0 gl) 51 [.str [83, 101, 110, 100, 101, 114, 58, 32], .ref (H.length + 5) 0] (H ++ [.cells [.sl r.length (bytesAV r) .ro], .cells [.str [], .sl 0 [] .full, .int .i64 0], .cells [.sl 0 [] .full], .cells [.int .i64 0], .cells [.str (restN 6 r)], .cells [.fn 48 [] [.ref (H.length + 4) 0]]]) True (.tup [.str (prefA sndB (lineA (restN 6 r))), .bool true]) (H ++ [.cells [.sl r.length (bytesAV r) .ro], .cells [.str [], .sl 0 [] .full, .int .i64 0], .cells [.sl 0 [] .full], .cells [.int .i64 0], .cells [.str (restN 7 r)], .cells [.fn 48 [] [.ref (H.length + 4) 0]]]) := .of fun _ => by
    have := field_ok (n0 := n0) (w0 := w0) (gl := gl) (c := H.length + 4) (d := H.length + 5) (p := sndB) (s := restN 6 r) (H := H ++ [.cells [.sl r.length (bytesAV r) .ro], .cells [.str [], .sl 0 [] .full, .int .i64 0], .cells [.sl 0 [] .full], .cells [.int .i64 0], .cells [.str (restN 6 r)], .cells [.fn 48 [] [.ref (H.length + 4) 0]]]) (by decide) (by omega) (by simp) (by simp) hL
    rw [hP] at this
    simpa [show lineB (restN 6 r) = restN 7 r from rfl, show (sndB : List UInt8) = [83, 101, 110, 100, 101, 114, 58, 32] from rfl] using this
  rw [show prefA sndB (lineA (restN 6 r)) = rdFro r from rfl] at hx6
  repeat' (first | refine go ?_ | (refine br (fun hc => ?_) (fun hc => ?_) <;> try (exfalso; omega)) | fail)
  by_cases hL7 : LineOk (restN 7 r)
  rotate_left 1
  · have hL := hL7
    have hx7 : CtrP (env n0 w0 gl) 51 [.str [82, 101, 99, 101, 105, 118, 101, 100, 58, 32], .ref (H.length + 5) 0] (H ++ [.cells [.sl r.length (bytesAV r) .ro], .cells [.str (rdFro r), .sl 0 [] .full, .int .i64 0], .cells [.sl 0 [] .full], .cells [.int .i64 0], .cells [.str (restN 7 r)], .cells [.fn 48 [] [.ref (H.length + 4) 0]]]) True (thrown11 110) (H ++ [.cells [.sl r.length (bytesAV r) .ro], .cells [.str (rdFro r), .sl 0 [] .full, .int .i64 0], .cells [.sl 0 [] .full], .cells [.int .i64 0], .cells [.str (restN 7 r)], .cells [.fn 48 [] [.ref (H.length + 4) 0]]]) := .of fun _ =>
      field_bad (n0 := n0) (w0 := w0) (gl := gl) (c := H.length + 4) (d := H.length + 5) (p := [82, 101, 99, 101, 105, 118, 101, 100, 58, 32]) (s := restN 7 r) (H := H ++ [.cells [.sl r.length (bytesAV r) .ro], .cells [.str (rdFro r), .sl 0 [] .full, .int .i64 0], .cells [.sl 0 [] .full], .cells [.int .i64 0], .cells [.str (restN 7 r)], .cells [.fn 48 [] [.ref (H.length + 4) 0]]]) (by omega) (by simp) (by simp) hL
    repeat' (first | refine go ?_ | (refine br (fun hc => ?_) (fun hc => ?_) <;> try (exfalso; omega)) | fail)
    all_goals exact .now (.inr ⟨fun a h => hL7 h.1.2.2.2.2.2.2.2.1, rfl, _, _, _, _, _, rfl⟩)
  by_cases hP7 : PrefOk rcvB (lineA (restN 7 r))
  rotate_left 1
  · have hL := hL7
    have hP := tf_false hP7
    have hx7 : Ctr (env n0 w0 gl) 51 [.str [82, 101, 99, 101, 105, 118, 101, 100, 58, 32], .ref (H.length + 5) 0] (H ++ [.cells [.sl r.length (bytesAV r) .ro], .cells [.str (rdFro r), .sl 0 [] .full, .int .i64 0], .cells [.sl 0 [] .full], .cells [.int .i64 0], .cells [.str (restN 7 r)], .cells [.fn 48 [] [.ref (H.length + 4) 0]]]) True (.tup [.str (prefA rcvB (lineA (restN 7 r))), .bool false]) (H ++ [.cells [.sl r.length (bytesAV r) .ro], .cells [.str (rdFro r), .sl 0 [] .full, .int .i64 0], .cells [.sl 0 [] .full], .cells [.int .i64 0], .cells [.str (restN 8 r)], .cells [.fn 48 [] [.ref (H.length + 4) 0]]]) := .of fun _ => by
      have := field_ok (n0 := n0) (w0 := w0) (gl := gl) (c := H.length + 4) (d := H.length + 5) (p := rcvB) (s := restN 7 r) (H := H ++ [.cells [.sl r.length (bytesAV r) .ro], .cells [.str (rdFro r), .sl 0 [] .full, .int .i64 0], .cells [.sl 0 [] .full], .cells [.int .i64 0], .cells [.str (restN 7 r)], .cells [.fn 48 [] [.ref (H.length + 4) 0]]]) (by decide) (by omega) (by simp) (by simp) hL
      rw [hP] at this
      simpa [show lineB (restN 7 r) = restN 8 r from rfl, show (rcvB : List UInt8) = [82, 101, 99, 101, 105, 118, 101, 100, 58, 32] from rfl] using this
    repeat' (first | refine go ?_ | (refine br (fun hc => ?_) (fun hc => ?_) <;> try (exfalso; omega)) | fail)
    all_goals exact .now (.inr ⟨fun a h => hP7 h.1.2.2.2.2.2.2.2.2, rfl, _, _, _, _, _, rfl⟩)
  have hL := hL7
  have hP := tf_true hP7
  have hx7 : Ctr (env n0 w0 gl) 51 [.str [82, 101, 99, 101, 105, 118, 101, 100, 58, 32], .ref (H.length + 5) 0] (H ++ [.cells [.sl r.length (bytesAV r) .ro], .cells [.str (rdFro r), .sl 0 [] .full, .int .i64 0], .cells [.sl 0 [] .full], .cells [.int .i64 0], .cells [.str (restN 7 r)], .cells [.fn 48 [] [.ref (H.length + 4) 0]]]) True (.tup [.str (prefA rcvB (lineA (restN 7 r))), .bool true]) (H ++ [.cells [.sl r.length (bytesAV r) .ro], .cells [.str (rdFro r), .sl 0 [] .full, .int .i64 0], .cells [.sl 0 [] .full], .cells [.int .i64 0], .cells [.str (restN 8 r)], .cells [.fn 48 [] [.ref (H.length + 4) 0]]]) := .of fun _ => by
    have := field_ok (n0 := n0) (w0 := w0) (gl := gl) (c := H.length + 4) (d := H.length + 5) (p := rcvB) (s := restN 7 r) (H := H ++ [.cells [.sl r.length (bytesAV r) .ro], .cells [.str (rdFro r), .sl 0 [] .full, .int .i64 0], .cells [.sl 0 [] .full], .cells [.int .i64 0], .cells [.str (restN 7 r)], .cells [.fn 48 [] [.ref (H.length + 4) 0]]]) (by decide) (by omega) (by simp) (by simp) hL
    rw [hP] at this
    simpa [show lineB (restN 7 r) = restN 8 r from rfl, show (rcvB : List UInt8) = [82, 101, 99, 101, 105, 118, 101, 100, 58, 32] from rfl] using this
  rw [show prefA rcvB (lineA (restN 7 r)) = rdWhen r from rfl] at hx7
  have hwl : (rdWhen r).length ≤ 10000 := Nat.le_trans (prefA_len _ _) (Nat.le_trans (lineA_len _) hr7)
  have hfl : (rdFro r).length ≤ 10000 := Nat.le_trans (prefA_len _ _) (Nat.le_trans (lineA_len _) hr6)
  have hnl : (rdN r).length ≤ 10000 := Nat.le_trans (prefA_len _ _) (Nat.le_trans (lineA_len _) hr1)
  have hpn : ∀ H, Ctr (env n0 w0 gl) 39 [.str (rdWhen r), .int .i64 10, .int .i64 64] H True (pIntV (rdWhen r)) H := fun H => ⟨fun _ =>
    (parseInt_any (n0 := n0) (w0 := w0) (gl := gl) (H := H) (rdWhen r)).call (by omega)⟩
  by_cases hq : ∃ a, Lib.parseIntB 64 (rdWhen r) = .ok a
  rotate_left 1
  · obtain ⟨n, hn⟩ := pIntV_bad hq
    rw [hn] at hpn
    repeat' (first | refine go ?_ | (refine br (fun hc => ?_) (fun hc => ?_) <;> try (exfalso; omega)) | fail)
    all_goals exact .now (.inr ⟨fun a h => hq ⟨a, h.2.1⟩, rfl, _, _, _, _, _, rfl⟩)
  obtain ⟨a, ha⟩ := hq
  have hA : ∀ a', RdOk r a' → a' = a := fun a' h => by
    have := h.2.1
    rw [ha] at this
    injection this with this
    exact this.symm
  unfold pIntV at hpn
  rw [ha] at hpn
  simp only at hpn
  have hab := parseIntB_lo ha
  repeat' (first | refine go ?_ | (refine br (fun hc => ?_) (fun hc => ?_) <;> try (exfalso; omega)) | fail)
  refine loop (fun i : List (List UInt8) × List UInt8 => (.ref H.length 0 :: .ref (H.length + 1) 0 :: .ref (H.length + 2) 0 :: .ref (H.length + 4) 0 :: .ref (H.length + 5) 0 :: .fn 51 [] [.ref (H.length + 5) 0] :: .str (rdN r) :: .top :: .top :: .top :: .top :: .top :: .top :: .top :: .top :: .top :: .top :: .top :: .top :: .top :: .top :: .top :: .top :: .top :: .top :: .top :: .top :: .top :: .top :: .top :: .top :: .top :: .top :: .top :: .top :: .top :: .top :: .top :: .top :: .top :: .top :: .top :: .top :: .top :: .top :: .top :: .top :: .top :: .top :: .top :: .top :: .top :: .top :: .top :: .top :: .top :: .top :: .top :: .top :: .top :: .top :: .top :: .top :: .top :: .top :: .top :: .top :: .top :: .top :: .top :: .top :: .top :: .top :: .top :: .top :: .top :: .top :: .top :: .top :: .top :: .top :: .top :: .top :: .top :: .top :: .top :: .top :: .top :: .top :: .top :: .top :: .top :: .top :: .top :: .top :: .top :: .top :: .top :: .top :: .top :: .top :: .top :: .top :: .top :: .top :: .top :: .top :: .top :: .top :: .top :: .top :: .top :: .top :: .top :: .top :: .top :: .top :: .top :: [])) (fun i => H ++ ([.cells [.sl r.length (bytesAV r) .ro], .cells [.str (rdFro r), rcV i.1 (H.length + 6), .int .i64 a], .cells [.sl 0 [] .full], .cells [.int .i64 0], .cells [.str i.2], .cells [.fn 48 [] [.ref (H.length + 4) 0]]] ++ rcT i.1)) (fun i => tkM (restN 8 r) i.1.length = i ∧ i.1.length ≤ 101) (fun i => 101 - i.1.length) ([], restN 8 r) ⟨rfl, by simp⟩ ?_
  rintro ⟨l, s⟩ ⟨hT, hl⟩
  simp only at hT hl ⊢
  have htl := tkM_len (restN 8 r) l.length
  rw [hT] at htl
  obtain ⟨ht1, _, ht3⟩ := htl
  simp only at ht1 ht3
  have hal := lineA_len s

  have hstk : ∀ P : Prop, ¬ PrefOk rcpB (lineA s) → tkM (restN 8 r) 101 = (l, s) := fun _ hn => by
    have := tkM_stuck (s := restN 8 r) (i := l.length) (by rw [hT]; exact hn) (101 - l.length)
    rwa [show l.length + (101 - l.length) = 101 by omega, hT] at this
  by_cases hL : LineOk s
  rotate_left 1
  · have hno : ∀ a, ¬ RdOk r a := fun a h => by
      have := hstk True (by rw [lineA_bad hL]; rintro ⟨h, _⟩; revert h; decide)
      have h3 := h.2.2.1
      rw [this] at h3
      exact hL h3
    rcases l with _ | ⟨x, l⟩
    · simp only [rcV, rcT, List.append_nil]
      have hx : CtrP (env n0 w0 gl) 51 [.str [82, 101, 99, 105, 112, 105, 101, 110, 116, 58, 32], .ref (H.length + 5) 0] (H ++ [.cells [.sl r.length (bytesAV r) .ro], .cells [.str (rdFro r), .sl 0 [] .full, .int .i64 a], .cells [.sl 0 [] .full], .cells [.int .i64 0], .cells [.str (s)], .cells [.fn 48 [] [.ref (H.length + 4) 0]]]) True (thrown11 110) (H ++ [.cells [.sl r.length (bytesAV r) .ro], .cells [.str (rdFro r), .sl 0 [] .full, .int .i64 a], .cells [.sl 0 [] .full], .cells [.int .i64 0], .cells [.str (s)], .cells [.fn 48 [] [.ref (H.length + 4) 0]]]) := .of fun _ =>
        field_bad (n0 := n0) (w0 := w0) (gl := gl) (c := H.length + 4) (d := H.length + 5) (p := [82, 101, 99, 105, 112, 105, 101, 110, 116, 58, 32]) (s := s) (H := H ++ [.cells [.sl r.length (bytesAV r) .ro], .cells [.str (rdFro r), .sl 0 [] .full, .int .i64 a], .cells [.sl 0 [] .full], .cells [.int .i64 0], .cells [.str (s)], .cells [.fn 48 [] [.ref (H.length + 4) 0]]]) (by omega) (by simp) (by simp) hL
      repeat' (first | refine go ?_ | (refine br (fun hc => ?_) (fun hc => ?_) <;> try (exfalso; omega)) | fail)
      all_goals exact .now (.inr ⟨hno, rfl, _, _, _, _, _, rfl⟩)
    · simp only [rcV, rcT, List.cons_append, List.nil_append]
      have hx : CtrP (env n0 w0 gl) 51 [.str [82, 101, 99, 105, 112, 105, 101, 110, 116, 58, 32], .ref (H.length + 5) 0] (H ++ [.cells [.sl r.length (bytesAV r) .ro], .cells [.str (rdFro r), .sl (x :: l).length ((x :: l).map .str) (.at (H.length + 6) (x :: l).length), .int .i64 a], .cells [.sl 0 [] .full], .cells [.int .i64 0], .cells [.str (s)], .cells [.fn 48 [] [.ref (H.length + 4) 0]], .tail 1 (x :: l).length]) True (thrown11 110) (H ++ [.cells [.sl r.length (bytesAV r) .ro], .cells [.str (rdFro r), .sl (x :: l).length ((x :: l).map .str) (.at (H.length + 6) (x :: l).length), .int .i64 a], .cells [.sl 0 [] .full], .cells [.int .i64 0], .cells [.str (s)], .cells [.fn 48 [] [.ref (H.length + 4) 0]], .tail 1 (x :: l).length]) := .of fun _ =>
        field_bad (n0 := n0) (w0 := w0) (gl := gl) (c := H.length + 4) (d := H.length + 5) (p := [82, 101, 99, 105, 112, 105, 101, 110, 116, 58, 32]) (s := s) (H := H ++ [.cells [.sl r.length (bytesAV r) .ro], .cells [.str (rdFro r), .sl (x :: l).length ((x :: l).map .str) (.at (H.length + 6) (x :: l).length), .int .i64 a], .cells [.sl 0 [] .full], .cells [.int .i64 0], .cells [.str (s)], .cells [.fn 48 [] [.ref (H.length + 4) 0]], .tail 1 (x :: l).length]) (by omega) (by simp) (by simp) hL
      repeat' (first | refine go ?_ | (refine br (fun hc => ?_) (fun hc => ?_) <;> try (exfalso; omega)) | fail)
      all_goals exact .now (.inr ⟨hno, rfl, _, _, _, _, _, rfl⟩)
  by_cases hgo : PrefOk rcpB (lineA s) ∧ l.length ≤ 100
  · obtain ⟨hPs, hl100⟩ := hgo
    have hP := tf_true hPs
    have hT2 : tkM (restN 8 r) (l.length + 1) = (l ++ [prefA rcpB (lineA s)], lineB s) := by rw [tkM_go (by rw [hT]; exact hPs), hT]
    rcases l with _ | ⟨x, l⟩
    · simp only [rcV, rcT, List.append_nil]
      have hx : Ctr (env n0 w0 gl) 51 [.str [82, 101, 99, 105, 112, 105, 101, 110, 116, 58, 32], .ref (H.length + 5) 0] (H ++ [.cells [.sl r.length (bytesAV r) .ro], .cells [.str (rdFro r), .sl 0 [] .full, .int .i64 a], .cells [.sl 0 [] .full], .cells [.int .i64 0], .cells [.str (s)], .cells [.fn 48 [] [.ref (H.length + 4) 0]]]) True (.tup [.str (prefA rcpB (lineA s)), .bool true]) (H ++ [.cells [.sl r.length (bytesAV r) .ro], .cells [.str (rdFro r), .sl 0 [] .full, .int .i64 a], .cells [.sl 0 [] .full], .cells [.int .i64 0], .cells [.str (lineB s)], .cells [.fn 48 [] [.ref (H.length + 4) 0]]]) := .of fun _ => by
        have := field_ok (n0 := n0) (w0 := w0) (gl := gl) (c := H.length + 4) (d := H.length + 5) (p := rcpB) (s := s) (H := H ++ [.cells [.sl r.length (bytesAV r) .ro], .cells [.str (rdFro r), .sl 0 [] .full, .int .i64 a], .cells [.sl 0 [] .full], .cells [.int .i64 0], .cells [.str (s)], .cells [.fn 48 [] [.ref (H.length + 4) 0]]]) (by decide) (by omega) (by simp) (by simp) hL
        rw [hP] at this
        simpa [show rcpB = [82, 101, 99, 105, 112, 105, 101, 110, 116, 58, 32] from rfl] using this
      repeat' (first | refine go ?_ | (refine br (fun hc => ?_) (fun hc => ?_) <;> try (exfalso; omega)) | fail)
      exact again ([prefA rcpB (lineA s)], lineB s) ⟨hT2, by simp⟩ (by simp)
    · simp only [rcV, rcT, List.cons_append, List.nil_append]
      have hx : Ctr (env n0 w0 gl) 51 [.str [82, 101, 99, 105, 112, 105, 101, 110, 116, 58, 32], .ref (H.length + 5) 0] (H ++ [.cells [.sl r.length (bytesAV r) .ro], .cells [.str (rdFro r), .sl (x :: l).length ((x :: l).map .str) (.at (H.length + 6) (x :: l).length), .int .i64 a], .cells [.sl 0 [] .full], .cells [.int .i64 0], .cells [.str (s)], .cells [.fn 48 [] [.ref (H.length + 4) 0]], .tail 1 (x :: l).length]) True (.tup [.str (prefA rcpB (lineA s)), .bool true]) (H ++ [.cells [.sl r.length (bytesAV r) .ro], .cells [.str (rdFro r), .sl (x :: l).length ((x :: l).map .str) (.at (H.length + 6) (x :: l).length), .int .i64 a], .cells [.sl 0 [] .full], .cells [.int .i64 0], .cells [.str (lineB s)], .cells [.fn 48 [] [.ref (H.length + 4) 0]], .tail 1 (x :: l).length]) := .of fun _ => by
        have := field_ok (n0 := n0) (w0 := w0) (gl := gl) (c := H.length + 4) (d := H.length + 5) (p := rcpB) (s := s) (H := H ++ [.cells [.sl r.length (bytesAV r) .ro], .cells [.str (rdFro r), .sl (x :: l).length ((x :: l).map .str) (.at (H.length + 6) (x :: l).length), .int .i64 a], .cells [.sl 0 [] .full], .cells [.int .i64 0], .cells [.str (s)], .cells [.fn 48 [] [.ref (H.length + 4) 0]], .tail 1 (x :: l).length]) (by decide) (by omega) (by simp) (by simp) hL
        rw [hP] at this
        simpa [show rcpB = [82, 101, 99, 105, 112, 105, 101, 110, 116, 58, 32] from rfl] using this
      simp only [List.length_cons] at hl100
      have hml : (l.map AV.str).length = l.length := List.length_map ..
      have hh := And.intro hml hml
      repeat' (first | refine go ?_ | (refine br (fun hc => ?_) (fun hc => ?_) <;> try (exfalso; omega)) | fail)
      refine againJ (x :: (l ++ [prefA rcpB (lineA s)]), lineB s) ⟨by simpa using hT2, by simp; omega⟩ (by simp; omega) [] ?_
      simp
  have hT101 : tkM (restN 8 r) 101 = (l, s) := by
    by_cases hPs : PrefOk rcpB (lineA s)
    · have h1 : l.length = 101 := by
        have : ¬ l.length ≤ 100 := fun h => hgo ⟨hPs, h⟩
        omega
      rw [← h1]; exact hT
    · exact hstk True hPs
  have hTo : rdTo r = l := by unfold rdTo; rw [hT101]
  have hc : tf (PrefOk rcpB (lineA s)) = false ∨ (tf (PrefOk rcpB (lineA s)) = true ∧ 100 < l.length) := by
    by_cases hPs : PrefOk rcpB (lineA s)
    · right; exact ⟨tf_true hPs, Nat.lt_of_not_le fun h => hgo ⟨hPs, h⟩⟩
    · left; exact tf_false hPs
  simp only [List.cons_append, List.nil_append]
  have hx : Ctr (env n0 w0 gl) 51 [.str [82, 101, 99, 105, 112, 105, 101, 110, 116, 58, 32], .ref (H.length + 5) 0] (H ++ .cells [.sl r.length (bytesAV r) .ro] :: .cells [.str (rdFro r), rcV l (H.length + 6), .int .i64 a] :: .cells [.sl 0 [] .full] :: .cells [.int .i64 0] :: .cells [.str (s)] :: .cells [.fn 48 [] [.ref (H.length + 4) 0]] :: rcT l) True (.tup [.str (prefA rcpB (lineA s)), .bool (tf (PrefOk rcpB (lineA s)))]) (H ++ .cells [.sl r.length (bytesAV r) .ro] :: .cells [.str (rdFro r), rcV l (H.length + 6), .int .i64 a] :: .cells [.sl 0 [] .full] :: .cells [.int .i64 0] :: .cells [.str (lineB s)] :: .cells [.fn 48 [] [.ref (H.length + 4) 0]] :: rcT l) := .of fun _ => by
    have := field_ok (n0 := n0) (w0 := w0) (gl := gl) (c := H.length + 4) (d := H.length + 5) (p := rcpB) (s := s) (H := H ++ .cells [.sl r.length (bytesAV r) .ro] :: .cells [.str (rdFro r), rcV l (H.length + 6), .int .i64 a] :: .cells [.sl 0 [] .full] :: .cells [.int .i64 0] :: .cells [.str (s)] :: .cells [.fn 48 [] [.ref (H.length + 4) 0]] :: rcT l) (by decide) (by omega) (by simp) (by simp) hL
    simpa [show rcpB = [82, 101, 99, 105, 112, 105, 101, 110, 116, 58, 32] from rfl] using this
  have hES : EnvSmall (rdFro r) l a := ⟨by omega, by omega, fun x hx => by have := ht3 x hx; omega, hab.1, hab.2⟩
  have hal2 := aheadS_len hES (n := rdN r) (by omega)
  have hah : ∀ H, Ctr (env n0 w0 gl) 53 [.agg [.str (rdFro r), .sl l.length (l.map .str) .ro, .int .i64 a], .str (rdN r)] H True (.str (aheadS (rdFro r) l a (rdN r))) H := fun H => ⟨fun _ => (ahead_t (n0 := n0) (w0 := w0) (gl := gl) (H := H) (rdFro r) l a (rdN r)).call ⟨hES, by omega⟩⟩
  have htlen : (tailS (rdN r)).length = (rdN r).length + 8 := by unfold tailS; simp
  have hln : ∀ H tok, Ctr (env n0 w0 gl) 54 [.sl 2 [.str [], .str (45 :: 45 :: (rdN r ++ [45, 45]))] tok] H True (.str (tailS (rdN r))) H := fun H tok => ⟨fun _ => by
    have := (lines11_t (n0 := n0) (w0 := w0) (gl := gl) (H := H) [[], 45 :: 45 :: (rdN r ++ [45, 45])] 2 tok).call ⟨rfl, by omega, by omega, by simp [linesB]; omega⟩
    rw [show linesB [[], 45 :: 45 :: (rdN r ++ [45, 45])] = tailS (rdN r) by simp [linesB, tailS]] at this
    exact this⟩
  have hml : (l.map AV.str).length = l.length := List.length_map ..
  rcases hc with hP | ⟨hP, h100⟩
  all_goals
    rw [hP] at hx
    refine gos ?_
    refine wseq_shift (Shift.cells (H.length + 1) (xs := [.str (rdFro r), rcV l (H.length + 6), .int .i64 a]) (ys := [.str (rdFro r), .sl l.length (l.map .str) .ro, .int .i64 a]) (by simp) rfl (fun g k c q => by
      match k, q with
      | 0, q => exact q
      | 1, q => exact rcV_ro q
      | 2, q => exact q
      | k + 3, q => exact q)) ?_
    rw [show ∀ (x y b0 b1 b2 b3 b4 : AO) (z : List AO), (H ++ b0 :: x :: b1 :: b2 :: b3 :: b4 :: z).set (H.length + 1) y = H ++ b0 :: y :: b1 :: b2 :: b3 :: b4 :: z from fun _ _ _ _ _ _ _ _ => by simp]
    by_cases hlen : (aheadS (rdFro r) l a (rdN r)).length + (tailS (rdN r)).length ≤ r.length
    · have hbe : rdBody r a = (r.take (r.length - (tailS (rdN r)).length)).drop (aheadS (rdFro r) l a (rdN r)).length := by unfold rdBody; rw [hTo]
      generalize hbd : rdBody r a = bd at *
      have hbl : bd.length = r.length - (tailS (rdN r)).length - (aheadS (rdFro r) l a (rdN r)).length := by rw [hbe, List.length_drop, List.length_take]; omega
      have hbA : bytesAV bd = List.drop (aheadS (rdFro r) l a (rdN r)).length (List.take (r.length - (tailS (rdN r)).length) (bytesAV r)) := by rw [hbe]; simp [bytesAV]
      have hcl : ∀ H, Ctr (env n0 w0 gl) 55 [.sl (r.length - (tailS (rdN r)).length - (aheadS (rdFro r) l a (rdN r)).length) (List.drop (aheadS (rdFro r) l a (rdN r)).length (List.take (r.length - (tailS (rdN r)).length) (bytesAV r))) .ro] H True (.sl bd.length (bytesAV bd) .ro) H := fun H => ⟨fun _ => by
        have := (clone_t (n0 := n0) (w0 := w0) (gl := gl) (H := H) bd .ro).call (by omega)
        rw [← hbl, ← hbA]; exact this⟩
      have hrep : ∀ H, Ctr (env n0 w0 gl) 18 [.agg [.str (rdFro r), .sl l.length (l.map .str) .ro, .int .i64 a], .sl bd.length (bytesAV bd) .ro] H True (repV (rdFro r) l a bd) H := fun H => .of fun _ =>
        report_e (n0 := n0) (w0 := w0) (gl := gl) (H := H) (rdFro r) l a bd (by omega) (by omega) (fun i hi => by
          have := ht3 (l.getD i []) (by rw [List.getD_eq_getElem?_getD, List.getElem?_eq_getElem hi]; exact List.getElem_mem _)
          omega) (by omega) (by omega)
      unfold repV at hrep
      have hOk : ∀ b2, b2 = bd → chkE (rdFro r) l a b2.length = 0 → repS (rdFro r) l a b2 = r → RdOk r a := fun b2 e k1 k2 => by
        subst e
        refine ⟨⟨hL0, ⟨hL1, hP1⟩, hall 0 (by omega), hall 1 (by omega), hall 2 (by omega), hall 3 (by omega), ⟨hL6, hP6⟩, hL7, hP7⟩, ha, by rw [hT101]; exact hL, by rw [hTo]; exact hlen, by rw [hTo, hbd]; exact k1, by rw [hTo, hbd]; exact k2⟩
      by_cases hck : chkE (rdFro r) l a bd.length = 0
      · rw [if_pos hck] at hrep
        by_cases hqr : repS (rdFro r) l a bd = r
        · have hR := hOk bd rfl hck hqr
          have hq : ∀ H tok, Ctr (env n0 w0 gl) 41 [.sl (repS (rdFro r) l a bd).length (bytesAV (repS (rdFro r) l a bd)) tok, .sl r.length (bytesAV r) .ro] H True (.bool true) H := fun H tok => ⟨fun _ => by
            have := (bequal_t (n0 := n0) (w0 := w0) (gl := gl) (H := H) (repS (rdFro r) l a bd) r _ _ tok .ro).call ⟨rfl, rfl⟩
            rwa [decide_eq_true hqr] at this⟩
          have hh := hml
          repeat' (first | refine go ?_ | (refine br (fun hc => ?_) (fun hc => ?_) <;> try (exfalso; omega)) | fail)
          rw [show ∀ (a0 a1 a2 a3 a4 a5 : AO) (z : List AO), H ++ a0 :: a1 :: a2 :: a3 :: a4 :: a5 :: z = (H ++ [a0, a1, a2, a3]) ++ (a4 :: a5 :: z) from fun _ _ _ _ _ _ _ => by simp]
          exact .junkd (.inl ⟨a, hR, rfl, by rw [hTo, hbd]⟩)
        · have hno : ∀ a, ¬ RdOk r a := fun a' h => by
            obtain rfl := hA a' h
            have := h.2.2.2.2.2
            rw [hTo, hbd] at this
            exact hqr this
          have hq : ∀ H tok, Ctr (env n0 w0 gl) 41 [.sl (repS (rdFro r) l a bd).length (bytesAV (repS (rdFro r) l a bd)) tok, .sl r.length (bytesAV r) .ro] H True (.bool false) H := fun H tok => ⟨fun _ => by
            have := (bequal_t (n0 := n0) (w0 := w0) (gl := gl) (H := H) (repS (rdFro r) l a bd) r _ _ tok .ro).call ⟨rfl, rfl⟩
            rwa [decide_eq_false hqr] at this⟩
          have hh := hml
          repeat' (first | refine go ?_ | (refine br (fun hc => ?_) (fun hc => ?_) <;> try (exfalso; omega)) | fail)
          all_goals exact .now (.inr ⟨hno, rfl, _, _, _, _, _, rfl⟩)
      · rw [if_neg hck] at hrep
        have hno : ∀ a, ¬ RdOk r a := fun a' h => by
          obtain rfl := hA a' h
          have := h.2.2.2.2.1
          rw [hTo, hbd] at this
          exact hck this
        generalize chkE (rdFro r) l a bd.length = ck at *
        have hh := And.intro hml hck
        repeat' (first | refine go ?_ | (refine br (fun hc => ?_) (fun hc => ?_) <;> try (exfalso; omega)) | fail)
        all_goals exact .now (.inr ⟨hno, rfl, _, _, _, _, _, rfl⟩)
    · have hno : ∀ a, ¬ RdOk r a := fun a' h => by
        obtain rfl := hA a' h
        have := h.2.2.2.1
        rw [hTo] at this
        exact hlen this
      have hh := hml
      repeat' (first | refine go ?_ | (refine br (fun hc => ?_) (fun hc => ?_) <;> try (exfalso; omega)) | fail)
      all_goals exact .now (.inr ⟨hno, rfl, _, _, _, _, _, rfl⟩)


end Go.Ab.Tryd
