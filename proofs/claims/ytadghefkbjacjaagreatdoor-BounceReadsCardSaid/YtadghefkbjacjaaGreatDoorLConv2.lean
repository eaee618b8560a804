/- Walks: a whole number's digits behind a row. -/
import Derived.Test.YtadghefkbjacjaaGreatDoorLConvA
set_option linter.unusedSimpArgs false
set_option linter.unusedVariables false
set_option maxHeartbeats 2000000
set_option maxRecDepth 4000
namespace Go.Ab.Tryz
open Go Go.Ab Go.Proofs
attribute [local irreducible] W Wl Wop TrA WSeq WLoopS FPost DPost RPost WRound DK onEnd
variable {n0 : Nat} {w0 : World} {gl : Nat → List AV} {H : List AO}
attribute [local simp] belowL_bytesAV

theorem belowL_append (n : Nat) : ∀ xs ys : List AV, belowL n (xs ++ ys) = (belowL n xs && belowL n ys)
  | [], ys => by simp [belowL]
  | x :: xs, ys => by simp only [List.cons_append, belowL, belowL_append n xs ys, Bool.and_assoc]

theorem nDigits_le {u : Nat} : ∀ {k : Nat}, 1 ≤ k → u < 10 ^ k → Lib.nDigits u ≤ k := by
  induction u using Nat.strongRecOn with
  | _ u ih =>
    intro k h1 h
    rw [Lib.nDigits]
    split
    · exact h1
    · rename_i h10
      obtain ⟨j, rfl⟩ : ∃ j, k = j + 1 := ⟨k - 1, by omega⟩
      have hj : 1 ≤ j := by
        rcases j with _ | j
        · simp at h; omega
        · omega
      have := ih (u / 10) (by omega) hj (by rw [Nat.pow_succ] at h; omega)
      omega
theorem nDigits_pos (u : Nat) : 1 ≤ Lib.nDigits u := by rw [Lib.nDigits]; split <;> omega
theorem lt_pow_nDigits (u : Nat) : u < 10 ^ Lib.nDigits u := by
  induction u using Nat.strongRecOn with
  | _ u ih =>
    rw [Lib.nDigits]
    split
    · simpa
    · have := ih (u / 10) (by omega)
      rw [Nat.pow_succ]; omega

/-- 24 bytes of nought. -/
def zeros24 : List UInt8 := List.replicate 24 0
theorem take_digits (u : Nat) (r : List UInt8) : List.take (Lib.nDigits u) (bytesAV (Lib.decDigits u ++ r)) = bytesAV (Lib.decDigits u) := by
  have : (bytesAV (Lib.decDigits u)).length = Lib.nDigits u := by simp [bytesAV, Lib.decDigits_length]
  rw [show bytesAV (Lib.decDigits u ++ r) = bytesAV (Lib.decDigits u) ++ bytesAV r by simp [bytesAV], ← this, List.take_left]

theorem appendUint_e [ht : Tab10 n0 w0] (n k : Nat) (xs : List AV) (hx : xs.length = n) (hn : n ≤ 140737488355000) (hk : k < 9223372036854775808) :
    AEnter (env n0 w0 gl) 337 [.vsl H.length n, .int .u64 k, .int .i64 10] (H ++ [.vec 1 n xs]) (fun y H' => y = .ret (.vsl H.length (n + Lib.nDigits k)) ∧ H' = H ++ [.vec 1 (n + Lib.nDigits k) (xs ++ bytesAV (Lib.decDigits k))]) := by
  have hd : Lib.nDigits k ≤ 20 := nDigits_le (by omega) (by omega)
  have hd1 := nDigits_pos k
  have hdl := Lib.decDigits_length k
  have hfb : Ctr (env n0 w0 gl) 273 [.msl (H.length + 1) 0 (Lib.nDigits k), .int .u64 k] (H ++ [.vec 1 n xs, .cells (bytesAV zeros24)]) True (.tup []) (H ++ [.vec 1 n xs, .cells (bytesAV (Lib.decDigits k ++ zeros24.drop (Lib.nDigits k)))]) := by
    have := formatBase10_t (n0 := n0) (w0 := w0) (gl := gl) (H := H ++ [.vec 1 n xs, .cells (bytesAV zeros24)]) k zeros24 (H.length + 1) (by simp) (by show _ ≤ 24; omega) (by decide) hd1 (lt_pow_nDigits k) (by omega)
    simpa using this
  have hz : bytesAV zeros24 = List.replicate 24 (.int .u8 0) := rfl
  rw [hz] at hfb
  simp only [List.replicate] at hfb
  have hh := And.intro (Nat.sub_zero (Lib.nDigits k)) <| And.intro (show Lib.nDigits k ≤ 24 by omega) (And.intro hx (And.intro (show n + Lib.nDigits k ≤ 140737488355328 by omega) (And.intro hdl (And.intro (take_digits k (zeros24.drop (Lib.nDigits k))) (show (Lib.decDigits k ++ zeros24.drop (Lib.nDigits k)).length = 24 by rw [List.length_append, hdl, List.length_drop]; show _ + (24 - _) = 24; omega)))))
  refine enter (md := fun _ => 0) Tryz.func337 (fun hfit hgl => ?_)
  repeat' (first | refine go ?_ | (refine br (fun hc => ?_) (fun hc => ?_) <;> try (exfalso; omega)) | fail)
  · exact .now ⟨rfl, rfl⟩
  · have hfit2 : Fit (H.length + 1) H := fun o ho => by have := hfit o (List.mem_append_left _ ho); simpa using this
    have hgl2 : ∀ i, belowL (H.length + 1) ((env n0 w0 gl).gl i) = true := by simpa using hgl
    have hxb : belowL (H.length + 1) xs = true := by have := hfit (.vec 1 n xs) (by simp); simpa [AO.within] using this
    rw [show ∀ a b : AO, H ++ [a, b] = (H ++ [a]) ++ [b] from fun _ _ => by simp]
    refine .junkd (hf := ?_) ⟨rfl, rfl⟩
    rw [show (H ++ [AO.vec 1 (n + Lib.nDigits k) (xs ++ bytesAV (Lib.decDigits k))]).length = H.length + 1 by simp]
    refine Fit.append hfit2 (fit_cons ?_ fit_nil)
    simp [AO.within, belowL_append, hxb]

/-- Behind the last row of one's own. -/
instance appendInt_t [ht : Tab10 n0 w0] (n k : Nat) (xs : List AV) : Ctr (env n0 w0 gl) 220 [.vsl H.length n, .int .i64 k, .int .i64 10] (H ++ [.vec 1 n xs])
    (xs.length = n ∧ n ≤ 140737488355000 ∧ k < 9223372036854775808) (.vsl H.length (n + Lib.nDigits k)) (H ++ [.vec 1 (n + Lib.nDigits k) (xs ++ bytesAV (Lib.decDigits k))]) := .of fun ⟨hx, hn, hk⟩ => by
  have h1 : Ctr (env n0 w0 gl) 337 [.vsl H.length n, .int .u64 k, .int .i64 10] (H ++ [.vec 1 n xs]) True (.vsl H.length (n + Lib.nDigits k)) (H ++ [.vec 1 (n + Lib.nDigits k) (xs ++ bytesAV (Lib.decDigits k))]) := .of fun _ => appendUint_e n k xs hx hn hk
  have h2 : Ctr (env n0 w0 gl) 285 [.vsl H.length n, .int .i64 k, .int .i64 10] (H ++ [.vec 1 n xs]) True (.vsl H.length (n + Lib.nDigits k)) (H ++ [.vec 1 (n + Lib.nDigits k) (xs ++ bytesAV (Lib.decDigits k))]) := .of fun _ => by
    refine enter (md := fun _ => 0) Tryz.func285 (fun hfit hgl => ?_)
    repeat' (first | refine go ?_ | (refine br (fun hc => ?_) (fun hc => ?_) <;> try (exfalso; omega)) | fail)
    exact .now ⟨rfl, rfl⟩
  refine enter (md := fun _ => 0) Tryz.func220 (fun hfit hgl => ?_)
  repeat' (first | refine go ?_ | (refine br (fun hc => ?_) (fun hc => ?_) <;> try (exfalso; omega)) | fail)
  exact .now ⟨rfl, rfl⟩

end Go.Ab.Tryz
