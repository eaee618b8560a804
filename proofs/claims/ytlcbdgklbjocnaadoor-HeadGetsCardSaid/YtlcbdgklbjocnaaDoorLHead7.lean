/- Walks: head.Parse. -/
import Derived.Test.YtlcbdgklbjocnaaDoorLHead6
set_option linter.unusedSimpArgs false
set_option linter.unusedVariables false
set_option maxHeartbeats 2000000
set_option maxRecDepth 4000
namespace Go.Ab.Tryd
open Go Go.Ab Go.Proofs
attribute [local irreducible] W Wl Wop TrA WSeq WLoopS FPost DPost RPost WRound DK onEnd
variable {n0 : Nat} {w0 : World} {gl : Nat → List AV} {H : List AO}
attribute [local simp] belowL_bytesAV

/-- What a head is: fields, how many bytes, an error's number. -/
noncomputable def headP (b : List UInt8) : Flds × Nat × Int := match headR b with
  | none => ([], 0, 80)
  | some (l, u) => if l.length ≤ 1000 ∧ u ≤ 100000 then (l.map trimF, u, 0) else ([], 0, 2)
def tokP (e : Int) : Tok := if e = 0 then .ro else .full
def parseV (p : Flds × Nat × Int) : AV := .tup [.sl p.1.length (fldAV p.1) (tokP p.2.2), .int .i64 p.2.1, .int .i64 p.2.2]

instance parse_head_t [hml : GLInt gl 0] (b : List UInt8) : Ctr (env n0 w0 gl) 24 [.sl b.length (bytesAV b) .ro] H (b.length < 4294967281) (parseV (headP b)) H := .of fun hb => by
  have hp := parse1_t (n0 := n0) (w0 := w0) (gl := gl) (H := H) b hb
  refine enter (md := fun _ => 0) Tryd.func24 (fun hfit hgl => ?_)
  repeat' (first | refine go ?_ | (refine br (fun hc => ?_) (fun hc => ?_) <;> try (exfalso; omega)) | fail)
  ((with_reducible apply wop_call); (· rfl); (· rfl); (· (simp only [AAct.ev, List.getD_cons_zero, List.getD_cons_succ, constAV, env_gl]; try exact rfl)); (· (simp only [evCallArgs, List.map_cons, List.map_nil, List.nil_append, List.append_nil, List.cons_append, Array.toList, List.toList_toArray, AAct.ev, List.getD_cons_zero, List.getD_cons_succ, constAV, env_gl]; try exact rfl)))
  rcases hq : headR b with _ | ⟨l, u⟩
  · rw [hq] at hp
    have hP : headP b = ([], 0, 80) := by unfold headP; rw [hq]
    rw [hP]
    refine (head_caught_t (R := fun x H' => x = .ret (.int .i64 80) ∧ H' = H ++ [.cells [.sl b.length (bytesAV b) .ro], .cells [.sl 0 [] .full], .cells [.int .i64 0], .cells [.int .i64 80]]) _ [] _ fun hf2 => ?_).call.mono ?_
    · simp only [List.append_assoc, List.cons_append, List.nil_append]
      refine hp.call.mono ?_
      rintro x H' ⟨rfl, rfl⟩
      refine ⟨by simp, .inr ⟨80, rfl, ?_⟩⟩
      exact .now ⟨rfl, by simp⟩
    · rintro x H' ⟨rfl, rfl⟩
      repeat' (first | refine go ?_ | (refine br (fun hc => ?_) (fun hc => ?_) <;> try (exfalso; omega)) | fail)
      exact .junkd ⟨rfl, rfl⟩
  · rw [hq] at hp
    by_cases hlu : l.length ≤ 1000 ∧ u ≤ 100000
    · simp only [if_pos hlu] at hp
      have hP : headP b = (l.map trimF, u, 0) := by unfold headP; rw [hq]; simp only [if_pos hlu]
      rw [hP]
      refine (head_caught_t (R := fun x H' => x = .ret (.int .i64 0) ∧ H' = H ++ [.cells [.sl b.length (bytesAV b) .ro], .cells [.vsl (H.length + 6) l.length], .cells [.int .i64 u], .cells [.int .i64 0], .cells [.vsl (H.length + 6) l.length], .cells [.int .i64 u], .vec 2 l.length (fldAV (l.map trimF))]) _ [] _ fun hf2 => ?_).call.mono ?_
      · simp only [List.append_assoc, List.cons_append, List.nil_append]
        refine hp.call.mono ?_
        rintro x H' ⟨rfl, rfl⟩
        exact ⟨by simp, .inl ⟨rfl, .now ⟨rfl, by simp⟩⟩⟩
      · rintro x H' ⟨rfl, rfl⟩
        refine gos ?_
        refine wseq_shift (Shift.cellKnow (H.length + 1) 0 (H.length + 6) (xs := [.vsl (H.length + 6) l.length]) (sz := 2) (n := l.length) (ys := fldAV (l.map trimF)) (by simp [getE]) rfl (by simp) (by simp [getE]) rfl) ?_
        simp only [getE, setE, List.set_cons_succ, List.set_cons_zero]
        repeat' (first | refine go ?_ | (refine br (fun hc => ?_) (fun hc => ?_) <;> try (exfalso; omega)) | fail)
        refine .junkd ⟨?_, rfl⟩
        simp [parseV, tokP]
    · simp only [if_neg hlu] at hp
      have hP : headP b = ([], 0, 2) := by unfold headP; rw [hq]; simp only [if_neg hlu]
      rw [hP]
      refine (head_caught_t (R := fun x H' => x = .ret (.int .i64 2) ∧ H' = H ++ [.cells [.sl b.length (bytesAV b) .ro], .cells [.vsl (H.length + 6) l.length], .cells [.int .i64 u], .cells [.int .i64 2], .cells [.vsl (H.length + 6) l.length], .cells [.int .i64 u], .vec 2 l.length (fldAV l)]) _ [] _ fun hf2 => ?_).call.mono ?_
      · simp only [List.append_assoc, List.cons_append, List.nil_append]
        refine hp.call.mono ?_
        rintro x H' ⟨rfl, rfl⟩
        refine ⟨by simp, .inr ⟨2, rfl, ?_⟩⟩
        exact .now ⟨rfl, by simp⟩
      · rintro x H' ⟨rfl, rfl⟩
        repeat' (first | refine go ?_ | (refine br (fun hc => ?_) (fun hc => ?_) <;> try (exfalso; omega)) | fail)
        exact .junkd ⟨rfl, rfl⟩

end Go.Ab.Tryd
