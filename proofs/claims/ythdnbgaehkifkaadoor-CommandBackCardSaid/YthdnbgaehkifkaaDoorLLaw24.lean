/- Walks: the law on both ways. -/
import Derived.Test.YthdnbgaehkifkaaDoorLCmd7
import Derived.Test.YthdnbgaehkifkaaDoorLArgs24
set_option linter.unusedSimpArgs false
set_option linter.unusedVariables false
set_option maxHeartbeats 4000000
set_option maxRecDepth 4000
namespace Go.Ab.Tryd
open Go Go.Ab Go.Proofs
attribute [local irreducible] W Wl Wop TrA WSeq WLoopS FPost DPost RPost WRound DK onEnd
variable {n0 : Nat} {w0 : World} {gl : Nat → List AV} {H : List AO}
attribute [local simp] belowL_bytesAV

theorem commandBack_t [ht : Tab10 n0 w0] (v : Int) (t : List UInt8) (n : Int) (b : List UInt8) (hb0 : CmdBig t n) (hb1 : b.length ≤ 9223372036854775807) : AEnter (env n0 w0 gl) 6 [.agg [.int .i64 v, .str t, .int .i64 n], .sl b.length (bytesAV b) .ro] H (fun y H' => y = .ret (.bool true) ∧ H' = H) := by
  obtain ⟨h1, h2, h3⟩ := hb0
  by_cases hl : t.length ≤ 600 ∧ b.length ≤ 700
  · obtain ⟨hl1, hl2⟩ := hl
    -- what Parse answers at the bytes given
    have herr := cmdP_err b
    have hfit := cmdP_fits b
    have hPb : ∀ H tok, Ctr (env n0 w0 gl) 8 [.sl b.length (bytesAV b) tok] H True (.tup [.agg [.int .i64 (cmdP b).1, .str (cmdP b).2.1, .int .i64 (cmdP b).2.2.1], .int .i64 (cmdP b).2.2.2]) H := fun H tok => .of fun _ => cmdParse_e b tok hb1
    generalize cmdP b = q at *
    obtain ⟨v', t', n', c'⟩ := q
    simp only at herr hfit hPb
    have hlen := lineS_len (v := v) (t := t) h2 h3
    have hS : ∀ H, Ctr (env n0 w0 gl) 12 [.agg [.int .i64 v, .str t, .int .i64 n]] H True (.tup [.str (if tf (ShowOk v t n) then lineS v t n else []), .bool (tf (ShowOk v t n))]) H := fun H => ⟨fun _ => (cmdShow_t v n t).call ⟨by omega, h2, h3⟩⟩
    have hS' : ∀ H, Ctr (env n0 w0 gl) 12 [.agg [.int .i64 v', .str t', .int .i64 n']] H True (.tup [.str (if tf (ShowOk v' t' n') then lineS v' t' n' else []), .bool (tf (ShowOk v' t' n'))]) H := fun H => ⟨fun _ => (cmdShow_t v' n' t').call ⟨by omega, by omega, by omega⟩⟩
    have hlen' := lineS_len (v := v') (t := t') (n := n') (by omega) (by omega)
    have hP0 : ∀ H tok, Ctr (env n0 w0 gl) 8 [.sl 0 [] tok] H True (.tup [.agg [.int .i64 0, .str [], .int .i64 0], .int .i64 500]) H := fun H tok => .of fun _ => by
      have := cmdParse_e (n0 := n0) (w0 := w0) (gl := gl) (H := H) [] tok (by decide)
      rw [cmdP_nil] at this; exact this
    have hP1 : ∀ H tok, Ctr (env n0 w0 gl) 8 [.sl 0 (bytesAV []) tok] H True (.tup [.agg [.int .i64 0, .str [], .int .i64 0], .int .i64 500]) H := hP0
    by_cases hs : ShowOk v t n
    · simp only [tf_true hs, if_true] at hS
      have hq := hs.2
      have hPs : ∀ H tok, Ctr (env n0 w0 gl) 8 [.sl (lineS v t n).length (bytesAV (lineS v t n)) tok] H True (.tup [.agg [.int .i64 v, .str t, .int .i64 n], .int .i64 0]) H := fun H tok => .of fun _ => by
        have := cmdParse_e (n0 := n0) (w0 := w0) (gl := gl) (H := H) (lineS v t n) tok (by omega)
        unfold cmdV at this
        rw [hq.1, hq.2.1, hq.2.2.1, hq.2.2.2] at this
        exact this
      clear hq hs
      generalize lineS v t n = L at *
      by_cases hc0 : c' = 0
      · by_cases hs' : ShowOk v' t' n'
        · simp only [tf_true hs', if_true] at hS'
          have hq := hs'.2
          have hPs' : ∀ H tok, Ctr (env n0 w0 gl) 8 [.sl (lineS v' t' n').length (bytesAV (lineS v' t' n')) tok] H True (.tup [.agg [.int .i64 v', .str t', .int .i64 n'], .int .i64 0]) H := fun H tok => .of fun _ => by
            have := cmdParse_e (n0 := n0) (w0 := w0) (gl := gl) (H := H) (lineS v' t' n') tok (by omega)
            unfold cmdV at this
            rw [hq.1, hq.2.1, hq.2.2.1, hq.2.2.2] at this
            exact this
          clear hq hs'
          generalize lineS v' t' n' = L' at *
          subst hc0
          refine enter (md := fun _ => 0) Tryd.func6 (fun hfit hgl => ?_)
          repeat' (first | refine go ?_ | (refine br (fun hc => ?_) (fun hc => ?_) <;> try (exfalso; omega)) | fail)
          all_goals exact .junkd ⟨rfl, rfl⟩
        · simp only [tf_false hs', Bool.false_eq_true, if_false] at hS'
          subst hc0
          refine enter (md := fun _ => 0) Tryd.func6 (fun hfit hgl => ?_)
          repeat' (first | refine go ?_ | (refine br (fun hc => ?_) (fun hc => ?_) <;> try (exfalso; omega)) | fail)
          all_goals exact .junkd ⟨rfl, rfl⟩
      · obtain ⟨rfl, rfl, rfl⟩ := herr.resolve_left hc0
        have hh := hc0
        refine enter (md := fun _ => 0) Tryd.func6 (fun hfit hgl => ?_)
        repeat' (first | refine go ?_ | (refine br (fun hc => ?_) (fun hc => ?_) <;> try (exfalso; omega)) | fail)
        all_goals exact .junkd ⟨rfl, rfl⟩
    · simp only [tf_false hs, Bool.false_eq_true, if_false] at hS
      clear hs
      by_cases hc0 : c' = 0
      · by_cases hs' : ShowOk v' t' n'
        · simp only [tf_true hs', if_true] at hS'
          have hq := hs'.2
          have hPs' : ∀ H tok, Ctr (env n0 w0 gl) 8 [.sl (lineS v' t' n').length (bytesAV (lineS v' t' n')) tok] H True (.tup [.agg [.int .i64 v', .str t', .int .i64 n'], .int .i64 0]) H := fun H tok => .of fun _ => by
            have := cmdParse_e (n0 := n0) (w0 := w0) (gl := gl) (H := H) (lineS v' t' n') tok (by omega)
            unfold cmdV at this
            rw [hq.1, hq.2.1, hq.2.2.1, hq.2.2.2] at this
            exact this
          clear hq hs'
          generalize lineS v' t' n' = L' at *
          subst hc0
          refine enter (md := fun _ => 0) Tryd.func6 (fun hfit hgl => ?_)
          repeat' (first | refine go ?_ | (refine br (fun hc => ?_) (fun hc => ?_) <;> try (exfalso; omega)) | fail)
          all_goals exact .junkd ⟨rfl, rfl⟩
        · simp only [tf_false hs', Bool.false_eq_true, if_false] at hS'
          subst hc0
          refine enter (md := fun _ => 0) Tryd.func6 (fun hfit hgl => ?_)
          repeat' (first | refine go ?_ | (refine br (fun hc => ?_) (fun hc => ?_) <;> try (exfalso; omega)) | fail)
          all_goals exact .junkd ⟨rfl, rfl⟩
      · obtain ⟨rfl, rfl, rfl⟩ := herr.resolve_left hc0
        have hh := hc0
        refine enter (md := fun _ => 0) Tryd.func6 (fun hfit hgl => ?_)
        repeat' (first | refine go ?_ | (refine br (fun hc => ?_) (fun hc => ?_) <;> try (exfalso; omega)) | fail)
        all_goals exact .junkd ⟨rfl, rfl⟩
  · refine enter (md := fun _ => 0) Tryd.func6 (fun hfit hgl => ?_)
    repeat' (first | refine go ?_ | (refine br (fun hc => ?_) (fun hc => ?_) <;> try (exfalso; omega)) | fail)
    all_goals exact .junkd ⟨rfl, rfl⟩

end Go.Ab.Tryd
