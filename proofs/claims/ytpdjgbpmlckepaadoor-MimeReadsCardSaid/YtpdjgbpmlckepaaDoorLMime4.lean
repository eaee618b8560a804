/- Walks: a report taken apart: a line, a field. -/
import Derived.Test.YtpdjgbpmlckepaaDoorLCut
import Derived.Test.YtpdjgbpmlckepaaDoorLMime3
import Derived.Test.YtpdjgbpmlckepaaDoorLErr
import Derived.Test.YtpdjgbpmlckepaaDoorLRound
set_option linter.unusedSimpArgs false
set_option linter.unusedVariables false
set_option maxHeartbeats 4000000
set_option maxRecDepth 4000
namespace Go.Ab.Tryd
open Go Go.Ab Go.Proofs
attribute [local irreducible] W Wl Wop TrA WSeq WLoopS FPost DPost RPost WRound DK onEnd
attribute [local simp] belowL_bytesAV belowL_strsM
variable {n0 : Nat} {w0 : World} {gl : Nat → List AV} {H : List AO}

theorem line_ok [hml : GLInt gl 0] {c : Nat} {s : List UInt8} (hs : s.length ≤ 1000000000) (hH : H[c]? = some (.cells [.str s])) (h : LineOk s) :
    AEnter (env n0 w0 gl) 48 [.ref c 0] H (fun y H' => y = .ret (.str (lineA s)) ∧ H' = H.set c (.cells [.str (lineB s)])) := by
  have hc : ∀ H, Ctr (env n0 w0 gl) 49 [.str s, .str [13, 10]] H True (.tup [.str (lineA s), .str (lineB s), .bool true]) H := fun H => cutCR_ok (by omega) h
  have hh := hH
  refine enter (md := fun _ => 0) Tryd.func48 (fun hfit hgl => ?_)
  repeat' (first | refine go ?_ | (refine br (fun hc => ?_) (fun hc => ?_) <;> try (exfalso; omega)) | fail)
  exact .now ⟨rfl, rfl⟩
theorem line_bad [hml : GLInt gl 0] {c : Nat} {s : List UInt8} (hs : s.length ≤ 1000000000) (hH : H[c]? = some (.cells [.str s])) (h : ¬ LineOk s) :
    AEnter (env n0 w0 gl) 48 [.ref c 0] H (fun y H' => y = .panic (thrown11 110) ∧ H' = H) := by
  have hc : ∀ H, Ctr (env n0 w0 gl) 49 [.str s, .str [13, 10]] H True (.tup [.str s, .str [], .bool false]) H := fun H => cutCR_bad (by omega) h
  have hh := hH
  refine enter (md := fun _ => 0) Tryd.func48 (fun hfit hgl => ?_)
  repeat' (first | refine go ?_ | (refine br (fun hc => ?_) (fun hc => ?_) <;> try (exfalso; omega)) | fail)
  exact .now ⟨rfl, rfl⟩
theorem field_ok [hml : GLInt gl 0] {c d : Nat} {p s : List UInt8} (hp : p.length ≤ 100) (hs : s.length ≤ 1000000000) (hH : H[c]? = some (.cells [.str s])) (hd : H[d]? = some (.cells [.fn 48 [] [.ref c 0]])) (h : LineOk s) :
    AEnter (env n0 w0 gl) 51 [.str p, .ref d 0] H (fun y H' => y = .ret (.tup [.str (prefA p (lineA s)), .bool (tf (PrefOk p (lineA s)))]) ∧ H' = H.set c (.cells [.str (lineB s)])) := by
  have hl : Ctr (env n0 w0 gl) 48 [.ref c 0] H True (.str (lineA s)) (H.set c (.cells [.str (lineB s)])) := .of fun _ => line_ok hs hH h
  have hal := lineA_len s
  have hc : ∀ H, Ctr (env n0 w0 gl) 52 [.str (lineA s), .str p] H True (.tup [.str (prefA p (lineA s)), .bool (tf (PrefOk p (lineA s)))]) H := fun H => ⟨fun _ => by
    have := (pref_t (n0 := n0) (w0 := w0) (gl := gl) (H := H) (lineA s) p).call ⟨by omega, hp⟩
    rwa [prefV_eq] at this⟩
  have hh := hd
  refine enter (md := fun _ => 0) Tryd.func51 (fun hfit hgl => ?_)
  repeat' (first | refine go ?_ | (refine br (fun hc => ?_) (fun hc => ?_) <;> try (exfalso; omega)) | fail)
  exact .now ⟨rfl, rfl⟩
theorem field_bad [hml : GLInt gl 0] {c d : Nat} {p s : List UInt8} (hs : s.length ≤ 1000000000) (hH : H[c]? = some (.cells [.str s])) (hd : H[d]? = some (.cells [.fn 48 [] [.ref c 0]])) (h : ¬ LineOk s) :
    AEnter (env n0 w0 gl) 51 [.str p, .ref d 0] H (fun y H' => y = .panic (thrown11 110) ∧ H' = H) := by
  have hl : CtrP (env n0 w0 gl) 48 [.ref c 0] H True (thrown11 110) H := .of fun _ => line_bad hs hH h
  have hh := hd
  refine enter (md := fun _ => 0) Tryd.func51 (fun hfit hgl => ?_)
  repeat' (first | refine go ?_ | (refine br (fun hc => ?_) (fun hc => ?_) <;> try (exfalso; omega)) | fail)
  exact .now ⟨rfl, rfl⟩

/-- Memory as the reader's parts stand in it. -/
def rdH (H : List AO) (r : List UInt8) (e1 e2 e3 bv : AV) (s : List UInt8) : List AO := [.cells [.sl r.length (bytesAV r) .ro], .cells [e1, e2, e3], .cells [bv], .cells [.int .i64 0], .cells [.str s], .cells [.fn 48 [] [.ref (H.length + 4) 0]]]

end Go.Ab.Tryd
