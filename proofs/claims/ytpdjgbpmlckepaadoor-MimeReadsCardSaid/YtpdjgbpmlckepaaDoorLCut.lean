/- Walks: a text cut at a line's end. -/
import Derived.Test.YtpdjgbpmlckepaaDoorLHead4
import Derived.Test.YtpdjgbpmlckepaaDoorShCut
import Derived.Test.YtpdjgbpmlckepaaDoorSMime2
import Derived.Lib.IndexMore
set_option linter.unusedSimpArgs false
set_option linter.unusedVariables false
set_option maxHeartbeats 4000000
set_option maxRecDepth 10000
namespace Go.Ab.Tryd
open Go Go.Ab Go.Proofs
attribute [local irreducible] W Wl Wop TrA WSeq WLoopS FPost DPost RPost WRound DK onEnd
variable {n0 : Nat} {w0 : World} {gl : Nat → List AV} {H : List AO}

theorem cut_lib (s : List UInt8) : (LineOk s ∧ Lib.cut s [13, 10] = (lineA s, lineB s, true)) ∨ (¬ LineOk s ∧ Lib.cut s [13, 10] = (s, [], false)) := by
  unfold Lib.cut
  rcases crlfAt_idx s with ⟨h1, h2⟩ | ⟨k, hk, h1, h2⟩
  · right
    refine ⟨fun h => h h2, ?_⟩
    rw [h1, if_neg (by omega)]
  · left
    obtain ⟨e1, e2, e3⟩ := line_of h2
    refine ⟨e1, ?_⟩
    rw [h1, if_pos (by omega), e2, e3]
    simp
theorem cutCR_e [hml : GLInt gl 0] (s : List UInt8) (hs : s.length < 4294967281) : AEnter (env n0 w0 gl) 49 [.str s, .str [13, 10]] H (fun y H' => y = .ret (.tup [.str (Lib.cut s [13, 10]).1, .str (Lib.cut s [13, 10]).2.1, .bool (Lib.cut s [13, 10]).2.2]) ∧ H' = H) :=
  AEnter.of_calls (fn := Tryd.f49) Tryd.func49 rfl rfl fun g w cs hr hv => by
    obtain ⟨c, d, rfl, h1, h2⟩ := rels2 hv
    have := h1.str_inv; subst this
    have := h2.str_inv; subst this
    obtain ⟨m, hm⟩ := hml.ex
    obtain ⟨v, hv1, hv2⟩ := gl_cell hr 0 (l := [.int .i64 m]) hm 0 (by simp)
    have hv3 := hv2.int_inv
    subst hv3
    have hsz : (⟨s.toArray⟩ : ByteArray).size < 4294967281 := by
      show s.toArray.size < _
      rw [List.size_toArray]; exact hs
    refine (Tryd.strings_Cut ⟨s.toArray⟩ ⟨#[13, 10]⟩ m w hsz hv1).mono ?_
    rintro e w' ⟨rfl, q, rfl⟩
    have e1 : (⟨s.toArray⟩ : ByteArray).data.toList = s := by simp
    have e2 : (⟨#[13, 10]⟩ : ByteArray).data.toList = [13, 10] := rfl
    rw [e1, e2]
    exact econc_ret hr ((RowKit.Below.refl _ _).trans ⟨rfl, rfl, rfl, Nat.le_refl _, fun _ _ => rfl⟩) (.tup _ _ rfl (fun i => match i with | 0 => .str _ _ rfl | 1 => .str _ _ rfl | 2 => .bool _ | _ + 3 => .top _))
theorem cutCR_ok [hml : GLInt gl 0] {s : List UInt8} (hs : s.length < 4294967281) (h : LineOk s) : Ctr (env n0 w0 gl) 49 [.str s, .str [13, 10]] H True (.tup [.str (lineA s), .str (lineB s), .bool true]) H := .of fun _ => by
  rcases cut_lib s with ⟨_, h2⟩ | ⟨h2, _⟩
  · have := cutCR_e (n0 := n0) (w0 := w0) (gl := gl) (H := H) s hs
    rwa [h2] at this
  · exact absurd h h2
theorem cutCR_bad [hml : GLInt gl 0] {s : List UInt8} (hs : s.length < 4294967281) (h : ¬ LineOk s) : Ctr (env n0 w0 gl) 49 [.str s, .str [13, 10]] H True (.tup [.str s, .str [], .bool false]) H := .of fun _ => by
  rcases cut_lib s with ⟨h2, _⟩ | ⟨_, h2⟩
  · exact absurd h2 h
  · have := cutCR_e (n0 := n0) (w0 := w0) (gl := gl) (H := H) s hs
    rwa [h2] at this

end Go.Ab.Tryd
