/- Walks: ParseInt of any text. -/
import Derived.Test.YtpdjgbpmlckepaaDoorShParse
import Derived.Test.YtpdjgbpmlckepaaDoorLConv
import Derived.Lib.AtoiErrMem
set_option linter.unusedSimpArgs false
set_option linter.unusedVariables false
set_option maxHeartbeats 4000000
set_option maxRecDepth 10000
namespace Go.Ab.Tryd
open Go Go.Ab Go.Proofs
attribute [local irreducible] W Wl Wop TrA WSeq WLoopS FPost DPost RPost WRound DK onEnd
variable {n0 : Nat} {w0 : World} {gl : Nat → List AV} {H : List AO}

/-- The variables of strconv's errors hold an error, or none. -/
def ErrIn (w : World) (i : Nat) : Prop := ∃ ev, w.cell? ⟨i, 0, none⟩ = some ev ∧ (ev = .nilIface ∨ ∃ te pe, ev = .iface te pe)
class Errs (n0 : Nat) (w0 : World) : Prop where
  one : ∀ w, RowKit.Below n0 w0 w → ErrIn w 1
  two : ∀ w, RowKit.Below n0 w0 w → ErrIn w 2

theorem errIn_below {n0 : Nat} {w0 w : World} {i : Nat} (hi : i < n0) (hb : RowKit.Below n0 w0 w) (h : ErrIn w0 i) : ErrIn w i := by
  obtain ⟨ev, h1, h2⟩ := h
  refine ⟨ev, ?_, h2⟩
  rw [← h1]
  simp [World.cell?, hb.block i hi]
/-- What ParseInt answers at any text. -/
noncomputable def pIntV (s : List UInt8) : AV := match Lib.parseIntB 64 s with
  | .ok n => .tup [.int .i64 n, .nili]
  | .range => .tup [.int .i64 (Lib.intSat 64 s), .iface 163 .top]
  | _ => .tup [.int .i64 0, .iface 163 .top]

theorem parseIntB_lo {s : List UInt8} {n : Int} (h : Lib.parseIntB 64 s = .ok n) : -9223372036854775808 ≤ n ∧ n ≤ 9223372036854775807 := by
  have h3 : (2 : Nat) ^ (64 - 1) = 9223372036854775808 := by decide
  unfold Lib.parseIntB at h
  split at h
  · simp at h
  · simp only at h
    split at h <;> (try simp at h)
    all_goals (split at h <;> try simp at h)
    all_goals (try (split at h <;> try simp at h))
    all_goals (try (split at h <;> try simp at h))
    all_goals omega

theorem parseInt_any [he : Errs n0 w0] (s : List UInt8) : Ctr (env n0 w0 gl) 39 [.str s, .int .i64 10, .int .i64 64] H (s.length ≤ 281474976710656) (pIntV s) H := .of fun hs =>
  AEnter.of_calls (fn := Tryd.f39) Tryd.func39 rfl rfl fun g w cs hr hv => by
    obtain ⟨c, ds, rfl, h1, h2⟩ := rels_cons hv
    obtain ⟨d, e, rfl, h3, h4⟩ := rels2 h2
    have := h3.int_inv; subst this
    have := h4.int_inv; subst this
    have := h1.str_inv; subst this
    have hsz : (⟨s.toArray⟩ : ByteArray).size ≤ 281474976710656 := by
      show s.toArray.size ≤ _
      rw [List.size_toArray]; omega
    obtain ⟨e1, q1, q2⟩ := he.one w hr.below
    obtain ⟨e2, q3, q4⟩ := he.two w hr.below
    unfold pIntV
    rcases hq : Lib.parseIntB 64 s with v | _ | _
    · have hrel : VRel g (.tup [.int .i64 v, .nili]) (.tuple #[.int .i64 v, .nilIface]) := .tup _ _ rfl (fun i => match i with | 0 => .int _ _ | 1 => .nili | _ + 2 => .top _)
      refine (Any.strconv_ParseInt_10_at64_ok Tryd.laysC174 ⟨s.toArray⟩ (by omega) v (by simpa using hq) w).mono ?_
      rintro e w' ⟨rfl, rfl | ⟨t, rfl⟩⟩
      · exact econc_same hr hrel
      · exact econc_ret hr (Lib.bytesWorld_below w _ t) hrel
    · first
        | (refine (Any.strconv_ParseInt_10_at64_syntax Tryd.laysC174 ⟨s.toArray⟩ hsz (by simpa using hq) e1 w q1 q2).mono ?_
           rintro e w' ⟨N, rfl, _, _, hb⟩
           exact econc_ret hr hb (.tup _ _ rfl (fun i => match i with | 0 => .int _ _ | 1 => .iface _ _ _ (.top _) | _ + 2 => .top _)))
        | (refine (Any.strconv_ParseInt_10_at64_range Tryd.laysC174 ⟨s.toArray⟩ hsz (by simpa using hq) e2 w q3 q4).mono ?_
           rintro e w' ⟨N, rfl, _, _, hb⟩
           exact econc_ret hr hb (.tup _ _ rfl (fun i => match i with | 0 => .int _ _ | 1 => .iface _ _ _ (.top _) | _ + 2 => .top _)))
    · first
        | (refine (Any.strconv_ParseInt_10_at64_range Tryd.laysC174 ⟨s.toArray⟩ hsz (by simpa using hq) e2 w q3 q4).mono ?_
           rintro e w' ⟨N, rfl, _, _, hb⟩
           exact econc_ret hr hb (.tup _ _ rfl (fun i => match i with | 0 => .int _ _ | 1 => .iface _ _ _ (.top _) | _ + 2 => .top _)))
        | (refine (Any.strconv_ParseInt_10_at64_syntax Tryd.laysC174 ⟨s.toArray⟩ hsz (by simpa using hq) e1 w q1 q2).mono ?_
           rintro e w' ⟨N, rfl, _, _, hb⟩
           exact econc_ret hr hb (.tup _ _ rfl (fun i => match i with | 0 => .int _ _ | 1 => .iface _ _ _ (.top _) | _ + 2 => .top _)))

end Go.Ab.Tryd
