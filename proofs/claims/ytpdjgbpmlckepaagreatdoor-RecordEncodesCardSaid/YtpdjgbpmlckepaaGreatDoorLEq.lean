/- Walks: bytes.Equal. -/
import Derived.Test.YtpdjgbpmlckepaaGreatDoorAbTryz
import Derived.Test.YtpdjgbpmlckepaaGreatDoorLConvA
import Derived.Test.YtpdjgbpmlckepaaGreatDoorShEq
set_option linter.unusedSimpArgs false
set_option linter.unusedVariables false
namespace Go.Ab.Tryz
open Go Go.Ab Go.Proofs
variable {n0 : Nat} {w0 : World} {gl : Nat → List AV} {H : List AO}

instance equal_t (s t : List UInt8) (tok tok2 : Tok) : Ctr (env n0 w0 gl) 44 [.sl s.length (bytesAV s) tok, .sl t.length (bytesAV t) tok2] H True (.bool (s == t)) H := .of fun _ =>
  AEnter.of_calls (fn := Tryz.f44) Tryz.func44 rfl rfl fun g w cs hr hv => by
    obtain ⟨c, d, rfl, h1, h2⟩ := rels2 hv
    have key : ∀ {u : List UInt8} {tk : Tok} {c : Value}, VRel g (.sl u.length (bytesAV u) tk) c → ∃ p cap, c = .slice p u.length cap ∧ Lib.BytesIn w p u.length (u.map fun b => (b.toNat : Int)) := by
      intro u tk c h
      rcases sl_bytes hr h rfl with ⟨rfl, rfl⟩ | ⟨a1, k1, rfl, hk1, hcell1⟩
      · exact ⟨none, 0, rfl, by simp [Lib.BytesIn]⟩
      · refine ⟨some a1, k1, rfl, ?_⟩
        refine fun h0 => ⟨a1.block, a1.off, congrArg some (hcell1 0 (by omega)).1, fun i hi => ?_⟩
        have h3 := hcell1 i hi
        have h4 : a1.add i = ⟨a1.block, a1.off + i, none⟩ := by rw [h3.1]; exact add_none _ _ _
        have := h3.2
        rw [h4] at this
        rw [this]
        simp [List.getD_eq_getElem?_getD, hi]
    obtain ⟨p1, c1, rfl, hb1⟩ := key h1
    obtain ⟨p2, c2, rfl, hb2⟩ := key h2
    refine (Tryz.bytes_Equal_all p1 p2 s.length c1 t.length c2 _ _ w (by simp) (by simp) hb1 hb2).mono ?_
    rintro e w' ⟨rfl, rfl⟩
    rw [bytesOf_int, bytesOf_int]
    exact econc_same hr (.bool _)

end Go.Ab.Tryz
