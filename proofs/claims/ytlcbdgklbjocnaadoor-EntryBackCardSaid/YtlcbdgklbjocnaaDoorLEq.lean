/- Walks: bytes.Equal. -/
import Derived.Test.YtlcbdgklbjocnaaDoorAbTryd
import Derived.Test.YtlcbdgklbjocnaaDoorLConv3
import Derived.Test.YtlcbdgklbjocnaaDoorShEq
set_option linter.unusedSimpArgs false
set_option linter.unusedVariables false
namespace Go.Ab.Tryd
open Go Go.Ab Go.Proofs
variable {n0 : Nat} {w0 : World} {gl : Nat → List AV} {H : List AO}

instance equal_t (s t : List UInt8) (tok tok2 : Tok) : Ctr (env n0 w0 gl) 71 [.sl s.length (bytesAV s) tok, .sl t.length (bytesAV t) tok2] H True (.bool (s == t)) H := .of fun _ =>
  AEnter.of_calls (fn := Tryd.f71) Tryd.func71 rfl rfl fun g w cs hr hv => by
    obtain ⟨c, d, rfl, h1, h2⟩ := rels2 hv
    have key : ∀ {u : List UInt8} {tk : Tok} {c : Value}, VRel g (.sl u.length (bytesAV u) tk) c → ∃ p cap, c = .slice p u.length cap ∧ Lib.BytesIn w p u.length (u.map fun b => (b.toNat : Int)) := by
      intro u tk c h
      rcases sl_bytes hr h rfl with ⟨rfl, rfl⟩ | ⟨b1, o1, k1, rfl, hk1, hcell1⟩
      · exact ⟨none, 0, rfl, by simp [Lib.BytesIn]⟩
      · refine ⟨some ⟨b1, o1, none⟩, k1, rfl, ?_⟩
        refine fun _ => ⟨b1, o1, rfl, fun i hi => ?_⟩
        have := hcell1 i hi
        rw [this]
        simp [List.getD_eq_getElem?_getD, hi]
    obtain ⟨p1, c1, rfl, hb1⟩ := key h1
    obtain ⟨p2, c2, rfl, hb2⟩ := key h2
    refine (Tryd.bytes_Equal_all p1 p2 s.length c1 t.length c2 _ _ w (by simp) (by simp) hb1 hb2).mono ?_
    rintro e w' ⟨rfl, rfl⟩
    rw [bytesOf_int, bytesOf_int]
    exact econc_same hr (.bool _)

end Go.Ab.Tryd
