/- Walks: lines. -/
import Derived.Test.YtocoejhiphcehaaGreatDoorLHeadA
import Derived.Test.YtocoejhiphcehaaGreatDoorSHead
import Derived.Test.YtocoejhiphcehaaGreatDoorShHead
set_option linter.unusedSimpArgs false
set_option linter.unusedVariables false
set_option maxHeartbeats 2000000
set_option maxRecDepth 4000
namespace Go.Ab.Tryz
open Go Go.Ab Go.Proofs
attribute [local irreducible] W Wl Wop TrA WSeq WLoopS FPost DPost RPost WRound DK onEnd
variable {n0 : Nat} {w0 : World} {gl : Nat → List AV} {H : List AO}

attribute [local simp] belowL_bytesAV

theorem bytesOf_ints (s : List UInt8) : Lib.bytesOf (s.map fun b => (b.toNat : Int)) = s := by
  unfold Lib.bytesOf
  rw [List.map_map]
  conv => rhs; rw [← List.map_id s]
  exact List.map_congr_left fun b _ => by simp

theorem addr_add (b o i : Nat) : (⟨b, o, none⟩ : Addr).add i = ⟨b, o + i, none⟩ := by
  unfold Addr.add
  split
  · rename_i h; subst h; rfl
  · rfl

instance index_t [hml : GLInt gl 0] (s : List UInt8) (tok : Tok) : Ctr (env n0 w0 gl) 62 [.sl s.length (bytesAV s) tok, .sl 2 [.int .u8 13, .int .u8 10] .ro] H (s.length < 4294967281) (.int .i64 (Lib.index s [13, 10])) H := .of fun hs =>
  AEnter.of_calls (fn := Tryz.f62) Tryz.func62 rfl rfl fun g w cs hr hv => by
    obtain ⟨c, d, rfl, h1, h2⟩ := rels2 hv
    rcases sl_bytes (s := [13, 10]) hr h2 rfl with ⟨_, h⟩ | ⟨a2, c2, rfl, hc2, hcell2⟩
    · simp at h
    rcases sl_bytes hr h1 rfl with ⟨rfl, rfl⟩ | ⟨a1, c1, rfl, hc1, hcell1⟩
    · refine (Tryz.bytes_Index_nil _ 2 c2 w (by omega) (by omega)).mono ?_
      rintro e w' ⟨rfl, rfl⟩
      exact econc_same hr (.int _ _)
    · obtain ⟨m, hm⟩ := hml.ex
      obtain ⟨v, hv1, hv2⟩ := gl_cell hr 0 (l := [.int .i64 m]) hm 0 (by simp)
      have hv3 := hv2.int_inv
      subst hv3
      refine (Any.bytes_Index_at { Tryz.laysM185 with } a1 a2 s.length c1 2 c2 (s.map fun b => (b.toNat : Int)) [13, 10] m w (by simp) rfl ?_ (by simp) ?_ ?_ hc1 hs (by omega) hv1).mono ?_
      · intro x hx
        obtain ⟨b, _, rfl⟩ := List.mem_map.1 hx
        have := b.toNat_lt
        omega
      · intro i hi
        rw [(hcell1 i hi).2]
        simp [List.getD_eq_getElem?_getD, hi]
      · intro i hi
        rw [(hcell2 i hi).2]
        match i, hi with
        | 0, _ => rfl
        | 1, _ => rfl
      · rintro e w' ⟨rfl, q, rfl⟩
        rw [bytesOf_ints]
        exact econc_ret hr ((RowKit.Below.refl _ _).trans ⟨rfl, rfl, rfl, Nat.le_refl _, fun _ _ => rfl⟩) (.int _ _)

theorem bytesAV_take (s : List UInt8) (k : Nat) : (bytesAV s).take k = bytesAV (s.take k) := by simp [bytesAV]
theorem bytesAV_drop (s : List UInt8) (k : Nat) : (bytesAV s).drop k = bytesAV (s.drop k) := by simp [bytesAV]

/-- What a cut hands back. -/
def cutL (s : List UInt8) : AV := match crlfAt s with
  | some (x, y) => .tup [.sl x.length (bytesAV x) .ro, .sl y.length (bytesAV y) .ro, .bool true]
  | none => .tup [.sl s.length (bytesAV s) .ro, .sl 0 [] .full, .bool false]

instance bcut_t [hml : GLInt gl 0] (s : List UInt8) : Ctr (env n0 w0 gl) 48 [.sl s.length (bytesAV s) .ro, .sl 2 [.int .u8 13, .int .u8 10] .ro] H (s.length < 4294967281) (cutL s) H := .of fun hs => by
  unfold cutL
  refine enter (md := fun _ => 0) Tryz.func48 (fun hfit hgl => ?_)
  rcases crlfAt_idx s with ⟨hh, h2⟩ | ⟨k, hk, hh, h2⟩ <;> rw [h2]
  · repeat' (first | refine go ?_ | (refine br (fun hc => ?_) (fun hc => ?_) <;> try (exfalso; omega)) | fail)
    exact .now ⟨rfl, rfl⟩
  · repeat' (first | refine go ?_ | (refine br (fun hc => ?_) (fun hc => ?_) <;> try (exfalso; omega)) | fail)
    refine .now ⟨?_, rfl⟩
    have e : ((k : Int) + 2).toNat = k + 2 := by omega
    simp [bytesAV_take, bytesAV_drop, e, Nat.min_eq_left (show k ≤ s.length by omega)]

end Go.Ab.Tryz
