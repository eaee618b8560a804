/- Walks: bytes in texts. -/
import Derived.Test.YtpdjgbpmlckepaaGreatDoorAbTryz
import Derived.Test.YtpdjgbpmlckepaaGreatDoorFrE
import Derived.Test.YtpdjgbpmlckepaaGreatDoorSPath
set_option linter.unusedSimpArgs false
set_option linter.unusedVariables false
set_option maxHeartbeats 2000000
set_option maxRecDepth 4000
namespace Go.Ab.Tryz
open Go Go.Ab Go.Proofs
attribute [local irreducible] W Wl Wop TrA WSeq WLoopS FPost DPost RPost WRound DK onEnd
variable {n0 : Nat} {w0 : World} {gl : Nat → List AV} {H : List AO}

instance indexByteString_t (s : List UInt8) (c : UInt8) : Ctr (env n0 w0 gl) 190 [.str s, .int .u8 c.toNat] H True (.int .i64 (Lib.indexByte s c)) H := ⟨fun _ g w cs hr hv => by
  obtain ⟨v, u, rfl, h1, h2⟩ := rels2 hv
  have h1 := h1.str_inv
  have h2 := h2.int_inv
  subst h1; subst h2
  refine .inl ⟨.int .i64 (Lib.indexByte s c), w, ?_, _, H, g, ⟨rfl, rfl⟩, GLe.refl g, hr, .ret (.int _ _)⟩
  have hf : (env n0 w0 gl).P.funcs[190]? = some Tryz.f190 := Tryz.func190
  rw [run_callFunc_extern hf (by kernel_rfl) (by kernel_rfl) (by kernel_rfl) (e := Extern.BytealgIndexByte.indexByte) (by kernel_rfl), Lib.run_indexByteString]
  simp⟩

instance lite_indexByte_t (s : List UInt8) (c : UInt8) : Ctr (env n0 w0 gl) 158 [.str s, .int .u8 c.toNat] H True (.int .i64 (Lib.indexByte s c)) H := .of fun _ => by
  refine enter (md := fun _ => 0) Tryz.func158 (fun hfit hgl => ?_)
  repeat' (first | refine go ?_ | (refine br (fun hc => ?_) (fun hc => ?_) <;> try (exfalso; omega)) | fail)
  exact .now ⟨rfl, rfl⟩

instance indexByte_t (s : List UInt8) (c : UInt8) : Ctr (env n0 w0 gl) 108 [.str s, .int .u8 c.toNat] H True (.int .i64 (Lib.indexByte s c)) H := .of fun _ => by
  refine enter (md := fun _ => 0) Tryz.func108 (fun hfit hgl => ?_)
  repeat' (first | refine go ?_ | (refine br (fun hc => ?_) (fun hc => ?_) <;> try (exfalso; omega)) | fail)
  exact .now ⟨rfl, rfl⟩

instance lite_index_t (s : List UInt8) (c : UInt8) : Ctr (env n0 w0 gl) 148 [.str s, .str [c]] H (s.length ≤ 9223372036854775807) (.int .i64 (Lib.indexByte s c)) H := .of fun hs => by
  refine enter (md := fun _ => 0) Tryz.func148 (fun hfit hgl => ?_)
  repeat' (first | refine go ?_ | (refine br (fun hc => ?_) (fun hc => ?_) <;> try (exfalso; omega)) | fail)
  all_goals first
    | exact .now ⟨rfl, rfl⟩
    | (refine .now ⟨?_, rfl⟩; subst hc; simp [Lib.indexByte])

/-- What a cut hands back. -/
def cutV (c : UInt8) (s : List UInt8) : AV := match cutAt c s with
  | some (x, y) => .tup [.str x, .str y, .bool true]
  | none => .tup [.str s, .str [], .bool false]

instance lite_cut_t (s : List UInt8) (c : UInt8) : Ctr (env n0 w0 gl) 93 [.str s, .str [c]] H (s.length ≤ 9223372036854775807) (cutV c s) H := .of fun hs => by
  unfold cutV
  refine enter (md := fun _ => 0) Tryz.func93 (fun hfit hgl => ?_)
  rcases cutAt_idx c s with ⟨hh, h2⟩ | ⟨k, hk, hh, h2⟩ <;> rw [h2]
  all_goals
    repeat' (first | refine go ?_ | (refine br (fun hc => ?_) (fun hc => ?_) <;> try (exfalso; omega)) | fail)
    exact .now ⟨rfl, rfl⟩

instance cut_t (s : List UInt8) (c : UInt8) : Ctr (env n0 w0 gl) 53 [.str s, .str [c]] H (s.length ≤ 9223372036854775807) (cutV c s) H := .of fun hs => by
  unfold cutV
  have hc := lite_cut_t (n0 := n0) (w0 := w0) (gl := gl) (H := H) s c
  unfold cutV at hc
  refine enter (md := fun _ => 0) Tryz.func53 (fun hfit hgl => ?_)
  rcases hh : cutAt c s with _ | ⟨x, y⟩ <;> rw [hh] at hc
  all_goals
    repeat' (first | refine go ?_ | (refine br (fun hc => ?_) (fun hc => ?_) <;> try (exfalso; omega)) | fail)
    exact .now ⟨rfl, rfl⟩

end Go.Ab.Tryz
