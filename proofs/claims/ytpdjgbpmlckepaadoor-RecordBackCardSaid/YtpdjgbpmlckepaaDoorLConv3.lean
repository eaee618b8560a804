/- Walks: bytes copied and sought: what the library's own functions do. -/
import Derived.Test.YtpdjgbpmlckepaaDoorLConv
set_option linter.unusedSimpArgs false
set_option linter.unusedVariables false
set_option maxHeartbeats 2000000
set_option maxRecDepth 4000
namespace Go.Ab
open Go Go.RowKit
variable {g : Ghost} {H : List AO} {w w' : World} {n0 : Nat} {w0 : World} {gl : Nat → List AV}
/-- A block that a call made is known for good. -/
theorem Rep.learned (hr : Rep n0 w0 gl g H w) (hb : Below w.heap.size w w') {b : Nat} (hlt : w.heap.size ≤ b) {cs : Array Value} {T : TypeId} {fz : Nat × Nat} (hc : w'.heap[b]? = some (.cells cs T fz)) (n : Nat) :
    Rep n0 w0 gl (g.learn b (fun o => if o < n then cs[o]? else none)) H w' := by
  have hn0 : n0 ≤ w.heap.size := Nat.le_trans hr.n0le hr.below.size
  have hk := hr.kept hb
  have le := g.learn_le b (fun o => if o < n then cs[o]? else none)
  refine ⟨hk.below, hk.n0le, fun b' x v h => ?_, hk.len, hk.beyond, fun i x h => ?_, hk.apart, fun i => (hk.glob i).mono le⟩
  · have h' : (if b' = b then (match g.K b' x with | some v => some v | none => if x < n then cs[x]? else none) else g.K b' x) = some v := h
    split at h'
    · rename_i e
      subst e
      cases hk2 : g.K b' x with
      | some u => exact absurd (hr.K_lt hk2) (by omega)
      | none =>
        rw [hk2] at h'
        simp only at h'
        split at h'
        · rw [cell_of_heap hc]; exact h'
        · simp at h'
    · exact hk.know _ _ _ h'
  · refine ORep.frame h (hk.objs i x h) le (fun _ _ => rfl) (fun b' hb' o ho => ?_) (fun _ h => h)
    have := (hr.own_lt hb').1
    show (if b' = b then _ else _) = none
    rw [if_neg (by omega)]; exact ho
theorem learned_at (hr : Rep n0 w0 gl g H w) {b : Nat} (hlt : w.heap.size ≤ b) (cs : Array Value) (n o : Nat) (ho : o < n) {v : Value} (hv : cs[o]? = some v) : (g.learn b (fun o => if o < n then cs[o]? else none)).K b o = some v := by
  show (if b = b then (match g.K b o with | some v => some v | none => if o < n then cs[o]? else none) else g.K b o) = some v
  rw [if_pos rfl]
  cases hk : g.K b o with
  | some u => exact absurd (hr.K_lt hk) (by omega)
  | none => simp only; rw [if_pos ho]; exact hv
end Go.Ab

namespace Go.Ab.Tryd
open Go Go.Ab Go.Proofs
attribute [local irreducible] W Wl Wop TrA WSeq WLoopS FPost DPost RPost WRound DK onEnd
variable {n0 : Nat} {w0 : World} {gl : Nat → List AV} {H : List AO}

theorem bytesOf_int (s : List UInt8) : Lib.bytesOf (s.map fun b => (b.toNat : Int)) = s := by
  unfold Lib.bytesOf
  rw [List.map_map]
  conv => rhs; rw [← List.map_id s]
  exact List.map_congr_left fun b _ => by simp
theorem addr_plus (b o i : Nat) : (⟨b, o, none⟩ : Addr).add i = ⟨b, o + i, none⟩ := by
  unfold Addr.add
  split
  · rename_i h; subst h; rfl
  · rfl

instance bIndexByte_t (s : List UInt8) (tok : Tok) (c : UInt8) : Ctr (env n0 w0 gl) 86 [.sl s.length (bytesAV s) tok, .int .u8 c.toNat] H True (.int .i64 (Lib.indexByte s c)) H := .of fun _ =>
  AEnter.of_calls (fn := Tryd.f86) Tryd.func86 rfl rfl fun g w cs hr hv => by
    obtain ⟨c1, d, rfl, h1, h2⟩ := rels2 hv
    have := h2.int_inv; subst this
    rcases sl_bytes hr h1 rfl with ⟨rfl, rfl⟩ | ⟨a1, k1, rfl, hk1, hcell1⟩
    · refine (Tryd.bytes_IndexByte_nil _ w).mono ?_
      rintro e w' ⟨rfl, rfl⟩
      exact econc_same hr (.int _ _)
    · refine (Tryd.bytes_IndexByte_at a1 s.length k1 (s.map fun b => (b.toNat : Int)) (c.toNat : Int) w (by simp) ?_).mono ?_
      · intro i hi
        rw [(hcell1 i hi).2]
        simp [List.getD_eq_getElem?_getD, hi]
      · rintro e w' ⟨rfl, rfl⟩
        rw [bytesOf_int]
        refine econc_same hr ?_
        have : ((c.toNat : Int)).toNat.toUInt8 = c := by simp
        rw [this]; exact .int _ _
instance bIndexByte58_t (s : List UInt8) (tok : Tok) : Ctr (env n0 w0 gl) 86 [.sl s.length (bytesAV s) tok, .int .u8 58] H True (.int .i64 (Lib.indexByte s 58)) H := bIndexByte_t s tok 58

instance clone_t (s : List UInt8) (tok : Tok) : Ctr (env n0 w0 gl) 55 [.sl s.length (bytesAV s) tok] H (s.length ≤ 140737488355328) (.sl s.length (bytesAV s) .ro) H := .of fun hs =>
  AEnter.of_calls (fn := Tryd.f55) Tryd.func55 rfl rfl fun g w cs hr hv => by
    obtain ⟨c1, rfl, h1⟩ := rels1 hv
    rcases sl_bytes hr h1 rfl with ⟨rfl, rfl⟩ | ⟨a1, k1, rfl, hk1, hcell1⟩
    · refine (Tryd.bytes_Clone_nil 0 0 w).mono ?_
      rintro e w' ⟨rfl, rfl⟩
      exact econc_same hr (.nsl _ trivial)
    · refine (Tryd.bytes_Clone_at a1 s.length k1 (s.map fun b => (b.toNat : Int)) w (by simp) hs ?_).mono ?_
      · intro i hi
        rw [(hcell1 i hi).2]
        simp [List.getD_eq_getElem?_getD, hi]
      · rintro e w' ⟨v', rfl, hown, hne, hbel⟩
        obtain ⟨hl, ⟨rfl, _⟩ | ⟨b, cap, cur, rfl, hb, hc, hncap, _, hcs, htk⟩⟩ := hown
        · exact absurd rfl hne
        have hrep := Rep.learned hr hbel hb hc s.length
        refine ⟨_, H, _, ⟨rfl, rfl⟩, g.learn_le _ _, hrep, .ret (.sl _ _ _ _ _ _ (fun i => if i < s.length then .int .u8 ((s.getD i 0).toNat : Int) else undef) hncap (fun i hi => ?_) (fun i => ?_) trivial)⟩
        · have hi' : i < s.length := by simpa [bytesAV] using hi
          rw [if_pos hi']
          refine learned_at hr hb cur s.length (0 + i) (by omega) ?_
          have h3 := congrArg (fun l => l[i]?) htk
          simp only [List.getElem?_take, Nat.mul_one, if_pos hi', List.getElem?_map, Array.getElem?_toList] at h3
          rw [Nat.zero_add, h3]
          simp [List.getD_eq_getElem?_getD, hi']
        · by_cases hi' : i < s.length
          · rw [if_pos hi']
            have : (bytesAV s).getD i .top = .int .u8 ((s.getD i 0).toNat : Int) := by simp [bytesAV, byteAV, List.getD_eq_getElem?_getD, hi']
            rw [this]; exact .int _ _
          · rw [List.getD_eq_getElem?_getD, List.getElem?_eq_none (by simp [bytesAV]; omega)]; exact .top _

end Go.Ab.Tryd
