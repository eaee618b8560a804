/- Walks: whole numbers as texts: what the library's own functions do. -/
import Derived.Test.YtocoejhiphcehaaGreatDoorAbTryz
import Derived.Test.YtocoejhiphcehaaGreatDoorFrE
import Derived.Test.YtocoejhiphcehaaGreatDoorShConv
import Derived.Test.YtocoejhiphcehaaGreatDoorSPath
import Derived.Lib.AppendIntMem
section
set_option linter.unusedSimpArgs false
set_option linter.unusedVariables false
set_option maxHeartbeats 2000000
set_option maxRecDepth 4000
namespace Go.Ab.Tryz
open Go Go.Ab Go.Proofs
attribute [local irreducible] W Wl Wop TrA WSeq WLoopS FPost DPost RPost WRound DK onEnd
variable {n0 : Nat} {w0 : World} {gl : Nat → List AV} {H : List AO}

/-- The library's table of powers of ten is as it was laid. -/
class Tab10 (n0 : Nat) (w0 : World) : Prop where
  tab : Lib.TabBelow Tryz.prog n0 w0 "internal/strconv.uint64pow10" .u64 Lib.pow10Tab

instance strconvSmall_t (i : Nat) : Ctr (env n0 w0 gl) 102 [.int .i64 i] H (i < 100) (.str (Lib.decDigits i)) H := .of fun h =>
  AEnter.of_calls (fn := Tryz.f102) Tryz.func102 rfl rfl fun g w cs hr hv => by
    obtain ⟨c, rfl, h1⟩ := rels1 hv
    have := h1.int_inv; subst this
    refine (Tryz.internal_strconv_small i h w).mono ?_
    rintro e w' ⟨rfl, rfl⟩
    exact econc_same hr (.str _ _ rfl)

instance numDigits_t [ht : Tab10 n0 w0] (u : Nat) : Ctr (env n0 w0 gl) 103 [.int .u64 u] H (1 ≤ u ∧ u < 18446744073709551616) (.int .i64 (Lib.nDigits u)) H := .of fun ⟨h, h2⟩ =>
  AEnter.of_calls (fn := Tryz.f103) Tryz.func103 rfl rfl fun g w cs hr hv => by
    obtain ⟨c, rfl, h1⟩ := rels1 hv
    have := h1.int_inv; subst this
    refine (Tryz.internal_strconv_numDigits u h h2 w (ht.tab w hr.below)).mono ?_
    rintro e w' ⟨rfl, rfl⟩
    exact econc_same hr (.int _ _)

theorem below_grown {w : World} (k : Nat) (os : Array Obj) : RowKit.Below w.heap.size w (Sort.grow (w.drewN k) os) := ⟨rfl, rfl, rfl, by simp [Sort.grow, World.drewN], fun i hi => by
  simp only [Sort.grow, World.drewN]
  rw [Array.getElem?_append_left (by exact hi)]⟩

instance itoa_t [ht : Tab10 n0 w0] (n : Int) : Ctr (env n0 w0 gl) 58 [.int .i64 n] H (-9223372036854775808 ≤ n ∧ n ≤ 9223372036854775807) (.str (Lib.itoa n)) H := .of fun ⟨h, h2⟩ =>
  AEnter.of_calls (fn := Tryz.f58) Tryz.func58 rfl rfl fun g w cs hr hv => by
    obtain ⟨c, rfl, h1⟩ := rels1 hv
    have := h1.int_inv; subst this
    refine (Tryz.strconv_Itoa n h h2 w (ht.tab w hr.below)).mono ?_
    rintro e w' ⟨rfl, k, os, rfl⟩
    exact econc_ret hr (below_grown k os) (.str _ _ rfl)

/-- Digits written into a row of our own. -/
theorem formatBase10_t (u : Nat) (ys : List UInt8) (id : Nat) (hH : H[id]? = some (.cells (bytesAV ys))) (hn : Lib.nDigits u ≤ ys.length) (hys : ys.length ≤ 1000) (h1u : 1 ≤ Lib.nDigits u) (hp : u < 10 ^ Lib.nDigits u) (h64 : u < 18446744073709551616) :
    Ctr (env n0 w0 gl) 104 [.msl id 0 (Lib.nDigits u), .int .u64 u] H True (.tup []) (H.set id (.cells (bytesAV (Lib.decDigits u ++ ys.drop (Lib.nDigits u))))) := .of fun _ =>
  AEnter.of_calls (fn := Tryz.f104) Tryz.func104 rfl rfl fun g w cs hr hv => by
    obtain ⟨c, d, rfl, h1, h3⟩ := rels2 hv
    have := h3.int_inv; subst this
    obtain ⟨b, ar, T, fz, hb, hnb, hw, hl, hcv, hfz, hK⟩ := hr.objs _ _ hH
    cases h1 with
    | msl id' off n b' off' cap hphi hcap ho =>
      rw [hb] at hphi; injection hphi with hphi; subst hphi
      obtain rfl : off' = 0 := by omega
      have hlen : (bytesAV ys).length = ys.length := by simp [bytesAV]
      rw [hlen] at hl hfz
      have hcell : ∀ j, j < ys.length → ar.getD j undef = .int .u8 ((ys.getD j 0).toNat : Int) := by
        intro j hj
        have h5 := hcv j
        have h6 : (bytesAV ys).getD j .top = .int .u8 ((ys.getD j 0).toNat : Int) := by simp [bytesAV, byteAV, List.getD_eq_getElem?_getD, hj]
        rw [h6] at h5
        exact h5.int_inv
      have hcell2 : ∀ j, j < ys.length → ar[j]? = some (.int .u8 ((ys.getD j 0).toNat : Int)) := by
        intro j hj
        have := hcell j hj
        rw [Array.getD_eq_getD_getElem?, Array.getElem?_eq_getElem (by omega)] at this
        rw [Array.getElem?_eq_getElem (by omega)]; simpa using this
      have hsz : ((ys.take (Lib.nDigits u)).toArray).size = Lib.nDigits u := by simp; omega
      have hHolds : Sort.Holds (fun (b : UInt8) => Value.int .u8 (b.toNat : Int)) w b 0 (ys.take (Lib.nDigits u)).toArray := by
        intro j hj
        rw [hsz] at hj
        constructor
        · have : w.cell? ⟨b, 0 + j, none⟩ = ar[j]? := by unfold World.cell?; simp [hw]
          rw [this, hcell2 j (by omega)]
          have h7 : (ys.take (Lib.nDigits u)).toArray[j]! = ys.getD j 0 := by
            rw [getElem!_pos _ j (by rw [hsz]; exact hj)]
            simp [List.getD_eq_getElem?_getD, List.getElem_take, show j < ys.length by omega]
          simp only [h7]
        · have := hfz j (by omega)
          unfold World.frozen?
          simp only [hw, Nat.zero_add]
          by_cases h1 : fz.1 ≤ j
          · simp [h1, show ¬ j < fz.2 from fun h2 => this ⟨h1, h2⟩]
          · simp [h1]
      have key := Tryz.internal_strconv_formatBase10 b 0 cap u (ys.take (Lib.nDigits u)).toArray w hHolds (by rw [hsz]; exact hp) h64 (by rw [hsz]; omega)
      rw [hsz] at key
      refine key.mono ?_
      rintro e w' ⟨rfl, m, v', dk, rfl, hinv⟩
      have hdk : dk.size = Lib.nDigits u := hinv.size
      have hput : ((Sort.putRow (fun (b : UInt8) => Value.int .u8 (b.toNat : Int)) w b 0 dk).drewN m).heap[b]? = some (.cells (Sort.putCells (fun (b : UInt8) => Value.int .u8 (b.toNat : Int)) 0 dk ar) T fz) := by
        show (Sort.putRow _ w b 0 dk).heap[b]? = _
        unfold Sort.putRow Sort.mapBlock
        simp [Array.getElem?_modify, hw, Sort.onCells]
      have hrep : (env n0 w0 gl).Rep g (H.set id (.cells (bytesAV (Lib.decDigits u ++ ys.drop (Lib.nDigits u))))) ((Sort.putRow (fun (b : UInt8) => Value.int .u8 (b.toNat : Int)) w b 0 dk).drewN m) := by
        refine Rep.write (cs := ar) hr hH hb hput ?_ ?_ ?_ ?_ rfl rfl rfl ?_
        · simp only [bytesAV, List.length_map, List.length_append, Lib.decDigits_length, List.length_drop, Sort.putCells, Array.size_mapIdx]; omega
        · intro k
          by_cases hk : k < ys.length
          · have h9 : (Sort.putCells (fun (b : UInt8) => Value.int .u8 (b.toNat : Int)) 0 dk ar).getD k undef = if k < Lib.nDigits u then .int .u8 (((Lib.decDigits u).getD k 0).toNat : Int) else .int .u8 ((ys.getD k 0).toNat : Int) := by
              rw [Array.getD_eq_getD_getElem?]
              simp only [Sort.putCells, Array.getElem?_mapIdx, hcell2 k hk, Option.map_some, Option.getD_some, Nat.zero_le, true_and, Nat.zero_add, hdk, Nat.sub_zero]
              by_cases hkn : k < Lib.nDigits u
              · rw [if_pos hkn, if_pos hkn]
                have := Lib.row_is_numeral hinv k (by rw [Lib.decDigits_length]; exact hkn)
                rw [← this, List.getD_eq_getElem?_getD, List.getElem?_eq_getElem (by rw [Lib.decDigits_length]; exact hkn)]; rfl
              · rw [if_neg hkn, if_neg hkn]
            have h10 : (bytesAV (Lib.decDigits u ++ ys.drop (Lib.nDigits u))).getD k .top = if k < Lib.nDigits u then .int .u8 (((Lib.decDigits u).getD k 0).toNat : Int) else .int .u8 ((ys.getD k 0).toNat : Int) := by
              have hd := Lib.decDigits_length u
              by_cases hkn : k < Lib.nDigits u
              · rw [if_pos hkn]
                simp [bytesAV, byteAV, List.getD_eq_getElem?_getD, List.getElem?_append_left (show k < ((Lib.decDigits u).map byteAV).length by rw [List.length_map, hd]; exact hkn), show k < (Lib.decDigits u).length by omega]
              · rw [if_neg hkn]
                simp only [bytesAV, List.map_append, List.getD_eq_getElem?_getD]
                rw [List.getElem?_append_right (by rw [List.length_map, hd]; omega), List.length_map, hd, List.getElem?_map, List.getElem?_drop, show Lib.nDigits u + (k - Lib.nDigits u) = k by omega, List.getElem?_eq_getElem hk]
                rfl
            rw [h9, h10]
            split <;> exact .int _ _
          · rw [List.getD_eq_getElem?_getD, List.getElem?_eq_none (by simp only [bytesAV, List.length_map, List.length_append, Lib.decDigits_length, List.length_drop]; omega)]
            exact .top _
        · intro k hk
          simp only [bytesAV, List.length_map, List.length_append, Lib.decDigits_length, List.length_drop] at hk
          exact hfz k (by omega)
        · intro k hk
          show (Sort.putRow _ w b 0 dk).heap[k]? = _
          unfold Sort.putRow Sort.mapBlock
          simp [Array.getElem?_modify, Ne.symm hk]
        · show (Sort.putRow _ w b 0 dk).heap.size = _
          unfold Sort.putRow Sort.mapBlock; simp
      exact ⟨_, _, g, ⟨rfl, rfl⟩, GLe.refl g, hrep, .ret (.tup _ _ rfl (fun i => by simp; exact .top _))⟩

end Go.Ab.Tryz

end

section
set_option linter.unusedSimpArgs false
set_option linter.unusedVariables false
set_option maxHeartbeats 2000000
set_option maxRecDepth 4000
namespace Go.Ab
open Go Go.RowKit
variable {g : Ghost} {H : List AO} {w w' : World} {n0 : Nat} {w0 : World} {gl : Nat → List AV}
/-- A block that a call made is known for good. -/
theorem Rep.learned (hr : Rep n0 w0 gl g H w) (hb : Below w.heap.size w w') {b : Nat} (hlt : w.heap.size ≤ b) {cs : Array Value} {T : TypeId} {fz : Nat × Nat} (hc : w'.heap[b]? = some (.cells cs T fz)) (n : Nat) :
    Rep n0 w0 gl (g.learn b (fun o => if o < n then cs[o]? else none)) H w' := by
  have hn0 : n0 ≤ w.heap.size := Nat.le_trans hr.n0le hr.below.size
  have hk := hr.kept hb
  have le := g.learn_le b (fun o => if o < n then cs[o]? else none)
  refine ⟨hk.below, hk.n0le, fun b' x v h => ?_, hk.len, hk.beyond, fun i x h => ?_, hk.apart, fun i => (hk.glob i).mono le⟩
  · have h' : (if b' = b then (match g.K b' x with | some v => some v | none => if x < n then cs[x]? else none) else g.K b' x) = some v := h
    split at h'
    · rename_i e
      subst e
      cases hk2 : g.K b' x with
      | some u => exact absurd (hr.K_lt hk2) (by omega)
      | none =>
        rw [hk2] at h'
        simp only at h'
        split at h'
        · rw [cell_of_heap hc]; exact h'
        · simp at h'
    · exact hk.know _ _ _ h'
  · refine ORep.frame h (hk.objs i x h) le (fun _ _ => rfl) (fun b' hb' o ho => ?_) (fun _ h => h)
    have := (hr.own_lt hb').1
    show (if b' = b then _ else _) = none
    rw [if_neg (by omega)]; exact ho
theorem learned_at (hr : Rep n0 w0 gl g H w) {b : Nat} (hlt : w.heap.size ≤ b) (cs : Array Value) (n o : Nat) (ho : o < n) {v : Value} (hv : cs[o]? = some v) : (g.learn b (fun o => if o < n then cs[o]? else none)).K b o = some v := by
  show (if b = b then (match g.K b o with | some v => some v | none => if o < n then cs[o]? else none) else g.K b o) = some v
  rw [if_pos rfl]
  cases hk : g.K b o with
  | some u => exact absurd (hr.K_lt hk) (by omega)
  | none => simp only; rw [if_pos ho]; exact hv
end Go.Ab

namespace Go.Ab.Tryz
open Go Go.Ab Go.Proofs
attribute [local irreducible] W Wl Wop TrA WSeq WLoopS FPost DPost RPost WRound DK onEnd
variable {n0 : Nat} {w0 : World} {gl : Nat → List AV} {H : List AO}

theorem bytesOf_int (s : List UInt8) : Lib.bytesOf (s.map fun b => (b.toNat : Int)) = s := by
  unfold Lib.bytesOf
  rw [List.map_map]
  conv => rhs; rw [← List.map_id s]
  exact List.map_congr_left fun b _ => by simp
theorem addr_plus (b o i : Nat) : (⟨b, o, none⟩ : Addr).add i = ⟨b, o + i, none⟩ := by
  unfold Addr.add
  split
  · rename_i h; subst h; rfl
  · rfl

instance bIndexByte_t (s : List UInt8) (tok : Tok) (c : UInt8) : Ctr (env n0 w0 gl) 77 [.sl s.length (bytesAV s) tok, .int .u8 c.toNat] H True (.int .i64 (Lib.indexByte s c)) H := .of fun _ =>
  AEnter.of_calls (fn := Tryz.f77) Tryz.func77 rfl rfl fun g w cs hr hv => by
    obtain ⟨c1, d, rfl, h1, h2⟩ := rels2 hv
    have := h2.int_inv; subst this
    rcases sl_bytes hr h1 rfl with ⟨rfl, rfl⟩ | ⟨a1, k1, rfl, hk1, hcell1⟩
    · refine (Tryz.bytes_IndexByte_nil _ w).mono ?_
      rintro e w' ⟨rfl, rfl⟩
      exact econc_same hr (.int _ _)
    · refine (Tryz.bytes_IndexByte_at a1 s.length k1 (s.map fun b => (b.toNat : Int)) (c.toNat : Int) w (by simp) ?_).mono ?_
      · intro i hi
        rw [(hcell1 i hi).2]
        simp [List.getD_eq_getElem?_getD, hi]
      · rintro e w' ⟨rfl, rfl⟩
        rw [bytesOf_int]
        refine econc_same hr ?_
        have : ((c.toNat : Int)).toNat.toUInt8 = c := by simp
        rw [this]; exact .int _ _
instance bIndexByte58_t (s : List UInt8) (tok : Tok) : Ctr (env n0 w0 gl) 77 [.sl s.length (bytesAV s) tok, .int .u8 58] H True (.int .i64 (Lib.indexByte s 58)) H := bIndexByte_t s tok 58

end Go.Ab.Tryz

end
