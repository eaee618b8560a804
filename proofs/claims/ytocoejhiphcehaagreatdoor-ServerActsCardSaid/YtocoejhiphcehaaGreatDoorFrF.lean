/- The abstract view, part FrF. -/
import Derived.Test.YtocoejhiphcehaaGreatDoorFrC
import Derived.Carry
import Derived.SliceStrings
import Derived.ChangeSlices
import Derived.OpenShut
import Derived.Test.YtocoejhiphcehaaGreatDoorFrD
import Derived.Shelf.Vars
import Derived.Deep.Slices
/- The abstract view, 21: from a row's reading of the arguments to abstract values, and back to what a row asks. -/
set_option linter.unusedVariables false
set_option linter.unusedSimpArgs false
namespace Go.Ab
open Go Go.RowKit Go.ChangeShapes Go.WideShapes

/-- What is known when a call comes in from outside: every cell there is. -/
def ghost0 (W : World) : Ghost := ⟨fun b o => W.cell? ⟨b, o, none⟩, [], fun _ _ => none⟩

theorem rep0 (W : World) : Rep W.heap.size W (fun _ => []) (ghost0 W) [] W :=
  ⟨Below.refl _ _, Nat.le_refl _, fun b o v h => h, rfl, fun _ _ _ => rfl, fun i o h => by simp at h, fun i j b h => by simp [own] at h, fun i => .row [] i 0 (fun _ => undef) (fun k hk => by simp at hk) (fun _ => .top _)⟩

section
variable {H : Type} {enc : TypeId × Value → H} {P : Program}

theorem trodAll_below (hl : laidOutB P = true) {W W' : World} (hb : Below W.heap.size W W') : ∀ (ts : List TypeId) (vs : List Value) (ds : List (DataW H)) (ps : List MemPlace), (∀ t ∈ ts, P.readableRec t = true ∧ t < P.types.size) →
    DataW.TrodAll enc P W 0 (fun _ => true) true ts vs ds ps → (∀ x ∈ ps, x.block < W.heap.size) → DataW.TrodAll enc P W' 0 (fun b => decide (b < W.heap.size)) true ts vs ds ps := by
  intro ts
  induction ts with
  | nil =>
    intro vs ds ps _ h _
    cases vs <;> cases ds <;> first | exact h | exact h.elim
  | cons t ts ih =>
    intro vs ds ps hr h hlt
    cases vs with
    | nil => exact (by cases ds <;> exact h.elim)
    | cons v vs =>
      cases ds with
      | nil => exact h.elim
      | cons d ds =>
        obtain ⟨p, q, h1, h2, rfl⟩ := h
        obtain ⟨r1, r2⟩ := hr t (by simp)
        exact ⟨p, q, Below.trod hl r1 r2 h1 hb (fun x hx => hlt x (by simp [hx])), ih vs ds q (fun t ht => hr t (by simp [ht])) h2 (fun x hx => hlt x (by simp [hx])), rfl⟩

/-- **What a law's row asks behind the call.** -/
theorem law_post {f : Func} {s : ChangeSpec} {W W' : World} {args : Array Value} {ds gs : List (DataW H)} {before : List MemPlace} {t : TypeId} (hW : DataW.Whole enc P f.params.toList s.vars false W args.toList ds gs before) (hvars : s.vars = []) (hres : f.resultTypes = #[t]) (ht : P.underlying t = some .bool)
    (hfn : (s.fn H (ds ++ gs)).results = [.lit (.bool true)] ∧ (s.fn H (ds ++ gs)).args = ds ∧ (s.fn H (ds ++ gs)).vars = []) (hl : laidOutB P = true) (hr : ∀ t ∈ f.params.toList, P.readableRec t = true ∧ t < P.types.size) (hb : Below W.heap.size W W') :
    s.post enc P f false true false false W args (.bool true) W' := by
  have hlt := hW.lt
  have hW' := hW
  obtain ⟨p, q, hA, hV, rfl, hfz, hnd⟩ := hW
  rw [hvars] at hV
  obtain ⟨rfl, rfl⟩ := trodVars_none hV
  refine ⟨ds, [], p ++ [], [], p, [], hW', ?_, ?_, ?_, ⟨hb.os, hb.output, fun i hi => ?_⟩, fun h => by simp at h⟩
  · rw [hfn.1, hres]
    exact trodAll_cons_mk (shut_bool ht _) trodAll_mk0
  · rw [hfn.2.1]
    exact trodAll_below hl hb _ _ _ _ hr hA (fun x hx => by simpa using hlt x (by simp [hx]))
  · rw [hfn.2.2, hvars]
    rfl
  · rw [hb.block i hi]
    split
    · rename_i h1 h2
      rw [h1] at h2; injection h2 with h2; injection h2 with h3 h4 h5; subst h3; subst h4; subst h5
      exact ⟨rfl, rfl, rfl, fun _ _ => rfl⟩
    · rename_i h1 h2
      rw [h1] at h2; injection h2 with h2; injection h2 with h3 h4; subst h3; subst h4
      exact .inr ⟨rfl, rfl⟩
    · rfl

/-- One field of a struct that was read. -/
theorem field_at {fs : Array Field} {W : World} {base n : Nat} {sp : Nat → Bool} {hd : Bool} {cs : List Value} {xs : List (DataW H × List MemPlace)} (hf : ∀ (i : Nat) (f : Field), fs[i]? = some f → DataW.trod enc P W base sp hd n f.type ((cs.drop f.offset).take (P.cellsOf f.type)) = xs[i]?)
    (hl : xs.length = fs.size) (i t o : Nat) (h : (fs[i]?).map (fun f => (f.type, f.offset)) = some (t, o)) : ∃ x, DataW.trod enc P W base sp hd n t ((cs.drop o).take (P.cellsOf t)) = some x := by
  cases hi : fs[i]? with
  | none => rw [hi] at h; simp at h
  | some f =>
    rw [hi] at h
    simp only [Option.map_some, Option.some.injEq, Prod.mk.injEq] at h
    obtain ⟨h1, h2⟩ := h
    have := hf i f hi
    rw [h1, h2] at this
    have hlt : i < xs.length := by rw [hl]; exact (Array.getElem?_eq_some_iff.1 hi).1
    rw [List.getElem?_eq_getElem hlt] at this
    exact ⟨_, this⟩

/-- A slice's address has no spot. -/
theorem spot_of_ok {W : World} {base : Nat} {t e : TypeId} {a : Addr} {len cap : Nat} (ht : P.underlying t = some (.slice e)) (h : Cell.okWide P W .any base t (.slice (some a) len cap)) : a.spot = none := by
  simp only [Cell.okWide, ht, Cell.ok] at h
  exact h.2.2.2.1

theorem addr_eq {a : Addr} (h : a.spot = none) : a = ⟨a.block, a.off, none⟩ := by cases a; simp at h; subst h; rfl
theorem addr_add {a : Addr} (h : a.spot = none) (i : Nat) : a.add i = ⟨a.block, a.off + i, none⟩ := by
  rw [addr_eq h]; exact add_none _ _ _

theorem spot_of_cell {W : World} {a : Addr} {v : Value} (h : W.cell? a = some v) : a.spot = none := by
  unfold World.cell? at h
  split at h
  · split at h
    · simp at h
    · rename_i hn; cases hs : a.spot with
      | none => rfl
      | some x => rw [hs] at hn; simp at hn
  · simp at h
theorem spot_of_add0 {W : World} {a : Addr} {v : Value} (h : W.cell? (a.add 0) = some v) : a.spot = none := spot_of_cell (by have e : a.add 0 = a := by simp [Addr.add]
                                                                                                                             rwa [e] at h)

/-- A slice of strings. -/
theorem read_strs0 {W : World} {base : Nat} {t e : TypeId} {v : Value} {fuel : Nat} {x : DataW H × List MemPlace} (ht : P.underlying t = some (.slice e)) (he : P.underlying e = some .string) (hc : P.cellsOf e = 1)
    (h : DataW.trod enc P W 0 (fun _ => true) true fuel t [v] = some x) :
    ∃ to : List (List UInt8), VRel (ghost0 W) (.sl to.length (to.map .str) .ro) v ∧ (∀ i, i < to.length → (to.getD i []).length ≤ 9223372036854775807) ∧ to.length ≤ 9223372036854775807 := by
  have hm : maxLen = 9223372036854775807 := by decide
  rcases open_strings ht he hc h with ⟨h1, _⟩ | ⟨a, len, cap, ss, h1, h2, h3, h4, h5, _, h7, h8⟩
  · injection h1 with h1; subst h1
    exact ⟨[], .nsl _ trivial, fun i hi => by simp at hi, by simp⟩
  · injection h1 with h1; subst h1
    simp only [if_true] at h5
    by_cases hcap0 : cap = 0
    · obtain rfl : len = 0 := by omega
      subst hcap0
      exact ⟨[], .nsl _ trivial, fun i hi => by simp at hi, by simp⟩
    have hs := spot_of_add0 (h7 0 (by omega))
    have hlen : (ss.take len).length = len := by rw [List.length_take]; omega
    have hget : ∀ i, i < len → ((ss.take len).map fun s : ByteArray => s.data.toList).getD i [] = (ss.getD i ByteArray.empty).data.toList := by
      intro i hi
      rw [List.getD_eq_getElem?_getD, List.getElem?_map, List.getElem?_take, if_pos hi, List.getD_eq_getElem?_getD]
      rw [List.getElem?_eq_getElem (by omega)]; rfl
    refine ⟨(ss.take len).map fun s : ByteArray => s.data.toList, ?_, fun i hi => ?_, ?_⟩
    · rw [List.length_map, hlen, addr_eq hs]
      refine .sl _ _ _ _ _ _ (fun i => if i < len then .string (ss.getD i ByteArray.empty) else undef) h3 (fun i hi => ?_) (fun i => ?_) trivial
      · rw [List.length_map, List.length_map, hlen] at hi
        show W.cell? ⟨a.block, a.off + i, none⟩ = _
        rw [← addr_add hs, h7 i (by omega), if_pos hi]
      · by_cases hi : i < len
        · rw [if_pos hi]
          have : (((ss.take len).map fun s : ByteArray => s.data.toList).map AV.str).getD i .top = .str ((ss.getD i ByteArray.empty).data.toList) := by
            rw [← hget i hi, List.getD_eq_getElem?_getD, List.getD_eq_getElem?_getD, List.getElem?_map, List.getElem?_eq_getElem (by rw [List.length_map, hlen]; exact hi)]; rfl
          rw [this]; exact .str _ _ rfl
        · rw [List.getD_eq_getElem?_getD, List.getElem?_eq_none (by rw [List.length_map, List.length_map, hlen]; omega)]; exact .top _
    · rw [List.length_map, hlen] at hi
      rw [hget i hi]
      have := h8 (ss.getD i ByteArray.empty) (by rw [List.getD_eq_getElem?_getD, List.getElem?_eq_getElem (by omega)]; exact List.getElem_mem _)
      rw [hm] at this
      rw [Array.length_toList]; exact this
    · rw [List.length_map, hlen]; omega

/-- A slice of bytes. -/
theorem read_strs {W : World} {base : Nat} {t e : TypeId} {v : Value} {fuel : Nat} {x : DataW H × List MemPlace} (ht : P.underlying t = some (.slice e)) (he : P.underlying e = some .string) (hc : P.cellsOf e = 1)
    (h : DataW.trod enc P W 0 (fun _ => true) true fuel t [v] = some x) (hok : Cell.okWide P W .any base t v) :
    ∃ to : List (List UInt8), VRel (ghost0 W) (.sl to.length (to.map .str) .ro) v ∧ (∀ i, i < to.length → (to.getD i []).length ≤ 9223372036854775807) ∧ to.length ≤ 9223372036854775807 := read_strs0 (base := base) ht he hc h

theorem read_bytes0 {W : World} {base : Nat} {t e : TypeId} {v : Value} {fuel : Nat} {x : DataW H × List MemPlace} (ht : P.underlying t = some (.slice e)) (he : P.underlying e = some (.int .u8)) (hc : P.cellsOf e = 1)
    (h : DataW.trod enc P W 0 (fun _ => true) true fuel t [v] = some x) :
    ∃ s : List UInt8, VRel (ghost0 W) (.sl s.length (bytesAV s) .ro) v ∧ s.length ≤ 9223372036854775807 := by
  have hm : maxLen = 9223372036854775807 := by decide
  rcases open_ints ht he hc h with ⟨h1, _⟩ | ⟨a, len, cap, zs, h1, h2, h3, h4, h5, _, h7, h8⟩
  · injection h1 with h1; subst h1
    exact ⟨[], .nsl _ trivial, by simp⟩
  · injection h1 with h1; subst h1
    simp only [if_true] at h5
    by_cases hcap0 : cap = 0
    · obtain rfl : len = 0 := by omega
      subst hcap0
      exact ⟨[], .nsl _ trivial, by simp⟩
    have hs := spot_of_add0 (h7 0 (by omega))
    have hwf : ∀ i, i < len → 0 ≤ zs.getD i 0 ∧ zs.getD i 0 ≤ 255 := by
      intro i hi
      have := h8 (zs.getD i 0) (by rw [List.getD_eq_getElem?_getD, List.getElem?_eq_getElem (by omega)]; exact List.getElem_mem _)
      simpa [Lit.wf, IntKind.min, IntKind.max, IntKind.signed, IntKind.bits] using this
    refine ⟨(List.range len).map fun i => UInt8.ofNat (zs.getD i 0).toNat, ?_, ?_⟩
    · rw [List.length_map, List.length_range, addr_eq hs]
      refine .sl _ _ _ _ _ _ (fun i => if i < len then .int .u8 (zs.getD i 0) else undef) h3 (fun i hi => ?_) (fun i => ?_) trivial
      · rw [bytesAV_len, List.length_map, List.length_range] at hi
        show W.cell? ⟨a.block, a.off + i, none⟩ = _
        rw [← addr_add hs, h7 i (by omega), if_pos hi]
      · by_cases hi : i < len
        · rw [if_pos hi]
          have : (bytesAV ((List.range len).map fun i => UInt8.ofNat (zs.getD i 0).toNat)).getD i .top = .int .u8 (zs.getD i 0) := by
            have hb := hwf i hi
            rw [List.getD_eq_getElem?_getD]
            simp only [bytesAV, List.getElem?_map, List.getElem?_range hi, Option.map_some, Option.getD_some, byteAV]
            congr 1
            rw [UInt8.toNat_ofNat_of_lt' (by show _ < 256; omega)]
            omega
          rw [this]; exact .int _ _
        · rw [List.getD_eq_getElem?_getD, List.getElem?_eq_none (by rw [bytesAV_len, List.length_map, List.length_range]; omega)]; exact .top _
    · rw [List.length_map, List.length_range]; omega
theorem read_bytes {W : World} {base : Nat} {t e : TypeId} {v : Value} {fuel : Nat} {x : DataW H × List MemPlace} (ht : P.underlying t = some (.slice e)) (he : P.underlying e = some (.int .u8)) (hc : P.cellsOf e = 1)
    (h : DataW.trod enc P W 0 (fun _ => true) true fuel t [v] = some x) (hok : Cell.okWide P W .any base t v) :
    ∃ s : List UInt8, VRel (ghost0 W) (.sl s.length (bytesAV s) .ro) v ∧ s.length ≤ 9223372036854775807 := read_bytes0 (base := base) ht he hc h

end

end Go.Ab

/- The abstract view, 22: a law's row from its walk. -/
set_option linter.unusedVariables false
namespace Go.Ab
open Go Go.RowKit

/-- The cells of a listed datum. -/
def cellsD {H : Type} : DataW H → List Value
  | .lit (.int k n) => [.int k n]
  | .lit (.bool b) => [.bool b]
  | .lit (.string s) => [.string ⟨s.toArray⟩]
  | .agg ds => cellsDs ds
  | _ => []
where cellsDs : List (DataW H) → List Value
  | [] => []
  | d :: ds => cellsD d ++ cellsDs ds

/-- A block's cells laid. -/
noncomputable def layBlock (w : World) (g : Nat) (cs : List Value) : World :=
  { w with heap := w.heap.modify g fun
      | .cells _ t frozen => .cells cs.toArray t frozen
      | o => o }

/-- From a contract in the abstract view to a call that a row asks for. -/
theorem calls_of_enter {E : Env} {P : Program} {W : World} {f : FuncId} {args : List AV} {cs : Array Value} {R : Ending → World → Prop} (hP : E.P = P) (hn : E.n0 = W.heap.size) (hw : E.w0 = W) (hg : E.gl = fun _ => []) (h : AEnter E f args [] (fun x H' => x = .ret (.bool true) ∧ H' = [])) (ha : VRels (ghost0 W) args cs)
    (hR : ∀ W', Below W.heap.size W W' → R (.returned (.bool true)) W') : Calls P f cs W R := by
  subst hP
  have hrep : E.Rep (ghost0 W) [] W := by
    show Ab.Rep E.n0 E.w0 E.gl (ghost0 W) [] W
    rw [hn, hw, hg]; exact rep0 W
  refine callsIn_wide.1 ((h _ _ _ hrep ha).2.mono ?_)
  rintro e W' ⟨x, H, g, ⟨rfl, rfl⟩, hl, hr, he⟩
  cases he with
  | ret hv =>
    have hv' := hv.bool_inv
    subst hv'
    have hb := hr.below
    rw [hn, hw] at hb
    exact hR W' hb

/-- One argument's outer form. -/
theorem param_ok {P : Program} {W : World} {base : Nat} {params : Array TypeId} {args : Array Value} (hval : ∀ (j : Nat) t v, params[j]? = some t → args[j]? = some v → Value.okWide P W .any base t v) {j t : Nat} {v : Value} (h1 : params[j]? = some t) (h2 : args[j]? = some v) : Value.okWide P W .any base t v := hval j t v h1 h2

end Go.Ab

/- The abstract view, 22b: a law's row from its walk, with what is known of package-level variables. -/
set_option linter.unusedVariables false
set_option linter.unusedSimpArgs false
namespace Go.Ab
open Go Go.RowKit

/-- A plain cell's abstract value. -/
def absCell : Value → AV
  | .int k n => .int k n
  | .bool b => .bool b
  | .string s => .str s.data.toList
  | _ => .top
theorem absCell_rel (g : Ghost) (v : Value) : VRel g (absCell v) v := by
  cases v <;> first | exact .top _ | exact .int _ _ | exact .bool _ | exact .str _ _ rfl
/-- What a world's block holds. -/
def glW (W : World) (i : Nat) : List AV := match W.heap[i]? with
  | some (.cells cs _ _) => cs.toList.map absCell
  | _ => []
theorem glW_glob (W : World) (i : Nat) : VRel (ghost0 W) (.row (glW W i)) (.pointer (some ⟨i, 0, none⟩)) := by
  refine .row _ i 0 (fun k => (W.cell? ⟨i, k, none⟩).getD undef) (fun k hk => ?_) (fun k => ?_)
  · show W.cell? ⟨i, 0 + k, none⟩ = some _
    rw [Nat.zero_add]
    unfold glW at hk
    cases h : W.heap[i]? with
    | none => rw [h] at hk; simp at hk
    | some o =>
      rw [h] at hk
      cases o <;> simp at hk
      rename_i cs t z
      have : W.cell? ⟨i, k, none⟩ = cs[k]? := by unfold World.cell?; simp [h]
      rw [this, Array.getElem?_eq_getElem hk]; rfl
  · by_cases hk : k < (glW W i).length
    · unfold glW at hk ⊢
      cases h : W.heap[i]? with
      | none => rw [h] at hk; simp at hk
      | some o =>
        rw [h] at hk
        cases o <;> simp at hk
        rename_i cs t z
        have : W.cell? ⟨i, k, none⟩ = cs[k]? := by unfold World.cell?; simp [h]
        simp only [this, Array.getElem?_eq_getElem hk, Option.getD_some, List.getD_eq_getElem?_getD, List.getElem?_map, Array.getElem?_toList, Option.map_some]
        exact absCell_rel _ _
    · rw [List.getD_eq_getElem?_getD, List.getElem?_eq_none (by omega)]; exact .top _

theorem rep0g (W : World) : Rep W.heap.size W (glW W) (ghost0 W) [] W :=
  ⟨Below.refl _ _, Nat.le_refl _, fun b o v h => h, rfl, fun _ _ _ => rfl, fun i o h => by simp at h, fun i j b h => by simp [own] at h, glW_glob W⟩

/-- From a contract in the abstract view to a call that a row asks for. -/
theorem calls_of_law {E : Env} {P : Program} {W : World} {f : FuncId} {args : List AV} {cs : Array Value} {R : Ending → World → Prop} (hP : E.P = P) (hn : E.n0 = W.heap.size) (hw : E.w0 = W) (hg : E.gl = glW W) (h : AEnter E f args [] (fun x H' => x = .ret (.bool true) ∧ H' = [])) (ha : VRels (ghost0 W) args cs)
    (hR : ∀ W', Below W.heap.size W W' → R (.returned (.bool true)) W') : Calls P f cs W R := by
  subst hP
  have hrep : E.Rep (ghost0 W) [] W := by
    show Ab.Rep E.n0 E.w0 E.gl (ghost0 W) [] W
    rw [hn, hw, hg]; exact rep0g W
  refine callsIn_wide.1 ((h _ _ _ hrep ha).2.mono ?_)
  rintro e W' ⟨x, H, g, ⟨rfl, rfl⟩, hl, hr, he⟩
  cases he with
  | ret hv =>
    have hv' := hv.bool_inv
    subst hv'
    have hb := hr.below
    rw [hn, hw] at hb
    exact hR W' hb

/-- A package-level variable of whole numbers, in a world of the program's shape. -/
theorem glInt_of_shaped {P : Program} {W : World} {g : Nat} {t : TypeId} {zero : Array Value}
    (h : W.ShapedOpen P) (hg : g < P.globals.size)
    (h0 : ((begin P (fun _ _ => 0) default).world.heap[g]?).bind Obj.row? = some (zero, t)) (hz : zero.size = 1)
    (hb : P.buildable t = true) (hc : P.cellTypes P.depth t = some [t]) (hu : P.underlying t = some (.int .i64)) : GLInt (glW W) g := by
  obtain ⟨m, hm⟩ := Go.Proofs.cell_of_shapedOpen_int h hg h0 hz hb hc hu
  obtain ⟨cs, hh, hs, _⟩ := h.1 g zero t hg h0
  refine ⟨m, ?_⟩
  have h1 : cs.size = 1 := by omega
  have hcell : W.cell? ⟨g, 0, none⟩ = cs[0]? := by unfold World.cell?; simp [hh]
  rw [hm, Array.getElem?_eq_getElem (by omega)] at hcell
  unfold glW
  simp only [hh]
  have : cs.toList = [cs[0]] := by
    apply List.ext_getElem
    · simp [h1]
    · intro i h2 h3
      have : i = 0 := by simp at h3; exact h3
      subst this; simp
  rw [this, ← Option.some.inj hcell]; rfl

end Go.Ab

/- The abstract view, 22c: slices whose elements are several cells, read. -/
set_option linter.unusedVariables false
set_option linter.unusedSimpArgs false
namespace Go.Ab
open Go Go.RowKit Go.ChangeShapes Go.WideShapes Go.Deep

theorem flatMap_len {α : Type} (f : α → List AV) {k : Nat} (hf : ∀ a, (f a).length = k) : ∀ l : List α, (l.flatMap f).length = l.length * k
  | [] => by simp
  | a :: l => by rw [List.flatMap_cons, List.length_append, flatMap_len f hf l, hf, List.length_cons, Nat.succ_mul, Nat.add_comm]
theorem flatMap_at {α : Type} (f : α → List AV) {k : Nat} (hf : ∀ a, (f a).length = k) : ∀ (l : List α) (i r : Nat) (h : i < l.length), r < k → (l.flatMap f).getD (i * k + r) .top = (f l[i]).getD r .top
  | a :: l, 0, r, h, hr => by
    simp only [List.flatMap_cons, Nat.zero_mul, Nat.zero_add, List.getD_eq_getElem?_getD, List.getElem_cons_zero]
    rw [List.getElem?_append_left (by rw [hf]; exact hr)]
  | a :: l, i + 1, r, h, hr => by
    have := flatMap_at f hf l i r (by simpa using h) hr
    simp only [List.flatMap_cons, List.getD_eq_getElem?_getD, List.getElem_cons_succ] at this ⊢
    rw [List.getElem?_append_right (by rw [hf, Nat.succ_mul]; omega), hf, show (i + 1) * k + r - k = i * k + r by rw [Nat.succ_mul]; omega]
    exact this

section
variable {H : Type} {enc : TypeId × Value → H} {P : Program}

/-- A slice of elements of k cells. -/
theorem read_slice0 {α : Type} (ea : α → List AV) (Q : α → Prop) {k : Nat} {W : World} {base : Nat} {t e : TypeId} {v : Value} {fuel : Nat} {x : DataW H × List MemPlace} (ht : P.underlying t = some (.slice e)) (hc : P.cellsOf e = k) (hk : 0 < k)
    (hlen : ∀ a, (ea a).length = k)
    (hel : ∀ n cs y, DataW.trod enc P W 0 (fun _ => true) true n e cs = some y → cs.length = k → ∃ a : α, Q a ∧ ∀ i, i < k → VRel (ghost0 W) ((ea a).getD i .top) (cs.getD i undef))
    (h : DataW.trod enc P W 0 (fun _ => true) true fuel t [v] = some x) :
    ∃ l : List α, VRel (ghost0 W) (.sl l.length (l.flatMap ea) .ro) v ∧ l.length ≤ 9223372036854775807 ∧ ∀ a ∈ l, Q a := by
  have hm : maxLen = 9223372036854775807 := by decide
  rcases open_slice ht h with ⟨h1, _⟩ | ⟨a, len, cap, m, n, D, Pl, h1, h2, h3, h4, h5, _, h7⟩
  · injection h1 with h1; subst h1
    exact ⟨[], .nsl _ trivial, by simp, by simp⟩
  · injection h1 with h1; subst h1
    simp only [if_true] at h5
    subst h5
    rw [hc] at h7
    by_cases hcap0 : m = 0
    · obtain rfl : len = 0 := by omega
      subst hcap0
      exact ⟨[], .nsl _ trivial, by simp, by simp⟩
    have hs : a.spot = none := by
      obtain ⟨cs0, c1, _⟩ := h7 0 (by omega)
      obtain ⟨_, c3, c4⟩ := World.cells?_some c1
      have h0 := c4 0 hk
      have e1 : (0 : Nat) * k = 0 := Nat.zero_mul k
      rw [e1] at h0
      have e : (a.add 0).add 0 = a.add 0 := by simp [Addr.add]
      rw [e, List.getElem?_eq_getElem (by omega)] at h0
      exact spot_of_add0 h0
    have each : ∀ i, i < len → ∃ a' : α, Q a' ∧ ∀ r, r < k → ∃ c, W.cell? ⟨a.block, a.off + (i * k + r), none⟩ = some c ∧ VRel (ghost0 W) ((ea a').getD r .top) c := by
      intro i hi
      obtain ⟨cs', c1, c2⟩ := h7 i (by omega)
      obtain ⟨_, c3, c4⟩ := World.cells?_some c1
      obtain ⟨a', q, hv⟩ := hel n cs' _ c2 c3
      refine ⟨a', q, fun r hr => ⟨cs'.getD r undef, ?_, hv r hr⟩⟩
      have := c4 r hr
      rw [addr_add hs] at this
      have h9 : (⟨a.block, a.off + i * k, none⟩ : Addr).add r = ⟨a.block, a.off + (i * k + r), none⟩ := by rw [add_none]; congr 1; omega
      rw [h9] at this
      rw [this, List.getD_eq_getElem?_getD, List.getElem?_eq_getElem (by omega)]; rfl
    let l : List α := List.ofFn fun i : Fin len => (each i.1 i.2).choose
    have hll : l.length = len := List.length_ofFn
    have hat : ∀ i (hi : i < len) (hi' : i < l.length), l[i] = (each i hi).choose := fun i hi hi' => List.getElem_ofFn ..
    have hxl : (l.flatMap ea).length = len * k := by rw [flatMap_len ea hlen, hll]
    refine ⟨l, ?_, by rw [hll]; omega, fun a' ha => ?_⟩
    · rw [hll, addr_eq hs]
      refine .sl _ _ _ _ _ _ (fun j => (W.cell? ⟨a.block, a.off + j, none⟩).getD undef) h3 (fun j hj => ?_) (fun j => ?_) trivial
      · rw [hxl] at hj
        have hjk : j / k < len := Nat.div_lt_of_lt_mul (by rw [Nat.mul_comm]; exact hj)
        obtain ⟨c, e1, e2⟩ := (each (j / k) hjk).choose_spec.2 (j % k) (Nat.mod_lt _ hk)
        have e3 : j / k * k + j % k = j := by rw [Nat.mul_comm]; exact Nat.div_add_mod j k
        rw [e3] at e1
        show W.cell? ⟨a.block, a.off + j, none⟩ = _
        rw [e1]; rfl
      · by_cases hj : j < len * k
        · have hjk : j / k < len := Nat.div_lt_of_lt_mul (by rw [Nat.mul_comm]; exact hj)
          obtain ⟨c, e1, e2⟩ := (each (j / k) hjk).choose_spec.2 (j % k) (Nat.mod_lt _ hk)
          have e3 : j / k * k + j % k = j := by rw [Nat.mul_comm]; exact Nat.div_add_mod j k
          have e4 := flatMap_at ea hlen l (j / k) (j % k) (by omega) (Nat.mod_lt _ hk)
          rw [e3, hat _ hjk] at e4
          rw [e4]
          rw [e3] at e1
          simp only [e1, Option.getD_some]
          exact e2
        · rw [List.getD_eq_getElem?_getD, List.getElem?_eq_none (by omega)]; exact .top _
    · obtain ⟨i, hi, rfl⟩ := List.getElem_of_mem ha
      rw [hat i (by omega) hi]
      exact (each i (by omega)).choose_spec.1
theorem read_slice {α : Type} (ea : α → List AV) (Q : α → Prop) {k : Nat} {W : World} {base : Nat} {t e : TypeId} {v : Value} {fuel : Nat} {x : DataW H × List MemPlace} (ht : P.underlying t = some (.slice e)) (hc : P.cellsOf e = k) (hk : 0 < k)
    (hlen : ∀ a, (ea a).length = k)
    (hel : ∀ n cs y, DataW.trod enc P W 0 (fun _ => true) true n e cs = some y → cs.length = k → ∃ a : α, Q a ∧ ∀ i, i < k → VRel (ghost0 W) ((ea a).getD i .top) (cs.getD i undef))
    (h : DataW.trod enc P W 0 (fun _ => true) true fuel t [v] = some x) (hok : Cell.okWide P W .any base t v) :
    ∃ l : List α, VRel (ghost0 W) (.sl l.length (l.flatMap ea) .ro) v ∧ l.length ≤ 9223372036854775807 ∧ ∀ a ∈ l, Q a := read_slice0 (base := base) ea Q ht hc hk hlen hel h
end

end Go.Ab
