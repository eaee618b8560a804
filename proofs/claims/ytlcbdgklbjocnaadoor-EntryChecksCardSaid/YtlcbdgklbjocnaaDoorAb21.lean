/- The abstract view, 21: from a row's reading of the arguments to abstract values, and back to what a row asks. -/
import Derived.Test.YtlcbdgklbjocnaaDoorAb20
import Derived.Carry
import Derived.SliceStrings
import Derived.ChangeSlices
import Derived.OpenShut
set_option linter.unusedVariables false
set_option linter.unusedSimpArgs false
namespace Go.Ab
open Go Go.RowKit Go.ChangeShapes Go.WideShapes

/-- What is known when a call comes in from outside: every cell there is. -/
def ghost0 (W : World) : Ghost := ⟨fun b o => W.cell? ⟨b, o, none⟩, [], fun _ _ => none⟩

theorem rep0 (W : World) : Rep W.heap.size W (fun _ => []) (ghost0 W) [] W :=
  ⟨Below.refl _ _, Nat.le_refl _, fun b o v h => h, rfl, fun _ _ _ => rfl, fun i o h => by simp at h, fun i j b h => by simp [own] at h, fun i => .row [] i 0 (fun _ => undef) (fun k hk => by simp at hk) (fun _ => .top _)⟩

section
variable {H : Type} {enc : TypeId × Value → H} {P : Program}

theorem trodAll_below (hl : laidOutB P = true) {W W' : World} (hb : Below W.heap.size W W') : ∀ (ts : List TypeId) (vs : List Value) (ds : List (DataW H)) (ps : List MemPlace), (∀ t ∈ ts, P.readableRec t = true ∧ t < P.types.size) →
    DataW.TrodAll enc P W 0 (fun _ => true) true ts vs ds ps → (∀ x ∈ ps, x.block < W.heap.size) → DataW.TrodAll enc P W' 0 (fun b => decide (b < W.heap.size)) true ts vs ds ps := by
  intro ts
  induction ts with
  | nil =>
    intro vs ds ps _ h _
    cases vs <;> cases ds <;> first | exact h | exact h.elim
  | cons t ts ih =>
    intro vs ds ps hr h hlt
    cases vs with
    | nil => exact (by cases ds <;> exact h.elim)
    | cons v vs =>
      cases ds with
      | nil => exact h.elim
      | cons d ds =>
        obtain ⟨p, q, h1, h2, rfl⟩ := h
        obtain ⟨r1, r2⟩ := hr t (by simp)
        exact ⟨p, q, Below.trod hl r1 r2 h1 hb (fun x hx => hlt x (by simp [hx])), ih vs ds q (fun t ht => hr t (by simp [ht])) h2 (fun x hx => hlt x (by simp [hx])), rfl⟩

/-- **What a law's row asks behind the call.** -/
theorem law_post {f : Func} {s : ChangeSpec} {W W' : World} {args : Array Value} {ds gs : List (DataW H)} {before : List MemPlace} {t : TypeId} (hW : DataW.Whole enc P f.params.toList s.vars false W args.toList ds gs before) (hvars : s.vars = []) (hres : f.resultTypes = #[t]) (ht : P.underlying t = some .bool)
    (hfn : (s.fn H (ds ++ gs)).results = [.lit (.bool true)] ∧ (s.fn H (ds ++ gs)).args = ds ∧ (s.fn H (ds ++ gs)).vars = []) (hl : laidOutB P = true) (hr : ∀ t ∈ f.params.toList, P.readableRec t = true ∧ t < P.types.size) (hb : Below W.heap.size W W') :
    s.post enc P f false true false false W args (.bool true) W' := by
  have hlt := hW.lt
  have hW' := hW
  obtain ⟨p, q, hA, hV, rfl, hfz, hnd⟩ := hW
  rw [hvars] at hV
  obtain ⟨rfl, rfl⟩ := trodVars_none hV
  refine ⟨ds, [], p ++ [], [], p, [], hW', ?_, ?_, ?_, ⟨hb.os, hb.output, fun i hi => ?_⟩, fun h => by simp at h⟩
  · rw [hfn.1, hres]
    exact trodAll_cons_mk (shut_bool ht _) trodAll_mk0
  · rw [hfn.2.1]
    exact trodAll_below hl hb _ _ _ _ hr hA (fun x hx => by simpa using hlt x (by simp [hx]))
  · rw [hfn.2.2, hvars]
    rfl
  · rw [hb.block i hi]
    split
    · rename_i h1 h2
      rw [h1] at h2; injection h2 with h2; injection h2 with h3 h4 h5; subst h3; subst h4; subst h5
      exact ⟨rfl, rfl, rfl, fun _ _ => rfl⟩
    · rename_i h1 h2
      rw [h1] at h2; injection h2 with h2; injection h2 with h3 h4; subst h3; subst h4
      exact .inr ⟨rfl, rfl⟩
    · rfl

/-- One field of a struct that was read. -/
theorem field_at {fs : Array Field} {W : World} {base n : Nat} {sp : Nat → Bool} {hd : Bool} {cs : List Value} {xs : List (DataW H × List MemPlace)} (hf : ∀ (i : Nat) (f : Field), fs[i]? = some f → DataW.trod enc P W base sp hd n f.type ((cs.drop f.offset).take (P.cellsOf f.type)) = xs[i]?)
    (hl : xs.length = fs.size) (i t o : Nat) (h : (fs[i]?).map (fun f => (f.type, f.offset)) = some (t, o)) : ∃ x, DataW.trod enc P W base sp hd n t ((cs.drop o).take (P.cellsOf t)) = some x := by
  cases hi : fs[i]? with
  | none => rw [hi] at h; simp at h
  | some f =>
    rw [hi] at h
    simp only [Option.map_some, Option.some.injEq, Prod.mk.injEq] at h
    obtain ⟨h1, h2⟩ := h
    have := hf i f hi
    rw [h1, h2] at this
    have hlt : i < xs.length := by rw [hl]; exact (Array.getElem?_eq_some_iff.1 hi).1
    rw [List.getElem?_eq_getElem hlt] at this
    exact ⟨_, this⟩

/-- A slice's address has no spot. -/
theorem spot_of_ok {W : World} {base : Nat} {t e : TypeId} {a : Addr} {len cap : Nat} (ht : P.underlying t = some (.slice e)) (h : Cell.okWide P W .any base t (.slice (some a) len cap)) : a.spot = none := by
  simp only [Cell.okWide, ht, Cell.ok] at h
  exact h.2.2.2.1

theorem addr_eq {a : Addr} (h : a.spot = none) : a = ⟨a.block, a.off, none⟩ := by cases a; simp at h; subst h; rfl
theorem addr_add {a : Addr} (h : a.spot = none) (i : Nat) : a.add i = ⟨a.block, a.off + i, none⟩ := by
  rw [addr_eq h]; exact add_none _ _ _

/-- A slice of strings. -/
theorem read_strs {W : World} {base : Nat} {t e : TypeId} {v : Value} {fuel : Nat} {x : DataW H × List MemPlace} (ht : P.underlying t = some (.slice e)) (he : P.underlying e = some .string) (hc : P.cellsOf e = 1)
    (h : DataW.trod enc P W 0 (fun _ => true) true fuel t [v] = some x) (hok : Cell.okWide P W .any base t v) :
    ∃ to : List (List UInt8), VRel (ghost0 W) (.sl to.length (to.map .str) .ro) v ∧ (∀ i, i < to.length → (to.getD i []).length ≤ 9223372036854775807) ∧ to.length ≤ 9223372036854775807 := by
  have hm : maxLen = 9223372036854775807 := by decide
  rcases open_strings ht he hc h with ⟨h1, _⟩ | ⟨a, len, cap, ss, h1, h2, h3, h4, h5, _, h7, h8⟩
  · injection h1 with h1; subst h1
    exact ⟨[], .nsl _ trivial, fun i hi => by simp at hi, by simp⟩
  · injection h1 with h1; subst h1
    have hs := spot_of_ok ht hok
    simp only [if_true] at h5
    have hlen : (ss.take len).length = len := by rw [List.length_take]; omega
    have hget : ∀ i, i < len → ((ss.take len).map fun s : ByteArray => s.data.toList).getD i [] = (ss.getD i ByteArray.empty).data.toList := by
      intro i hi
      rw [List.getD_eq_getElem?_getD, List.getElem?_map, List.getElem?_take, if_pos hi, List.getD_eq_getElem?_getD]
      rw [List.getElem?_eq_getElem (by omega)]; rfl
    refine ⟨(ss.take len).map fun s : ByteArray => s.data.toList, ?_, fun i hi => ?_, ?_⟩
    · rw [List.length_map, hlen, addr_eq hs]
      refine .sl _ _ _ _ _ _ (fun i => if i < len then .string (ss.getD i ByteArray.empty) else undef) h3 (fun i hi => ?_) (fun i => ?_) trivial
      · rw [List.length_map, List.length_map, hlen] at hi
        show W.cell? ⟨a.block, a.off + i, none⟩ = _
        rw [← addr_add hs, h7 i (by omega), if_pos hi]
      · by_cases hi : i < len
        · rw [if_pos hi]
          have : (((ss.take len).map fun s : ByteArray => s.data.toList).map AV.str).getD i .top = .str ((ss.getD i ByteArray.empty).data.toList) := by
            rw [← hget i hi, List.getD_eq_getElem?_getD, List.getD_eq_getElem?_getD, List.getElem?_map, List.getElem?_eq_getElem (by rw [List.length_map, hlen]; exact hi)]; rfl
          rw [this]; exact .str _ _ rfl
        · rw [List.getD_eq_getElem?_getD, List.getElem?_eq_none (by rw [List.length_map, List.length_map, hlen]; omega)]; exact .top _
    · rw [List.length_map, hlen] at hi
      rw [hget i hi]
      have := h8 (ss.getD i ByteArray.empty) (by rw [List.getD_eq_getElem?_getD, List.getElem?_eq_getElem (by omega)]; exact List.getElem_mem _)
      rw [hm] at this
      rw [Array.length_toList]; exact this
    · rw [List.length_map, hlen]; omega

/-- A slice of bytes. -/
theorem read_bytes {W : World} {base : Nat} {t e : TypeId} {v : Value} {fuel : Nat} {x : DataW H × List MemPlace} (ht : P.underlying t = some (.slice e)) (he : P.underlying e = some (.int .u8)) (hc : P.cellsOf e = 1)
    (h : DataW.trod enc P W 0 (fun _ => true) true fuel t [v] = some x) (hok : Cell.okWide P W .any base t v) :
    ∃ s : List UInt8, VRel (ghost0 W) (.sl s.length (bytesAV s) .ro) v ∧ s.length ≤ 9223372036854775807 := by
  have hm : maxLen = 9223372036854775807 := by decide
  rcases open_ints ht he hc h with ⟨h1, _⟩ | ⟨a, len, cap, zs, h1, h2, h3, h4, h5, _, h7, h8⟩
  · injection h1 with h1; subst h1
    exact ⟨[], .nsl _ trivial, by simp⟩
  · injection h1 with h1; subst h1
    have hs := spot_of_ok ht hok
    simp only [if_true] at h5
    have hwf : ∀ i, i < len → 0 ≤ zs.getD i 0 ∧ zs.getD i 0 ≤ 255 := by
      intro i hi
      have := h8 (zs.getD i 0) (by rw [List.getD_eq_getElem?_getD, List.getElem?_eq_getElem (by omega)]; exact List.getElem_mem _)
      simpa [Lit.wf, IntKind.min, IntKind.max, IntKind.signed, IntKind.bits] using this
    refine ⟨(List.range len).map fun i => UInt8.ofNat (zs.getD i 0).toNat, ?_, ?_⟩
    · rw [List.length_map, List.length_range, addr_eq hs]
      refine .sl _ _ _ _ _ _ (fun i => if i < len then .int .u8 (zs.getD i 0) else undef) h3 (fun i hi => ?_) (fun i => ?_) trivial
      · rw [bytesAV_len, List.length_map, List.length_range] at hi
        show W.cell? ⟨a.block, a.off + i, none⟩ = _
        rw [← addr_add hs, h7 i (by omega), if_pos hi]
      · by_cases hi : i < len
        · rw [if_pos hi]
          have : (bytesAV ((List.range len).map fun i => UInt8.ofNat (zs.getD i 0).toNat)).getD i .top = .int .u8 (zs.getD i 0) := by
            have hb := hwf i hi
            rw [List.getD_eq_getElem?_getD]
            simp only [bytesAV, List.getElem?_map, List.getElem?_range hi, Option.map_some, Option.getD_some, byteAV]
            congr 1
            rw [UInt8.toNat_ofNat_of_lt' (by show _ < 256; omega)]
            omega
          rw [this]; exact .int _ _
        · rw [List.getD_eq_getElem?_getD, List.getElem?_eq_none (by rw [bytesAV_len, List.length_map, List.length_range]; omega)]; exact .top _
    · rw [List.length_map, List.length_range]; omega
end

end Go.Ab
