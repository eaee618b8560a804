/- The abstract view, 10: operations that make memory, but for append. -/
import Derived.Test.YtlcbdgklbjocnaaDoorAb9
import Derived.Lib.ConvBytes
set_option linter.unusedVariables false
set_option linter.unusedSimpArgs false
namespace Go.Ab
open Go Go.RowKit

variable {E : Env} {g : Ghost} {H : List AO} {w w' : World} {a : AAct} {a' : Act}

def AV.isTop : AV → Bool
  | .top => true
  | _ => false

theorem AV.ne_top {v : AV} (h : v.isTop = false) : v ≠ .top := by rintro rfl; simp [AV.isTop] at h

/-- The parts of a struct or slice literal, laid one behind the other. -/
def evFill (place : Nat → Option (Nat × Nat)) : List AV → List (Nat × AV) → Option (List AV)
  | xs, [] => some xs
  | xs, (i, v) :: rest =>
    match place i with
    | none => none
    | some (off, size) => if v.isTop = false ∧ (cellsOf v).length = size ∧ off + size ≤ xs.length then evFill place (setRange xs off (cellsOf v)) rest else none

theorem fill_sound {place place' : Nat → Option (Nat × Nat)} (hp : ∀ i x, place i = some x → place' i = some x) : ∀ (parts : List (Nat × AV)) (parts' : List (Nat × Value)), parts'.length = parts.length →
    (∀ (k i : Nat) (v : AV), parts[k]? = some (i, v) → ∃ c, parts'[k]? = some (i, c) ∧ VRel g v c) → ∀ (xs : List AV) (cs : Array Value), VRels g xs cs → ∀ ys, evFill place xs parts = some ys →
    ∃ ds, Instr.fill place' cs parts' = some ds ∧ VRels g ys ds ∧ ys.length = xs.length := by
  intro parts
  induction parts with
  | nil =>
    intro parts' hl hk xs cs hx ys h
    cases parts' with
    | nil => simp only [evFill] at h; injection h with h; subst h; exact ⟨cs, rfl, hx, rfl⟩
    | cons => simp at hl
  | cons p rest ih =>
    intro parts' hl hk xs cs hx ys h
    obtain ⟨i, v⟩ := p
    cases parts' with
    | nil => simp at hl
    | cons q rest' =>
      obtain ⟨c, hc, hv⟩ := hk 0 i v rfl
      simp only [List.getElem?_cons_zero] at hc; injection hc with hc; subst hc
      simp only [evFill] at h
      split at h
      · simp at h
      · rename_i off size hpl
        split at h
        · rename_i hc
          obtain ⟨h1, h2, h3⟩ := hc
          have hcr := cells_rel hv (AV.ne_top h1)
          have hsz : off + (cellsOf v).length ≤ xs.length := by omega
          have hrel : VRels g (setRange xs off (cellsOf v)) (setA cs off c.cells.toList) := by
            refine ⟨by rw [setA_size, setRange_len _ _ _ hsz]; exact hx.1, setRange_rel hsz (by rw [hx.1]; exact Nat.le_refl _) hx.2 (by simp [hcr.1]) (fun k => ?_)⟩
            have := hcr.2 k
            simpa [Array.getD_eq_getD_getElem?, List.getD_eq_getElem?_getD] using this
          obtain ⟨ds, e1, e2, e3⟩ := ih rest' (by simpa using hl) (fun k i v hkv => hk (k + 1) i v hkv) _ _ hrel ys h
          refine ⟨ds, ?_, e2, by rw [e3, setRange_len _ _ _ hsz]⟩
          simp only [Instr.fill, hp _ _ hpl]
          rw [if_neg (by rw [hcr.1]; have := hx.1; simp; omega)]
          have := zipIdx_fold c.cells.toList 0 off cs
          rw [Nat.add_zero] at this
          rw [← this] at e1
          have hz : (c.cells.zipIdx.foldl (fun cs x => cs.setIfInBounds (off + x.2) x.1) cs) = (c.cells.toList.zipIdx 0).foldl (fun cs (x : Value × Nat) => cs.setIfInBounds (off + x.2) x.1) cs := by
            rw [← Array.foldl_toList]; congr 1; simp
          rw [← e1, ← hz]
        · simp at h

/-! ### What is made -/
def evParts (a : AAct) (gl : Nat → List AV) (parts : Array (Nat × Operand)) : List (Nat × AV) := parts.toList.map fun p => (p.1, a.ev gl p.2)

def structPlace (E : Env) (fs : List (Nat × TypeId)) (i : Nat) : Option (Nat × Nat) :=
  match fs[i]? with
  | some (off, ft) => (E.ty ft).map fun j => (off, j.size)
  | none => none

def evBuild (E : Env) (a : AAct) (t : TypeId) (parts : Array (Nat × Operand)) : Option AV :=
  match E.ty t with
  | some i => match i.u with
    | .struct fs => if fs.all (fun f => (E.ty f.2).isSome) then (evFill (structPlace E fs) i.zero (evParts a E.gl parts)).map .agg else none
    | .arr n e => match E.ty e with
      | some j => (evFill (fun k => some (k * j.size, j.size)) i.zero (evParts a E.gl parts)).map .agg
      | none => none
    | _ => none
  | none => none

/-- n times the cells. -/
def rep (zs : List AV) : Nat → List AV
  | 0 => []
  | n + 1 => zs ++ rep zs n

def evBuildSlice (E : Env) (a : AAct) (t : TypeId) (n : Nat) (parts : Array (Nat × Operand)) : Option (List AV) :=
  match E.ty t with
  | some i => match i.u with
    | .sl e => match E.ty e with
      | some j => if 0 < j.size ∧ n * j.size ≤ 16777216 then evFill (fun k => some (k * j.size, j.size)) (rep j.zero n) (evParts a E.gl parts) else none
      | none => none
    | _ => none
  | none => none

/-- Operations that make or turn memory. md: of each temporary, how what it gets is to be seen (0: as usual). -/
def evHeap (E : Env) (md : Nat → Nat) (a : AAct) (H : List AO) (o : Oper) : Option (AV × List AO) :=
  match o.op with
  | .alloc t => match E.ty t with
    | some i => some (.ref H.length 0, H ++ [.cells i.zero])
    | none => none
  | .box t x => match E.ty t with
    | some i => if (a.ev E.gl x).isTop = false ∧ (cellsOf (a.ev E.gl x)).length = i.size then
        (if md (o.dst.getD 0) = 1 then some (.row (cellsOf (a.ev E.gl x)), H) else some (.ref H.length 0, H ++ [.cells (cellsOf (a.ev E.gl x))])) else none
    | none => none
  | .build t parts => (evBuild E a t parts).map fun v => (v, H)
  | .buildSlice t n parts => match evBuildSlice E a t n parts with
    | some xs => if md (o.dst.getD 0) = 2 then some (.msl H.length 0 n, H ++ [.cells xs]) else some (.sl n xs .full, H)
    | none => none
  | .store t p x => match E.ty t with
    | some i => if (a.ev E.gl x).isTop = false ∧ (cellsOf (a.ev E.gl x)).length = i.size then (writeCells H (cellsOf (a.ev E.gl x)) (a.ev E.gl p)).map fun H' => (.top, H') else none
    | none => none
  | .convert src dst x => match E.ty src, E.ty dst, a.ev E.gl x with
    | some i, some j, .str s => match i.u, j.u with
      | .str, .sl e => match E.ty e with
        | some ⟨.int .u8, _, _, _⟩ => if md (o.dst.getD 0) = 2 then some (.msl H.length 0 s.length, H ++ [.cells (bytesAV s)]) else some (.sl s.length (bytesAV s) .ro, H)
        | _ => none
      | _, _ => none
    | some i, some j, .msl id 0 n => match i.u, j.u with
      | .sl _, .sl e => if src = dst then match E.ty e, H[id]? with
        | some ⟨.int .u8, _, _, _⟩, some (.cells xs) => if xs.length = n ∧ 0 < n then some (.sl n xs .ro, H.set id .dead) else none
        | _, _ => none else none
      | _, _ => none
    | _, _, _ => none
  | .range t x => match E.ty t, a.ev E.gl x with
    | some i, .str s => match i.u with
      | .str => some (.ref H.length 0, H ++ [.iter s 0])
      | _ => none
    | _, _ => none
  | .next it true => match a.ev E.gl it with
    | .ref id 0 => match H[id]? with
      | some (.iter s pos) => if pos < s.length then some (.tup [.bool true, .int .i64 pos, .int .i32 ((Utf8.decode ⟨s.toArray⟩ pos).1 : Int)], H.set id (.iter s (pos + (Utf8.decode ⟨s.toArray⟩ pos).2)))
        else some (.tup [.bool false], H)
      | _ => none
    | _ => none
  | _ => none

/-- An operation that may turn memory goes well, and leaves a value or none. -/
def HGives (E : Env) (g : Ghost) (s : Sem Next) (w : World) (v : AV) (H' : List AO) : Prop :=
  ∃ nx w' g', s.run E.P w = .ok nx w' ∧ GLe g g' ∧ E.Rep g' H' w' ∧ ((∃ c, nx = .value c ∧ VRel g' v c) ∨ (nx = .skip ∧ v = .top))

theorem HGives.of_value {s : Sem Value} {v : AV} {H' : List AO} {c : Value} {g' : Ghost} (h1 : s.run E.P w = .ok c w') (h2 : GLe g g') (h3 : E.Rep g' H' w') (h4 : VRel g' v c) : HGives E g (do pure (.value (← s))) w v H' :=
  ⟨.value c, w', g', by rw [Sem.run_bind, h1]; rfl, h2, h3, .inl ⟨c, rfl, h4⟩⟩

theorem new_cells (hr : E.Rep g H w) {cs : Array Value} {T : TypeId} {fz : Nat × Nat} (hg : Grew w (.cells cs T fz) w') {xs : List AV} (hl : xs.length ≤ cs.size) (hx : ∀ k, VRel g (xs.getD k .top) (cs.getD k undef)) (hfz : ∀ k, k < xs.length → ¬ (fz.1 ≤ k ∧ k < fz.2)) :
    E.Rep (g.push w.heap.size) (H ++ [.cells xs]) w' ∧ (g.push w.heap.size).phi[H.length]? = some w.heap.size := by
  have hp : (g.push w.heap.size).phi[H.length]? = some w.heap.size := by
    show (g.phi ++ [w.heap.size])[H.length]? = _
    rw [← hr.len, List.getElem?_append_right (Nat.le_refl _), Nat.sub_self]; rfl
  refine ⟨hr.alloc hg _ (by simp) ⟨w.heap.size, cs, T, fz, hp, Nat.le_trans hr.n0le hr.below.size, hg.new, hl, fun k => (hx k).mono (g.push_le _), hfz, fun o => ?_⟩, hp⟩
  show g.K _ _ = none
  cases hk : g.K w.heap.size o with
  | none => rfl
  | some v => exact absurd (hr.K_lt hk) (by omega)

theorem known_rel (hr : E.Rep g H w) {cs : Array Value} {n : Nat} {xs : List AV} (hl : xs.length ≤ n) (hc : n ≤ cs.size) (hx : ∀ k, VRel g (xs.getD k .top) (cs.getD k undef)) :
    let g' := g.learn w.heap.size (fun o => if o < n then cs[o]? else none)
    (∀ i, i < xs.length → g'.K w.heap.size (0 + i) = some (cs.getD i undef)) ∧ ∀ i, VRel g' (xs.getD i .top) (cs.getD i undef) := by
  refine ⟨fun i hi => ?_, fun i => (hx i).mono (g.learn_le _ _)⟩
  rw [Nat.zero_add]
  refine learn_new hr cs n i (by omega) ?_
  rw [Array.getD_eq_getD_getElem?, Array.getElem?_eq_getElem (show i < cs.size by omega)]; rfl

theorem bytes_rel (w0 : World) (e : TypeId) (b : ByteArray) : (∀ k, VRel g ((bytesAV b.data.toList).getD k .top) ((Lib.bytesCells w0 e b).getD k undef)) ∧ (bytesAV b.data.toList).length ≤ (Lib.bytesCells w0 e b).size := by
  refine ⟨fun k => ?_, by simp [bytesAV, Lib.bytesCells]⟩
  simp only [bytesAV, List.getD_eq_getElem?_getD, Array.getD_eq_getD_getElem?, List.getElem?_map, Array.getElem?_toList]
  cases h : b.data[k]? with
  | none => exact .top _
  | some x =>
    have hk : k < b.data.size := (Array.getElem?_eq_some_iff.1 h).1
    have : (Lib.bytesCells w0 e b)[k]? = some (.int .u8 x.toNat) := by
      simp only [Lib.bytesCells]
      rw [Array.getElem?_append_left (by simpa using hk)]
      simp [h]
    rw [this]; exact .int _ _

theorem bytesWorld_grew (w : World) (e : TypeId) (s : ByteArray) : Grew w (.cells (Lib.bytesCells w e s) e ((Lib.bytesCells w e s).size, (Lib.bytesCells w e s).size + 1)) (Lib.bytesWorld w e s) := by
  refine ⟨Lib.bytesWorld_at_new w e s, fun k hk => Lib.bytesWorld_at_old w e s k hk, Lib.bytesWorld_size w e s, ?_, ?_, ?_⟩
  all_goals
    unfold Lib.bytesWorld World.freeze
    split <;> rfl

end Go.Ab
