/- The abstract view, 9: cells written over; store, alloc, box, struct and slice literals. -/
import Derived.Test.YtlcbdgklbjocnaaDoorAb8
set_option linter.unusedVariables false
set_option linter.unusedSimpArgs false
namespace Go.Ab
open Go Go.RowKit

def setRange (xs : List AV) (off : Nat) (cs : List AV) : List AV := xs.take off ++ cs ++ xs.drop (off + cs.length)

def setA (arr : Array Value) (off : Nat) : List Value → Array Value
  | [] => arr
  | v :: vs => setA (arr.setIfInBounds off v) (off + 1) vs

theorem setA_size (vs : List Value) : ∀ (arr : Array Value) (off : Nat), (setA arr off vs).size = arr.size := by
  induction vs with
  | nil => intro arr off; rfl
  | cons v vs ih => intro arr off; simp [setA, ih]

theorem setA_get (vs : List Value) : ∀ (arr : Array Value) (off k : Nat), (setA arr off vs)[k]? = if off ≤ k ∧ k < off + vs.length ∧ k < arr.size then vs[k - off]? else arr[k]? := by
  induction vs with
  | nil => intro arr off k; rw [if_neg (by simp; omega)]; rfl
  | cons v vs ih =>
    intro arr off k
    simp only [setA, ih, Array.size_setIfInBounds]
    by_cases h1 : off + 1 ≤ k ∧ k < off + 1 + vs.length ∧ k < arr.size
    · rw [if_pos h1, if_pos (by simp; omega)]
      rw [show k - off = (k - (off + 1)) + 1 by omega]; rfl
    · rw [if_neg h1]
      by_cases hk : k = off
      · subst hk
        by_cases hs : k < arr.size
        · rw [if_pos (by simp; omega), Nat.sub_self, Array.getElem?_setIfInBounds_self, if_pos hs]; rfl
        · rw [if_neg (by omega), Array.getElem?_setIfInBounds_self, if_neg hs, Array.getElem?_eq_none (by omega)]
      · rw [Array.getElem?_setIfInBounds_ne (by omega), if_neg (by simp; omega)]

theorem setRange_get (xs cs : List AV) (off k : Nat) (h : off + cs.length ≤ xs.length) : (setRange xs off cs)[k]? = if off ≤ k ∧ k < off + cs.length then cs[k - off]? else xs[k]? := by
  unfold setRange
  by_cases h1 : k < off
  · rw [if_neg (by omega), List.append_assoc, List.getElem?_append_left (by simp; omega), List.getElem?_take, if_pos h1]
  · by_cases h2 : k < off + cs.length
    · rw [if_pos (by omega), List.append_assoc, List.getElem?_append_right (by simp; omega), List.getElem?_append_left (by simp; omega)]
      congr 1; simp; omega
    · rw [if_neg (by omega), List.getElem?_append_right (by simp; omega), List.getElem?_drop]
      congr 1; simp; omega

theorem setRange_len (xs cs : List AV) (off : Nat) (h : off + cs.length ≤ xs.length) : (setRange xs off cs).length = xs.length := by
  unfold setRange; simp; omega

theorem setRange_rel {g : Ghost} {xs cs : List AV} {arr : Array Value} {vs : List Value} {off : Nat} (h : off + cs.length ≤ xs.length) (hs : xs.length ≤ arr.size) (hx : ∀ k, VRel g (xs.getD k .top) (arr.getD k undef))
    (hl : vs.length = cs.length) (hc : ∀ k, VRel g (cs.getD k .top) (vs.getD k undef)) : ∀ k, VRel g ((setRange xs off cs).getD k .top) ((setA arr off vs).getD k undef) := by
  intro k
  simp only [List.getD_eq_getElem?_getD, Array.getD_eq_getD_getElem?] at hx hc ⊢
  rw [setRange_get _ _ _ _ h, setA_get]
  by_cases h1 : off ≤ k ∧ k < off + cs.length
  · rw [if_pos h1, if_pos (by omega)]; exact hc _
  · rw [if_neg h1, if_neg (by omega)]; exact hx _

theorem zipIdx_fold (vs : List Value) : ∀ (s off : Nat) (arr : Array Value), (vs.zipIdx s).foldl (fun cs (x : Value × Nat) => cs.setIfInBounds (off + x.2) x.1) arr = setA arr (off + s) vs := by
  induction vs with
  | nil => intro s off arr; rfl
  | cons v vs ih => intro s off arr; simp only [List.zipIdx_cons, List.foldl_cons, setA, ih]; rw [show off + (s + 1) = off + s + 1 by omega]

/-- The cells of a value that is known. -/
theorem cells_rel {g : Ghost} {v : AV} {c : Value} (h : VRel g v c) (ht : v ≠ .top) : VRels g (cellsOf v) c.cells := by
  have one : ∀ {v : AV} {c : Value}, VRel g v c → VRels g [v] #[c] := fun h => ⟨rfl, fun k => match k with | 0 => h | _ + 1 => .top _⟩
  cases h with
  | top => exact absurd rfl ht
  | agg xs cs hl hv => exact ⟨hl, hv⟩
  | bool b => exact one (.bool b)
  | int k n => exact one (.int k n)
  | str s b h => exact one (.str s b h)
  | nilp => exact one .nilp
  | ref id off b e => exact one (.ref id off b e)
  | row xs b o vs hk hv => exact one (.row xs b o vs hk hv)
  | nsl tok e => exact one (.nsl tok e)
  | sl n xs tok b o cap vs hn hk hv htk => exact one (.sl n xs tok b o cap vs hn hk hv htk)
  | msl id off n b off' cap e hn ho => exact one (.msl id off n b off' cap e hn ho)
  | map id b e => exact one (.map id b e)
  | nilmap => exact one .nilmap
  | fn f first cap fs cs hl hf hm hc => exact one (.fn f first cap fs cs hl hf hm hc)
  | yield id b e => exact one (.yield id b e)
  | nilfn => exact one .nilfn
  | iface t v c h => exact one (.iface t v c h)
  | nili => exact one .nili
  | tup xs cs hl hv => exact one (.tup xs cs hl hv)

theorem one_rel {g : Ghost} {v : AV} {c : Value} (h : VRel g v c) (ho : v.one = true) : c.oneCell' = true := by
  cases h <;> first | rfl | (simp [AV.one] at ho)

/-- Cells stored one behind the other into a row that may be written. -/
theorem run_storeCells (P : Program) {b T : Nat} {fz : Nat × Nat} {o : Nat} : ∀ (vs : List Value) (i : Nat) (w : World) (arr : Array Value), w.heap[b]? = some (.cells arr T fz) → o + i + vs.length ≤ arr.size →
    (∀ v ∈ vs, v.oneCell' = true) → (∀ k, o + i ≤ k → k < o + i + vs.length → ¬ (fz.1 ≤ k ∧ k < fz.2)) →
    ∃ w', (storeCells ⟨b, o, none⟩ vs i).run P w = .ok () w' ∧ w'.heap[b]? = some (.cells (setA arr (o + i) vs) T fz) ∧ (∀ k, k ≠ b → w'.heap[k]? = w.heap[k]?) ∧ w'.os = w.os ∧ w'.tape = w.tape ∧ w'.output = w.output ∧ w'.heap.size = w.heap.size := by
  intro vs
  induction vs with
  | nil => intro i w arr h _ _ _; exact ⟨w, rfl, h, fun _ _ => rfl, rfl, rfl, rfl, rfl⟩
  | cons v vs ih =>
    intro i w arr h hs hv hf
    simp only [List.length_cons] at hs hf
    have hc : w.cell? ⟨b, o + i, none⟩ = some arr[o + i] := by rw [cell_of_heap h, Array.getElem?_eq_getElem (by omega)]
    have hfr : w.frozen? ⟨b, o + i, none⟩ = false := by
      have := hf (o + i) (by omega) (by omega)
      simp only [World.frozen?, h, Bool.and_eq_false_iff, decide_eq_false_iff_not]
      omega
    have hstep : (store ((⟨b, o, none⟩ : Addr).add i) v).run P w = .ok () (w.setCell ⟨b, o + i, none⟩ v) := by
      rw [add_none, run_store P w _ v .plain (hv v (by simp)), hc]
      simp [hfr]
    have hh : (w.setCell ⟨b, o + i, none⟩ v).heap[b]? = some (.cells (arr.setIfInBounds (o + i) v) T fz) := by
      simp only [World.setCell, Array.getElem?_modify]
      simp [h]
    obtain ⟨w', h1, h2, h3, h4, h5, h6, h7⟩ := ih (i + 1) (w.setCell ⟨b, o + i, none⟩ v) (arr.setIfInBounds (o + i) v) hh (by simp; omega) (fun u hu => hv u (by simp [hu])) (fun k a c => hf k (by omega) (by omega))
    refine ⟨w', ?_, ?_, fun k hk => (h3 k hk).trans (Below.heap_setCell _ _ _ _ hk), h4, h5, h6, by rw [h7]; simp⟩
    · rw [storeCells, Sem.run_bind, hstep]; exact h1
    · rw [h2, show o + (i + 1) = o + i + 1 by omega]; rfl

variable {E : Env} {g : Ghost} {H : List AO} {w : World} {a : AAct} {a' : Act}

def writeCells (H : List AO) (cs : List AV) : AV → Option (List AO)
  | .ref id off => match H[id]? with
    | some (.cells xs) => if off + cs.length ≤ xs.length ∧ cs.all AV.one = true then some (H.set id (.cells (setRange xs off cs))) else none
    | _ => none
  | _ => none

theorem own_set_cells {g : Ghost} {H : List AO} {id : Nat} {xs ys : List AV} (h : H[id]? = some (.cells xs)) (i : Nat) : own g (H.set id (.cells ys)) i = own g H i := by
  unfold own
  by_cases e : id = i
  · subst e
    rw [List.getElem?_set_self (List.getElem?_eq_some_iff.1 h).1, h]
  · rw [List.getElem?_set_ne e]

/-- Cells of an object of our own are written over. -/
theorem Rep.write {n0 : Nat} {w0 : World} {gl : Nat → List AV} (hr : Rep n0 w0 gl g H w) {id : Nat} {xs ys : List AV} (hH : H[id]? = some (.cells xs)) {b : Nat} {cs : Array Value} {T : TypeId} {fz : Nat × Nat} {arr : Array Value} {w' : World}
    (hb : g.phi[id]? = some b) (hw : w'.heap[b]? = some (.cells arr T fz)) (hl : ys.length ≤ arr.size) (hy : ∀ k, VRel g (ys.getD k .top) (arr.getD k undef)) (hfz : ∀ k, k < ys.length → ¬ (fz.1 ≤ k ∧ k < fz.2))
    (ho : ∀ k, k ≠ b → w'.heap[k]? = w.heap[k]?) (h1 : w'.os = w.os) (h2 : w'.tape = w.tape) (h3 : w'.output = w.output) (h4 : w'.heap.size = w.heap.size) : Rep n0 w0 gl g (H.set id (.cells ys)) w' := by
  have hown : own g H id = some b := by unfold own; rw [hH]; exact hb
  obtain ⟨hlt, hn0⟩ := hr.own_lt hown
  have hK : ∀ o, g.K b o = none := by
    obtain ⟨b', _, _, _, e, _, _, _, _, _, hk⟩ := hr.objs _ _ hH
    rw [hb] at e; injection e with e; subst e; exact hk
  have hid : id < H.length := (List.getElem?_eq_some_iff.1 hH).1
  refine ⟨⟨h1.trans hr.below.os, h2.trans hr.below.tape, h3.trans hr.below.output, by rw [h4]; exact hr.below.size, fun k hk => (ho k (by omega)).trans (hr.below.block k hk)⟩, hr.n0le, fun b' o v h => ?_, by simp [hr.len], fun t e ht => hr.beyond t e (by simpa using ht), fun i o h => ?_, fun i j b' hi hj => ?_, hr.glob⟩
  · have hne : b' ≠ b := by rintro rfl; rw [hK] at h; simp at h
    have := hr.know b' o v h
    simpa [World.cell?, ho b' hne] using this
  · by_cases e : id = i
    · subst e
      rw [List.getElem?_set_self hid] at h
      injection h with h; subst h
      exact ⟨b, arr, T, fz, hb, hn0, hw, hl, hy, hfz, hK⟩
    · rw [List.getElem?_set_ne e] at h
      refine ORep.frame h (hr.objs i o h) (GLe.refl g) (fun b' hb' => ho b' ?_) (fun _ _ _ h => h) (fun _ h => h)
      rintro rfl
      exact e (hr.apart _ _ _ hown hb')
  · rw [own_set_cells hH] at hi hj
    exact hr.apart i j b' hi hj

theorem store_sound (hr : E.Rep g H w) {t : TypeId} {i : TyI} (ht : E.ty t = some i) {p v : AV} {c u : Value} (hp : VRel g p c) (hv : VRel g v u) (hnt : v ≠ .top) (hsz : (cellsOf v).length = i.size) {H' : List AO} (h : writeCells H (cellsOf v) p = some H') :
    ∃ w', (Instr.storeAt t c u).run E.P w = .ok () w' ∧ E.Rep g H' w' := by
  unfold writeCells at h
  split at h <;> try (simp at h; done)
  rename_i id off
  split at h <;> try (simp at h; done)
  rename_i xs hH
  split at h <;> try (simp at h; done)
  rename_i hle
  injection h with h; subst h
  obtain ⟨b, arr, T, fz, h1, h2, h3, h4, h5, h6, h7⟩ := hr.objs _ _ hH
  have hcr := cells_rel hv hnt
  cases hp with
  | ref _ _ b' e =>
    rw [h1] at e; injection e with e; subst e
    have hone : ∀ x ∈ u.cells.toList, x.oneCell' = true := by
      intro x hx
      obtain ⟨k, hk, rfl⟩ := List.getElem_of_mem hx
      have hk' : k < u.cells.size := by simpa using hk
      have hkl : k < (cellsOf v).length := by rw [← hcr.1]; exact hk'
      have hrel := hcr.2 k
      rw [List.getD_eq_getElem?_getD, List.getElem?_eq_getElem hkl, Array.getD_eq_getD_getElem?, Array.getElem?_eq_getElem hk'] at hrel
      have := one_rel hrel (List.all_eq_true.1 hle.2 _ (List.getElem_mem hkl))
      simpa using this
    obtain ⟨w', r1, r2, r3, r4, r5, r6, r7⟩ := run_storeCells E.P (o := off) u.cells.toList 0 w arr h3 (by simp [hcr.1]; omega) hone (fun k a c => h6 k (by simp [hcr.1] at c; omega))
    refine ⟨w', ?_, ?_⟩
    · simp only [Instr.storeAt, Instr.sureAddr, Sem.run_bind, Sem.run_pure, Result.andThen_ok, storeVar, sizeOf_run ht]
      rw [if_neg (by rw [hcr.1, hsz]; simp)]
      simpa using r1
    · rw [Nat.add_zero] at r2
      refine Rep.write hr hH (cs := arr) h1 r2 (by rw [setA_size, setRange_len _ _ _ hle.1]; exact h4) (setRange_rel hle.1 h4 h5 (by simp [hcr.1]) (fun k => by
        have := hcr.2 k
        simpa [Array.getD_eq_getD_getElem?, List.getD_eq_getElem?_getD] using this)) (fun k hk => h6 k (by rw [setRange_len _ _ _ hle.1] at hk; exact hk)) r3 r4 r5 r6 r7

end Go.Ab
