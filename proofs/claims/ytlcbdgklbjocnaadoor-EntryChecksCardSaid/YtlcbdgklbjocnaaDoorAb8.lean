/- The abstract view, 8: memory grows: what stays. -/
import Derived.Test.YtlcbdgklbjocnaaDoorAb7
set_option linter.unusedVariables false
set_option linter.unusedSimpArgs false
namespace Go.Ab
open Go Go.RowKit

variable {n0 : Nat} {w0 : World} {gl : Nat → List AV} {g g' : Ghost} {H : List AO} {w w' : World}

theorem Rep.own_lt (hr : Rep n0 w0 gl g H w) {i b : Nat} (h : own g H i = some b) : b < w.heap.size ∧ n0 ≤ b := by
  unfold own at h
  have lt : ∀ {b : Nat} {o : Obj}, w.heap[b]? = some o → b < w.heap.size := fun h => (Array.getElem?_eq_some_iff.1 h).1
  split at h
  · simp at h
  · simp at h
  · rename_i sz e hH
    obtain ⟨ti, h1, _, h2⟩ := hr.objs _ _ hH
    rw [h1] at h
    simp only at h
    split at h
    · simp at h
    · rename_i hs
      injection h with h; subst h
      rcases h2 with h2 | ⟨cs, T, fz, h3, h4, _⟩
      · exact absurd h2 hs
      · exact ⟨lt h4, h3⟩
  · rename_i o ho1 ho2 hH
    have := hr.objs _ _ hH
    cases o with
    | dead => exact absurd rfl ho1
    | tail sz e => exact absurd rfl (ho2 _ _)
    | cells xs => obtain ⟨b', cs, T, fz, h1, h2, h3, _⟩ := this; rw [h1] at h; injection h with h; subst h; exact ⟨lt h3, h2⟩
    | iter s pos => obtain ⟨b', t, h1, h2, h3, _⟩ := this; rw [h1] at h; injection h with h; subst h; exact ⟨lt h3, h2⟩
    | loop st pe f tmps ps asg body d => obtain ⟨b', cs, db, h1, h2, _, _, h3⟩ := this; rw [h1] at h; injection h with h; subst h; exact ⟨lt h3, h2⟩
    | defr => obtain ⟨b', h1, h2, h3⟩ := this; rw [h1] at h; injection h with h; subst h; exact ⟨lt h3, h2⟩
    | map es c => obtain ⟨b', ms, h1, h2, h3, _⟩ := this; rw [h1] at h; injection h with h; subst h; exact ⟨lt h3, h2⟩

theorem Rep.K_lt (hr : Rep n0 w0 gl g H w) {b o : Nat} {v : Value} (h : g.K b o = some v) : b < w.heap.size :=
  World.block_lt_of_cell? w _ (hr.know _ _ _ h)

/-- An object stays what it is where its block is as it was, and nothing more is known of that block. -/
theorem ORep.frame {i : Nat} {o : AO} (hH : H[i]? = some o) (h : ORep g n0 w i o) (le : GLe g g') (hw : ∀ b, own g H i = some b → w'.heap[b]? = w.heap[b]?) (hK : ∀ b, own g H i = some b → ∀ o, g.K b o = none → g'.K b o = none)
    (ht : ∀ e, g.tok i e = none → g'.tok i e = none) : ORep g' n0 w' i o := by
  have hown : ∀ {b : Nat}, g.phi[i]? = some b → (∀ sz e, o ≠ .tail sz e) → o ≠ .dead → own g H i = some b := by
    intro b hb h1 h2
    unfold own; rw [hH]
    cases o <;> first | exact hb | exact absurd rfl h2 | exact absurd rfl (h1 _ _)
  cases o with
  | dead => trivial
  | cells xs =>
    obtain ⟨b, cs, T, fz, h1, h2, h3, h4, h5, h6, h7⟩ := h
    have ho := hown h1 (by simp) (by simp)
    exact ⟨b, cs, T, fz, le.phi _ _ h1, h2, (hw b ho).trans h3, h4, fun k => (h5 k).mono le, h6, fun o => hK b ho o (h7 o)⟩
  | tail sz e =>
    obtain ⟨ti, h1, h2, h3⟩ := h
    refine ⟨ti, le.tok _ _ _ h1, fun e' he => ht e' (h2 e' he), ?_⟩
    by_cases hs : ti.spare = 0
    · exact .inl hs
    · rcases h3 with h3 | ⟨cs, T, fz, h4, h5, h6, h7, h8⟩
      · exact absurd h3 hs
      · have ho : own g H i = some ti.b := by unfold own; rw [hH]; simp [h1, hs]
        exact .inr ⟨cs, T, fz, h4, (hw _ ho).trans h5, h6, h7, fun o hh => hK _ ho o (h8 o hh)⟩
  | iter s pos =>
    obtain ⟨b, t, h1, h2, h3, h4⟩ := h
    exact ⟨b, t, le.phi _ _ h1, h2, (hw b (hown h1 (by simp) (by simp))).trans h3, h4⟩
  | loop st pe f tmps ps asg body d =>
    obtain ⟨b, cs, db, h1, h2, h3, h4, h5⟩ := h
    exact ⟨b, cs, db, le.phi _ _ h1, h2, le.phi _ _ h3, h4.mono le, (hw b (hown h1 (by simp) (by simp))).trans h5⟩
  | defr =>
    obtain ⟨b, h1, h2, h3⟩ := h
    exact ⟨b, le.phi _ _ h1, h2, (hw b (hown h1 (by simp) (by simp))).trans h3⟩
  | map es c =>
    obtain ⟨b, ms, h1, h2, h3, h4, h5⟩ := h
    exact ⟨b, ms, le.phi _ _ h1, h2, (hw b (hown h1 (by simp) (by simp))).trans h3, h4, fun k m hm => ⟨(h5 k m hm).1.mono le, (h5 k m hm).2.1.mono le, (h5 k m hm).2.2⟩⟩

/-- A draw, or whatever leaves every block as it was. -/
theorem Rep.same_heap (hr : Rep n0 w0 gl g H w) (hh : w'.heap = w.heap) (h1 : w'.os = w.os) (h2 : w'.tape = w.tape) (h3 : w'.output = w.output) : Rep n0 w0 gl g H w' := by
  refine ⟨⟨h1.trans hr.below.os, h2.trans hr.below.tape, h3.trans hr.below.output, by rw [hh]; exact hr.below.size, fun k hk => by rw [hh]; exact hr.below.block k hk⟩, hr.n0le, fun b o v h => ?_, hr.len, hr.beyond, fun i o h => ?_, hr.apart, hr.glob⟩
  · have := hr.know b o v h; simpa [World.cell?, hh] using this
  · exact ORep.frame h (hr.objs i o h) (GLe.refl g) (fun b _ => by rw [hh]) (fun _ _ _ h => h) (fun _ h => h)

theorem Rep.drew (hr : Rep n0 w0 gl g H w) : Rep n0 w0 gl g H w.drew := hr.same_heap rfl rfl rfl rfl

/-- One new block, all else as it was. -/
structure Grew (w : World) (ob : Obj) (w' : World) : Prop where
  new : w'.heap[w.heap.size]? = some ob
  old : ∀ k, k < w.heap.size → w'.heap[k]? = w.heap[k]?
  size : w'.heap.size = w.heap.size + 1
  os : w'.os = w.os
  tape : w'.tape = w.tape
  output : w'.output = w.output

theorem Grew.alloc (w : World) (ob : Obj) : Grew w ob (w.alloc ob) := ⟨World.alloc_heap_new w ob, fun k hk => Below.heap_alloc w ob k hk, by simp, rfl, rfl, rfl⟩
theorem Grew.drew_alloc (w : World) (ob : Obj) : Grew w ob (w.drew.alloc ob) := ⟨World.alloc_heap_new w.drew ob, fun k hk => Below.heap_alloc w.drew ob k hk, by simp, rfl, rfl, rfl⟩
theorem Grew.cell {w w' : World} {ob : Obj} (h : Grew w ob w') {a : Addr} (ha : a.block < w.heap.size) : w'.cell? a = w.cell? a := World.cell?_of_block (h.old _ ha)
theorem Grew.below {w w' : World} {ob : Obj} (h : Grew w ob w') {B : Nat} {a : World} (hb : Below B a w) (hB : B ≤ w.heap.size) : Below B a w' :=
  hb.trans ⟨h.os, h.tape, h.output, by rw [h.size]; omega, fun k hk => h.old k (by omega)⟩

def Ghost.push (g : Ghost) (b : Nat) : Ghost := { g with phi := g.phi ++ [b] }

theorem Ghost.push_le (g : Ghost) (b : Nat) : GLe g (g.push b) :=
  ⟨fun _ _ _ h => h, fun i x h => by
    have hl := (List.getElem?_eq_some_iff.1 h).1
    show (g.phi ++ [b])[i]? = some x
    rw [List.getElem?_append_left hl]; exact h, fun _ _ _ h => h⟩

theorem own_push (hl : g.phi.length = H.length) (b : Nat) (o : AO) {i : Nat} (hi : i < H.length) : own (g.push b) (H ++ [o]) i = own g H i := by
  unfold own
  rw [List.getElem?_append_left hi]
  have hp : (g.push b).phi[i]? = g.phi[i]? := by show (g.phi ++ [b])[i]? = _; rw [List.getElem?_append_left (by omega)]
  cases hH : H[i]? with
  | none => rfl
  | some x => cases x <;> first | rfl | exact hp

/-- A new block with an object of its own. -/
theorem Rep.alloc (hr : Rep n0 w0 gl g H w) {ob : Obj} (hg : Grew w ob w') (o : AO) (hot : ∀ sz e, o ≠ .tail sz e) (hn : ORep (g.push w.heap.size) n0 w' H.length o) : Rep n0 w0 gl (g.push w.heap.size) (H ++ [o]) w' := by
  have hn0 : n0 ≤ w.heap.size := Nat.le_trans hr.n0le hr.below.size
  have hnew : ∀ {i b : Nat}, H.length ≤ i → own (g.push w.heap.size) (H ++ [o]) i = some b → i = H.length ∧ b = w.heap.size := by
    intro i b hi hb
    by_cases e : i = H.length
    · subst e
      refine ⟨rfl, ?_⟩
      unfold own at hb
      rw [List.getElem?_append_right (Nat.le_refl _), Nat.sub_self] at hb
      have hp : (g.push w.heap.size).phi[H.length]? = some w.heap.size := by
        show (g.phi ++ [w.heap.size])[H.length]? = _
        rw [← hr.len, List.getElem?_append_right (Nat.le_refl _), Nat.sub_self]; rfl
      simp only [List.getElem?_cons_zero] at hb
      cases o <;> simp only [hp] at hb <;> first | (simp at hb; done) | exact (Option.some.inj hb).symm | exact absurd rfl (hot _ _)
    · unfold own at hb
      rw [List.getElem?_eq_none (by simp; omega)] at hb
      simp at hb
  refine ⟨hg.below hr.below hn0, hr.n0le, fun b x v h => ?_, by simp [Ghost.push, hr.len], fun t e ht => hr.beyond t e (by simp at ht; omega), fun i x h => ?_, fun i j b hi hj => ?_, fun i => (hr.glob i).mono (g.push_le _)⟩
  · have h' : g.K b x = some v := h
    rw [hg.cell (hr.K_lt h')]
    exact hr.know _ _ _ h'
  · by_cases hi : i < H.length
    · rw [List.getElem?_append_left hi] at h
      refine ORep.frame h (hr.objs i x h) (g.push_le _) (fun b hb => hg.old _ (hr.own_lt hb).1) (fun _ _ _ h => h) (fun _ h => h)
    · rw [List.getElem?_append_right (by omega)] at h
      have : i = H.length := by
        have := (List.getElem?_eq_some_iff.1 h).1
        simp at this; omega
      subst this
      rw [Nat.sub_self] at h
      simp at h
      subst h
      exact hn
  · by_cases hi' : i < H.length
    · rw [own_push hr.len _ _ hi'] at hi
      by_cases hj' : j < H.length
      · rw [own_push hr.len _ _ hj'] at hj
        exact hr.apart i j b hi hj
      · have := (hnew (by omega) hj).2
        have := (hr.own_lt hi).1
        omega
    · have h1 := hnew (by omega) hi
      by_cases hj' : j < H.length
      · rw [own_push hr.len _ _ hj'] at hj
        have := (hr.own_lt hj).1
        omega
      · have h2 := hnew (by omega) hj
        omega

/-- The cells of a new block are known for good. -/
def Ghost.learn (g : Ghost) (b : Nat) (cs : Nat → Option Value) : Ghost := { g with K := fun x o => if x = b then (match g.K x o with | some v => some v | none => cs o) else g.K x o }

theorem Ghost.learn_le (g : Ghost) (b : Nat) (cs : Nat → Option Value) : GLe g (g.learn b cs) :=
  ⟨fun x o v h => by
    show (if x = b then _ else _) = _
    split
    · rw [h]
    · exact h, fun _ _ h => h, fun _ _ _ h => h⟩

theorem own_learn (b : Nat) (cs : Nat → Option Value) (i : Nat) : own (g.learn b cs) H i = own g H i := rfl

theorem Rep.alloc_known (hr : Rep n0 w0 gl g H w) {cs : Array Value} {T : TypeId} {fz : Nat × Nat} (hg : Grew w (.cells cs T fz) w') (n : Nat) : Rep n0 w0 gl (g.learn w.heap.size (fun o => if o < n then cs[o]? else none)) H w' := by
  have hn0 : n0 ≤ w.heap.size := Nat.le_trans hr.n0le hr.below.size
  have le := g.learn_le w.heap.size (fun o => if o < n then cs[o]? else none)
  refine ⟨hg.below hr.below hn0, hr.n0le, fun b x v h => ?_, hr.len, hr.beyond, fun i x h => ?_, hr.apart, fun i => (hr.glob i).mono le⟩
  · have h' : (if b = w.heap.size then (match g.K b x with | some v => some v | none => if x < n then cs[x]? else none) else g.K b x) = some v := h
    split at h'
    · rename_i e
      subst e
      cases hk : g.K w.heap.size x with
      | some u => exact absurd (hr.K_lt hk) (by omega)
      | none =>
        rw [hk] at h'
        simp only at h'
        split at h'
        · rw [cell_of_heap hg.new]; exact h'
        · simp at h'
    · rw [hg.cell (hr.K_lt h')]
      exact hr.know _ _ _ h'
  · refine ORep.frame h (hr.objs i x h) le (fun b hb => hg.old _ (hr.own_lt hb).1) (fun b hb o ho => ?_) (fun _ h => h)
    have := (hr.own_lt hb).1
    show (if b = w.heap.size then _ else _) = none
    rw [if_neg (by omega)]; exact ho

theorem learn_new (hr : Rep n0 w0 gl g H w) (cs : Array Value) (n o : Nat) (ho : o < n) {v : Value} (hv : cs[o]? = some v) : (g.learn w.heap.size (fun o => if o < n then cs[o]? else none)).K w.heap.size o = some v := by
  show (if w.heap.size = w.heap.size then (match g.K w.heap.size o with | some v => some v | none => if o < n then cs[o]? else none) else g.K w.heap.size o) = some v
  rw [if_pos rfl]
  cases hk : g.K w.heap.size o with
  | some u => exact absurd (hr.K_lt hk) (by omega)
  | none => simp only; rw [if_pos ho]; exact hv

end Go.Ab
