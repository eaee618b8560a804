/- The abstract view, 10b: a row of bytes that was written down becomes known. -/
import Derived.Test.YtlcbdgklbjocnaaDoorAb10
set_option linter.unusedVariables false
set_option linter.unusedSimpArgs false
namespace Go.Ab
open Go Go.RowKit

variable {n0 : Nat} {w0 : World} {gl : Nat → List AV} {g : Ghost} {H : List AO} {w w' : World}

/-- An object's block is turned, what its cells hold stays; it is no object any more, and what it holds is known. -/
theorem Rep.know_cells (hr : Rep n0 w0 gl g H w) {id b : Nat} {xs : List AV} (hH : H[id]? = some (.cells xs)) (hb : g.phi[id]? = some b) {cs : Array Value} {T T2 : TypeId} {fz fz2 : Nat × Nat} (hc : w.heap[b]? = some (.cells cs T fz)) (hc2 : w'.heap[b]? = some (.cells cs T2 fz2))
    (hold : ∀ k, k ≠ b → w'.heap[k]? = w.heap[k]?) (hsize : w'.heap.size = w.heap.size) (hos : w'.os = w.os) (htape : w'.tape = w.tape) (hout : w'.output = w.output) :
    Rep n0 w0 gl (g.learn b (fun o => if o < xs.length then cs[o]? else none)) (H.set id .dead) w' := by
  have hid : id < H.length := (List.getElem?_eq_some_iff.1 hH).1
  have hown : own g H id = some b := by unfold own; rw [hH]; exact hb
  obtain ⟨b', cs', T', fz', p1, p2, p3, p4, p5, p6, p7⟩ := hr.objs _ _ hH
  rw [hb] at p1; injection p1 with p1; subst p1
  rw [hc] at p3; injection p3 with p3; injection p3 with p3 _ _; subst p3
  have le := g.learn_le b (fun o => if o < xs.length then cs[o]? else none)
  have hdead : own (g.learn b (fun o => if o < xs.length then cs[o]? else none)) (H.set id .dead) id = none := by unfold own; rw [List.getElem?_set_self hid]
  have hcell : ∀ x o, w'.cell? ⟨x, o, none⟩ = w.cell? ⟨x, o, none⟩ := by
    intro x o
    by_cases e : x = b
    · subst e; simp [World.cell?, hc, hc2]
    · simp [World.cell?, hold x e]
  have hnob : ∀ i, i ≠ id → own g H i ≠ some b := fun i hi h => hi (hr.apart _ _ _ h hown)
  have hownl : ∀ i, i ≠ id → own (g.learn b (fun o => if o < xs.length then cs[o]? else none)) (H.set id .dead) i = own g H i := by
    intro i hi
    unfold own
    rw [List.getElem?_set_ne (fun h => hi h.symm)]
    rfl
  refine ⟨⟨by rw [hos]; exact hr.below.os, by rw [htape]; exact hr.below.tape, by rw [hout]; exact hr.below.output, by rw [hsize]; exact hr.below.size, fun k hk => (hold k (by omega)).trans (hr.below.block k hk)⟩, hr.n0le, fun x o v h => ?_, by simp; exact hr.len, fun t e ht => hr.beyond t e (by simpa using ht), fun i o h => ?_, fun i j x hi hj => ?_, fun i => (hr.glob i).mono le⟩
  · rw [hcell]
    have h' : (if x = b then (match g.K x o with | some v => some v | none => if o < xs.length then cs[o]? else none) else g.K x o) = some v := h
    split at h'
    · rename_i e
      subst e
      rw [p7 o] at h'
      simp only at h'
      split at h'
      · simp [World.cell?, hc]; exact h'
      · simp at h'
    · exact hr.know _ _ _ h'
  · by_cases e : id = i
    · subst e
      rw [List.getElem?_set_self hid] at h
      injection h with h; subst h; trivial
    · rw [List.getElem?_set_ne e] at h
      refine ORep.frame h (hr.objs i o h) le (fun b' hb' => hold _ fun hbb => hnob i (fun h => e h.symm) (by rw [← hbb]; exact hb')) (fun b' hb' o' ho' => ?_) (fun _ h => h)
      show (if b' = b then _ else _) = none
      rw [if_neg (fun hbb => hnob i (fun h => e h.symm) (by rw [← hbb]; exact hb'))]; exact ho'
  · have hi' : i ≠ id := by rintro rfl; rw [hdead] at hi; simp at hi
    have hj' : j ≠ id := by rintro rfl; rw [hdead] at hj; simp at hj
    rw [hownl i hi'] at hi
    rw [hownl j hj'] at hj
    exact hr.apart i j x hi hj

theorem run_markStringish {P : Program} {b o : Nat} {cs : Array Value} {T : TypeId} {fz : Nat × Nat} (hc : w.heap[b]? = some (.cells cs T fz)) : ∃ w', (markStringish ⟨b, o, none⟩).run P w = .ok () w' ∧ (∃ fz2, w'.heap[b]? = some (.cells cs T fz2)) ∧ (∀ k, k ≠ b → w'.heap[k]? = w.heap[k]?) ∧ w'.heap.size = w.heap.size ∧ w'.os = w.os ∧ w'.tape = w.tape ∧ w'.output = w.output := by
  have hlt : b < w.heap.size := (Array.getElem?_eq_some_iff.1 hc).1
  refine ⟨w.freeze ⟨b, cs.size, none⟩ 1, ?_, ?_, fun k hk => ?_, ?_, ?_, ?_, ?_⟩
  · simp [markStringish, World.shape?, hc]
  · unfold World.freeze
    rw [if_neg (by omega)]
    refine ⟨if fz.1 == fz.2 then (cs.size, cs.size + 1) else (min fz.1 cs.size, max fz.2 (cs.size + 1)), ?_⟩
    simp only [Array.getElem?_modify, hc, if_true, Option.map_some]
  · unfold World.freeze
    rw [if_neg (by omega)]
    simp only [Array.getElem?_modify]
    rw [if_neg (fun h => hk h.symm)]
  all_goals (unfold World.freeze; rw [if_neg (by omega)])
  simp

end Go.Ab
