/- The abstract view, 33: a row that may grow is known from now on; the room behind it stays one's own. -/
import Derived.Test.YtbncpinpfmfjiaaDoorFrE
set_option linter.unusedVariables false
set_option linter.unusedSimpArgs false
namespace Go.Ab
open Go Go.RowKit
variable {E : Env} {N : Nat} {ts : List AV} {ds : List ADef} {H : List AO} {g : Ghost} {w : World}
/-- A row that may grow is known from now on; the room behind it stays one's own. -/
theorem Rep.vec_tail {n0 : Nat} {w0 : World} {gl : Nat → List AV} (hr : Rep n0 w0 gl g H w) {id sz n : Nat} {xs : List AV} (hH : H[id]? = some (.vec sz n xs)) : ∃ g', GLe g g' ∧ Rep n0 w0 gl g' (H.set id .dead ++ [.tail sz n]) w ∧ ∀ c, VRel g (.vsl id n) c → VRel g' (.sl n xs (.at H.length n)) c := by
  obtain ⟨ti, o1, o2, o3, o4, o5, o6⟩ := hr.objs _ _ hH
  have hid : id < H.length := (List.getElem?_eq_some_iff.1 hH).1
  have hlen : (H.set id .dead).length = H.length := by simp
  have base : ∀ {g' : Ghost}, GLe g g' → (∀ i, i ≠ id → own g' (H.set id .dead) i = own g H i) → (∀ b o v, g'.K b o = some v → w.cell? ⟨b, o, none⟩ = some v) → g'.phi = g.phi → g'.tok = g.tok → (∀ i b, i ≠ id → own g H i = some b → ∀ o, g.K b o = none → g'.K b o = none) → Rep n0 w0 gl g' (H.set id .dead) w := by
    intro g' le hown hk hp ht hK
    have hdead : own g' (H.set id .dead) id = none := by unfold own; rw [List.getElem?_set_self hid]
    refine ⟨hr.below, hr.n0le, hk, by rw [hp]; simp [hr.len], fun t e h => by rw [ht]; exact hr.beyond t e (by simpa using h), fun i o h => ?_, fun i j x hi hj => ?_, fun i => (hr.glob i).mono le⟩
    · by_cases e : id = i
      · subst e
        rw [List.getElem?_set_self hid] at h
        injection h with h; subst h; trivial
      · rw [List.getElem?_set_ne e] at h
        exact ORep.frame h (hr.objs i o h) le (fun _ _ => rfl) (fun b hb o ho => hK i b (fun h => e h.symm) hb o ho) (fun e h => by rw [ht]; exact h)
    · have hi' : i ≠ id := by rintro rfl; rw [hdead] at hi; simp at hi
      have hj' : j ≠ id := by rintro rfl; rw [hdead] at hj; simp at hj
      rw [hown i hi'] at hi
      rw [hown j hj'] at hj
      exact hr.apart i j x hi hj
  have hownset : ∀ {g' : Ghost}, g'.phi = g.phi → g'.tok = g.tok → ∀ i, i ≠ id → own g' (H.set id .dead) i = own g H i := by
    intro g' h1 h2 i hi
    unfold own
    rw [List.getElem?_set_ne (fun h => hi h.symm), h1, h2]
  have triv : ti.spare = 0 → ∃ g', GLe g g' ∧ Rep n0 w0 gl g' (H.set id .dead ++ [.tail sz n]) w ∧ ∀ c, VRel g (.vsl id n) c → VRel g' (.sl n xs (.at H.length n)) c := by
    intro hs
    have hn : n = 0 := by omega
    subst hn
    have : xs = [] := by simp at o4; exact o4
    subst this
    have r0 := base (GLe.refl g) (hownset rfl rfl) hr.know rfl rfl (fun _ _ _ _ _ h => h)
    obtain ⟨r1, r2⟩ := Rep.new_tok r0 sz 0 ⟨0, 0, 0⟩ (.inl rfl) (fun h => absurd rfl h)
    rw [hlen] at r1 r2
    have htk : ((g.push 0).setTok H.length 0 ⟨0, 0, 0⟩).tok H.length 0 = some ⟨0, 0, 0⟩ := setTok_same _ _ _ _
    refine ⟨_, r2, r1, fun c hc => ?_⟩
    cases hc with
    | vslN _ ti2 ht hs => exact .nsl _ ⟨_, htk, rfl⟩
    | vslZ _ ti2 b o ht hs => exact .sl 0 [] _ b o 0 (fun _ => undef) (Nat.le_refl _) (fun i hi => by simp at hi) (fun i => .top _) ⟨_, htk, rfl, .inl rfl⟩
    | vsl _ _ ti2 ht h0 hn hs => rw [o1] at ht; injection ht with ht; subst ht; omega
  rcases o6 with o6 | ⟨cs, T, fz, p1, p2, p3, p4, p5, p6⟩
  · exact triv o6
  · by_cases hs : ti.spare = 0
    · exact triv hs
    have hown : own g H id = some ti.b := by unfold own; rw [hH]; simp [o1, hs]
    have le := g.learn_le ti.b (fun o => if o < xs.length then cs[o]? else none)
    have hxl : xs.length ≤ cs.size := by rw [p3, o4]; exact Nat.mul_le_mul_right _ o5
    have r0 := base le (hownset rfl rfl) (fun x o v h => by
      have h' : (if x = ti.b then (match g.K x o with | some v => some v | none => if o < xs.length then cs[o]? else none) else g.K x o) = some v := h
      split at h'
      · rename_i e
        subst e
        rw [p6 o] at h'
        simp only at h'
        split at h'
        · rw [cell_of_heap p2]; exact h'
        · simp at h'
      · exact hr.know _ _ _ h') rfl rfl (fun i b hi hb o ho => by
      show (if b = ti.b then _ else _) = none
      rw [if_neg (by rintro rfl; exact hi (hr.apart _ _ _ hb hown))]; exact ho)
    have hmul : n * sz + (ti.spare - n) * sz = ti.spare * sz := by rw [← Nat.add_mul]; congr 1; omega
    obtain ⟨r1, r2⟩ := Rep.new_tok r0 sz n ⟨ti.b, n * sz, ti.spare - n⟩ (.inr ⟨cs, T, fz, p1, p2, by simp only; omega, fun k _ hk => p5 k (by simp only at hk; omega), fun o ho => by
      show (if ti.b = ti.b then (match g.K ti.b o with | some v => some v | none => if o < xs.length then cs[o]? else none) else _) = none
      rw [if_pos rfl, p6 o]
      simp only at ho ⊢
      rw [if_neg (by omega)]⟩) (fun _ i hi => by
      by_cases e : i = id
      · subst e
        unfold own at hi
        rw [List.getElem?_set_self hid] at hi; simp at hi
      · rw [hownset (g' := g.learn ti.b (fun o => if o < xs.length then cs[o]? else none)) rfl rfl i e] at hi
        exact e (hr.apart _ _ _ hi hown))
    rw [hlen] at r1 r2
    refine ⟨_, le.trans r2, r1, fun c hc => ?_⟩
    have htk := setTok_same ((g.learn ti.b (fun o => if o < xs.length then cs[o]? else none)).push 0) H.length n ⟨ti.b, n * sz, ti.spare - n⟩
    cases hc with
    | vslN _ ti2 ht hs2 => rw [o1] at ht; injection ht with ht; subst ht; exact absurd hs2 hs
    | vslZ _ ti2 b o ht hs2 => rw [o1] at ht; injection ht with ht; subst ht; exact absurd hs2 hs
    | vsl _ _ ti2 ht h0 hn hs2 =>
      rw [o1] at ht; injection ht with ht; subst ht
      refine .sl n xs _ ti.b 0 _ (fun i => cs.getD i undef) hn (fun i hi => ?_) (fun i => (p4 i).mono (le.trans r2)) ⟨_, htk, rfl, .inr ⟨rfl, by simp only; rw [Nat.zero_add, o4]⟩⟩
      rw [Nat.zero_add]
      refine r2.1 _ _ _ ?_
      show (if ti.b = ti.b then (match g.K ti.b i with | some v => some v | none => if i < xs.length then cs[i]? else none) else _) = _
      rw [if_pos rfl, p6 i]
      simp only
      rw [if_pos hi, Array.getElem?_eq_getElem (by omega)]
      simp [Array.getD_eq_getD_getElem?, show i < cs.size by omega]
theorem Shift.vecTail (t : Nat) {id sz n : Nat} {xs : List AV} (h : ts.getD t .top = .vsl id n) (hH : H[id]? = some (.vec sz n xs)) : Shift E N ts ds H (ts.set t (.sl n xs (.at H.length n))) (H.set id .dead ++ [.tail sz n]) := fun g0 g w a' hd hl hr ha => by
  obtain ⟨g', r1, r2, r3⟩ := Rep.vec_tail hr hH
  refine ⟨g', hl.trans r1, r2, ?_, ha.2.mono r1⟩
  have h1 := (ha.1.2 t)
  rw [h] at h1
  have h2 := (ha.1.mono r1).set t (c := a'.tmps.getD t undef) (r3 _ h1)
  have e : a'.tmps.setIfInBounds t (a'.tmps.getD t undef) = a'.tmps := by
    apply Array.ext_getElem?
    intro i
    rw [Array.getElem?_setIfInBounds]
    split
    · rename_i e; subst e
      split
      · rename_i hlt; rw [Array.getElem?_eq_getElem hlt]; simp [Array.getD, hlt]
      · rename_i hlt; rw [Array.getElem?_eq_none (by omega)]
    · rfl
  rwa [e] at h2

/-- The same of a row in a cell. -/
theorem Shift.cellTail (i k id : Nat) {sz n : Nat} {xs ys : List AV} (hH : H[i]? = some (.cells xs)) (hx : xs.getD k .top = .vsl id n) (hk : k < xs.length) (hV : H[id]? = some (.vec sz n ys)) {H2 : List AO} (h2 : (H.set id .dead).set i (.cells (xs.set k (.sl n ys (.at H.length n)))) ++ [.tail sz n] = H2) : Shift E N ts ds H ts H2 := fun g0 g w a' hd hl hr ha => by
  subst h2
  obtain ⟨g', r1, r2, r3⟩ := Rep.vec_tail hr hV
  have hne : id ≠ i := by rintro rfl; rw [hV] at hH; simp at hH
  have hi : i < H.length := (List.getElem?_eq_some_iff.1 hH).1
  refine ⟨g', hl.trans r1, ?_, ha.1.mono r1, ha.2.mono r1⟩
  have := Rep.recells (ys := xs.set k (.sl n ys (.at H.length n))) r2 (i := i) (xs := xs) (by rw [List.getElem?_append_left (by simpa using hi), List.getElem?_set_ne hne, hH]) (by simp) (fun b cs T fz h1 h2 h3 j => ?_)
  · rwa [List.set_append_left _ _ (by simpa using hi)] at this
  · by_cases e : k = j
    · subst e
      have hset : (xs.set k (.sl n ys (.at H.length n))).getD k .top = .sl n ys (.at H.length n) := by simp [List.getD_eq_getElem?_getD, hk]
      rw [hset]
      refine r3 _ ?_
      obtain ⟨b', cs', T', fz', q1, q2, q3, q4, q5, q6, q7⟩ := hr.objs _ _ hH
      have hb := r1.phi _ _ q1
      rw [h1] at hb; injection hb with hb; subst hb
      rw [h2] at q3; injection q3 with q3; injection q3 with q3; subst q3
      have := q5 k
      rwa [hx] at this
    · have hset : (xs.set k (.sl n ys (.at H.length n))).getD j .top = xs.getD j .top := by simp only [List.getD_eq_getElem?_getD, List.getElem?_set_ne e]
      rw [hset]; exact h3 j
end Go.Ab
