/- Rows with room: their tokens moved into a place that stands ready. -/
import Derived.Test.YtocoejhiphcehaaGreatDoorFrE
set_option linter.unusedSimpArgs false
set_option linter.unusedVariables false
namespace Go.Ab
open Go Go.RowKit
variable {E : Env} {N : Nat} {ts : List AV} {ds : List ADef} {g : Ghost} {H : List AO} {w : World}

theorem set_getD_at {xs : List AV} {k : Nat} {v : AV} (hk : k < xs.length) (j : Nat) : (xs.set k v).getD j .top = if k = j then v else xs.getD j .top := by
  by_cases e : k = j
  · subst e; rw [if_pos rfl]; simp [List.getD_eq_getElem?_getD, hk]
  · rw [if_neg e]; simp only [List.getD_eq_getElem?_getD, List.getElem?_set_ne e]
/-- One view of memory stands for another. -/
def HS (E : Env) (H H2 : List AO) : Prop := ∀ g w, E.Rep g H w → ∃ g', GLe g g' ∧ E.Rep g' H2 w
theorem HS.refl : HS E H H := fun g w hr => ⟨g, GLe.refl g, hr⟩
theorem HS.trans {H2 H3 : List AO} (h : HS E H H2) (k : HS E H2 H3) : HS E H H3 := fun g w hr =>
  let ⟨g1, a1, a2⟩ := h g w hr
  let ⟨g2, b1, b2⟩ := k g1 w a2
  ⟨g2, a1.trans b1, b2⟩
theorem HS.eq {H2 : List AO} (h : H = H2) : HS E H H2 := h ▸ HS.refl
theorem Shift.hs {H2 : List AO} (h : HS E H H2) : Shift E N ts ds H ts H2 := fun g0 g w a' hd hl hr ha =>
  let ⟨g', a1, a2⟩ := h g w hr
  ⟨g', hl.trans a1, a2, ha.1.mono a1, ha.2.mono a1⟩
theorem EConc.hs {R R' : AE → List AO → Prop} {e : Ending} (k : ∀ x H1, R x H1 → ∃ H2, HS E H1 H2 ∧ R' x H2) (h : EConc E g R e w) : EConc E g R' e w := by
  obtain ⟨x, H1, g1, a, b, c, d⟩ := h
  obtain ⟨H2, s1, s2⟩ := k x H1 a
  obtain ⟨g2, t1, t2⟩ := s1 g1 w c
  exact ⟨x, H2, g2, s2, b.trans t1, t2, by
    cases d with
    | ret h => exact .ret (h.mono t1)
    | panic h => exact .panic (PRels.mono t1 h)⟩
/-- A contract, what is behind seen otherwise. -/
theorem AEnter.hs {f : FuncId} {args : List AV} {R R' : AE → List AO → Prop} (h : AEnter E f args H R) (k : ∀ x H1, R x H1 → ∃ H2, HS E H1 H2 ∧ R' x H2) : AEnter E f args H R' := fun g w cs hr hv =>
  ⟨(h g w cs hr hv).1, CallsIn.mono (h g w cs hr hv).2 fun e w' hh => hh.hs k⟩
/-- Cells, less said of them. -/
theorem HS.cells (i : Nat) {xs ys : List AV} (hH : H[i]? = some (.cells xs)) (hl : ys.length = xs.length) (hv : ∀ g k c, VRel g (xs.getD k .top) c → VRel g (ys.getD k .top) c) : HS E H (H.set i (.cells ys)) := fun g w hr =>
  ⟨g, GLe.refl g, Rep.recells hr hH hl (fun b cs T fz h1 h2 h3 k => hv g k _ (h3 k))⟩
/-- A slice in a cell, with no room behind it: its room gets the name of a place that stands ready. -/
theorem HS.retail (i k j : Nat) {sz e n : Nat} {xs ys : List AV} (hH : H[i]? = some (.cells xs)) (hx : xs.getD k .top = .sl n ys .full) (hk : k < xs.length) (hT : H[j]? = some (.tail sz e)) {H2 : List AO} (h2 : (H.set j (.tail sz (e + 1))).set i (.cells (xs.set k (.sl n ys (.at j (e + 1))))) = H2) : HS E H H2 := fun g w hr => by
  subst h2
  have hij : j ≠ i := by rintro rfl; rw [hH] at hT; simp at hT
  obtain ⟨r1, r2⟩ := Rep.next_tok hr hT (Nat.lt_succ_self e) ⟨0, 0, 0⟩ (.inl rfl) (fun h => absurd rfl h)
  refine ⟨_, r2, ?_⟩
  have htk : (g.setTok j (e + 1) ⟨0, 0, 0⟩).tok j (e + 1) = some ⟨0, 0, 0⟩ := setTok_same _ _ _ _
  refine Rep.recells (xs := xs) r1 (by rw [List.getElem?_set_ne hij, hH]) (by simp) (fun b cs T fz h1 h2 h3 q => ?_)
  rw [set_getD_at hk]
  split
  · rename_i e2
    subst e2
    have h4 := h3 k
    rw [hx] at h4
    generalize cs.getD k undef = c at h4
    cases h4 with
    | nsl tok h => exact .nsl _ ⟨_, htk, rfl⟩
    | sl n xs tok b o cap vs hn hk hv ht => exact .sl _ _ _ _ _ _ vs hn hk hv ⟨_, htk, (show 0 = cap - n from ht.symm), .inl ht⟩
  · exact h3 q
/-- A place of a row's room is let go. -/
theorem Rep.kill_tail {n0 : Nat} {w0 : World} {gl : Nat → List AV} (hr : Rep n0 w0 gl g H w) {q sz e : Nat} (hQ : H[q]? = some (.tail sz e)) : Rep n0 w0 gl g (H.set q .dead) w := by
  have hq : q < H.length := (List.getElem?_eq_some_iff.1 hQ).1
  have hown : ∀ i b, own g (H.set q .dead) i = some b → own g H i = some b := by
    intro i b hi
    unfold own at hi ⊢
    by_cases e2 : q = i
    · subst e2
      rw [List.getElem?_set_self hq] at hi
      simp at hi
    · rw [List.getElem?_set_ne e2] at hi; exact hi
  refine ⟨hr.below, hr.n0le, hr.know, by simp [hr.len], fun t e' h => hr.beyond t e' (by simpa using h), fun i o h => ?_, fun i j b hi hj => hr.apart i j b (hown i b hi) (hown j b hj), hr.glob⟩
  by_cases e2 : q = i
  · subst e2
    rw [List.getElem?_set_self hq] at h
    injection h with h; subst h
    trivial
  · rw [List.getElem?_set_ne e2] at h; exact hr.objs i o h
/-- Whatever lies at a place is let go. -/
theorem Rep.kill {n0 : Nat} {w0 : World} {gl : Nat → List AV} (hr : Rep n0 w0 gl g H w) (q : Nat) : Rep n0 w0 gl g (H.set q .dead) w := by
  have hown : ∀ i b, own g (H.set q .dead) i = some b → own g H i = some b := by
    intro i b hi
    unfold own at hi ⊢
    by_cases e2 : q = i
    · subst e2
      by_cases hq : q < H.length
      · rw [List.getElem?_set_self hq] at hi
        simp at hi
      · rw [List.getElem?_eq_none (by simp; omega)] at hi
        simp at hi
    · rw [List.getElem?_set_ne e2] at hi; exact hi
  refine ⟨hr.below, hr.n0le, hr.know, by simp [hr.len], fun t e' h => hr.beyond t e' (by simpa using h), fun i o h => ?_, fun i j b hi hj => hr.apart i j b (hown i b hi) (hown j b hj), hr.glob⟩
  by_cases e2 : q = i
  · subst e2
    by_cases hq : q < H.length
    · rw [List.getElem?_set_self hq] at h
      injection h with h; subst h
      trivial
    · rw [List.getElem?_eq_none (by simp; omega)] at h
      simp at h
  · rw [List.getElem?_set_ne e2] at h; exact hr.objs i o h
theorem HS.kill (q : Nat) : HS E H (H.set q .dead) := fun g w hr => ⟨g, GLe.refl g, Rep.kill hr q⟩
theorem HS.kills : ∀ (J : List AO) (H L : List AO), HS E (H ++ (J ++ L)) (H ++ (List.replicate J.length .dead ++ L))
  | [], H, L => HS.refl
  | x :: J, H, L => by
    have h1 : HS E (H ++ (x :: J ++ L)) ((H ++ [.dead]) ++ (J ++ L)) := by
      refine (HS.kill H.length).trans (HS.eq ?_)
      rw [List.set_append_right _ _ (Nat.le_refl _), Nat.sub_self]; simp
    refine h1.trans ((HS.kills J (H ++ [.dead]) L).trans (HS.eq ?_))
    simp [List.replicate_succ]
/-- Less is said of a temporary's room. -/
theorem Shift.ro (t : Nat) {n : Nat} {xs : List AV} {tok : Tok} (h : ts.getD t .top = .sl n xs tok) : Shift E N ts ds H (ts.set t (.sl n xs .ro)) H := fun g0 g w a' hd hl hr ha => by
  refine ⟨g, hl, hr, ?_, ha.2⟩
  have h1 := ha.1.2 t
  rw [h] at h1
  have h2 := ha.1.set t (c := a'.tmps.getD t undef) (sl_ro g _ h1)
  have e : a'.tmps.setIfInBounds t (a'.tmps.getD t undef) = a'.tmps := by
    apply Array.ext_getElem?
    intro i
    rw [Array.getElem?_setIfInBounds]
    split
    · rename_i hi
      subst hi
      split
      · rename_i hlt; simp [Array.getD, hlt]
      · rename_i hlt; rw [Array.getElem?_eq_none (by omega)]
    · rfl
  rwa [e] at h2
/-- A row with room, in a cell: its room moves into a place that stands ready. -/
theorem HS.move (i k q j : Nat) {sz e eq n : Nat} {xs ys : List AV} (hH : H[i]? = some (.cells xs)) (hx : xs.getD k .top = .sl n ys (.at q eq)) (hk : k < xs.length) (hQ : H[q]? = some (.tail sz eq)) (hT : H[j]? = some (.tail sz e)) (hqj : q ≠ j) {H2 : List AO} (h2 : ((H.set q .dead).set j (.tail sz (e + 1))).set i (.cells (xs.set k (.sl n ys (.at j (e + 1))))) = H2) : HS E H H2 := fun g w hr => by
  subst h2
  have hij : j ≠ i := by rintro rfl; rw [hH] at hT; simp at hT
  have hqi : q ≠ i := by rintro rfl; rw [hH] at hQ; simp at hQ
  have hq : q < H.length := (List.getElem?_eq_some_iff.1 hQ).1
  obtain ⟨ti, o1, o2, o3⟩ := hr.objs _ _ hQ
  have hr2 := Rep.kill_tail hr hQ
  have hfree : ti.spare ≠ 0 → ∀ m, m ≠ j → own g (H.set q .dead) m ≠ some ti.b := by
    intro hs m _ hm
    have hoq : own g H q = some ti.b := by
      unfold own; rw [hQ]; simp only [o1]; rw [if_neg hs]
    by_cases e2 : q = m
    · subst e2
      unfold own at hm
      rw [List.getElem?_set_self hq] at hm
      simp at hm
    · have hom : own g H m = some ti.b := by
        unfold own at hm ⊢
        rw [List.getElem?_set_ne e2] at hm; exact hm
      exact e2 (hr.apart q m _ hoq hom)
  obtain ⟨r1, r2⟩ := Rep.next_tok hr2 (t := j) (sz := sz) (e := e) (by rw [List.getElem?_set_ne hqj, hT]) (Nat.lt_succ_self e) ti o3 hfree
  refine ⟨_, r2, ?_⟩
  have htk : (g.setTok j (e + 1) ti).tok j (e + 1) = some ti := setTok_same _ _ _ _
  refine Rep.recells (xs := xs) r1 (by rw [List.getElem?_set_ne hij, List.getElem?_set_ne hqi, hH]) (by simp) (fun b cs T fz h1 h2 h3 p => ?_)
  rw [set_getD_at hk]
  split
  · rename_i e2
    subst e2
    have h4 := h3 k
    rw [hx] at h4
    have old : (g.setTok j (e + 1) ti).tok q eq = some ti := by rw [setTok_other _ _ (fun h => hqj h.1)]; exact o1
    generalize cs.getD k undef = c at h4
    cases h4 with
    | nsl tok h =>
      obtain ⟨t2, a1, a2⟩ := h
      rw [old] at a1; injection a1 with a1
      exact .nsl _ ⟨_, htk, by rw [a1]; exact a2⟩
    | sl n xs tok b o cap vs hn hk hv ht =>
      obtain ⟨t2, a1, a2, a3⟩ := ht
      rw [old] at a1; injection a1 with a1
      subst a1
      exact .sl _ _ _ _ _ _ vs hn hk hv ⟨_, htk, a2, a3⟩
  · exact h3 p
/-- Where a place is read that lies in a heap's beginning. -/
theorem getL {A B : List AO} {a : Nat} (h : a < A.length) : (A ++ B)[a]? = A[a]? := List.getElem?_append_left h
theorem setL {A B : List AO} {a : Nat} {x : AO} (h : a < A.length) : (A ++ B).set a x = A.set a x ++ B := List.set_append_left _ _ h
theorem atF {A : List AO} {a : Nat} {o : AO} (h : A[a]? = some o) : (∀ B, (A ++ B)[a]? = some o) ∧ (∀ x, (A.set a x)[a]? = some x) ∧ (∀ x B, (A.set a x ++ B)[a]? = some x) ∧ (∀ x y, (A.set a x).set a y = A.set a y) ∧ (∀ B x, (A ++ B).set a x = A.set a x ++ B) ∧ (∀ x B y, (A.set a x ++ B).set a y = A.set a y ++ B) ∧ (∀ x, (A.set a x).length = A.length) := by
  have ha := (List.getElem?_eq_some_iff.1 h).1
  refine ⟨fun B => by rw [List.getElem?_append_left ha, h], fun x => List.getElem?_set_self ha, fun x B => by rw [List.getElem?_append_left (by simpa using ha), List.getElem?_set_self ha], fun x y => List.set_set .., fun B x => List.set_append_left _ _ ha, fun x B y => by rw [List.set_append_left _ _ (by simpa using ha), List.set_set], fun x => List.length_set ..⟩
end Go.Ab
