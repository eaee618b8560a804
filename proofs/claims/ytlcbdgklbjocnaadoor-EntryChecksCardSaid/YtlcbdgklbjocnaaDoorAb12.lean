/- The abstract view, 12: append. -/
import Derived.Test.YtlcbdgklbjocnaaDoorAb11
set_option linter.unusedVariables false
set_option linter.unusedSimpArgs false
namespace Go.Ab
open Go Go.RowKit

variable {E : Env} {g : Ghost} {H : List AO} {w w' : World} {a : AAct} {a' : Act}

/-- What is appended: how many, their cells. -/
def srcCells (H : List AO) (size : Nat) : AV → Option (Nat × List AV)
  | .sl m ys _ => if ys.length = m * size then some (m, ys) else none
  | .str s => if size = 1 then some (s.length, bytesAV s) else none
  | .msl id off m => (readCells H (m * size) (.ref id off)).map fun ys => (m, ys)
  | _ => none

def evAppend (E : Env) (H : List AO) (t : TypeId) (x y : AV) : Option (AV × List AO) :=
  match E.ty t with
  | some i => match i.u with
    | .sl e => match E.ty e with
      | some j => match x, srcCells H j.size y with
        | .sl n xs tok, some (m, ys) => if 0 < j.size ∧ xs.length = n * j.size ∧ ys.all AV.one = true ∧ 0 < j.bytes ∧ (n + m) * j.bytes ≤ 140737488355328 then
            match tok with
            | .full => some (.sl (n + m) (xs ++ ys) (.at H.length (n + m)), H ++ [.tail j.size (n + m)])
            | .at t' e' => match H[t']? with
              | some (.tail sz e2) => if e2 = e' ∧ sz = j.size then some (.sl (n + m) (xs ++ ys) (.at t' (e' + m)), H.set t' (.tail sz (e' + m))) else none
              | _ => none
            | .ro => none
          else none
        | _, _ => none
      | none => none
    | _ => none
  | none => none

theorem src_run (hr : E.Rep g H w) {size m : Nat} {y : AV} {c : Value} {ys : List AV} (h : srcCells H size y = some (m, ys)) (hy : VRel g y c) :
    (∀ w2, (Builtin.lenOf c).run E.P w2 = .ok m w2) ∧ ys.length = m * size ∧ ∃ vs : List Value, vs.length = ys.length ∧ (∀ k, VRel g (ys.getD k .top) (vs.getD k undef)) ∧ ∀ w2 : World, w2.heap = w.heap → (Builtin.firstCells size m c).run E.P w2 = .ok vs.toArray w2 := by
  have cellw : ∀ {w2 : World}, w2.heap = w.heap → ∀ ad, w2.cell? ad = w.cell? ad := fun h ad => by simp [World.cell?, h]
  cases y <;> simp only [srcCells] at h <;> try (simp at h; done)
  case str s =>
    split at h
    · rename_i hs; injection h with h; injection h with h1 h2; subst h1; subst h2; subst hs
      rw [hy.str_inv]
      have hsz : (⟨s.toArray⟩ : ByteArray).size = s.length := by simp [ByteArray.size]
      refine ⟨fun w2 => by simp [Builtin.lenOf, ByteArray.size], by simp [bytesAV], s.map (fun b => .int .u8 b.toNat), by simp [bytesAV], fun k => ?_, fun w2 _ => ?_⟩
      · simp only [bytesAV, List.getD_eq_getElem?_getD, List.getElem?_map]
        cases s[k]? with
        | none => exact .top _
        | some x => exact .int _ _
      · simp only [Builtin.firstCells, Sem.run_pure]
        congr 1
        rw [ByteArray.data_extract]
        apply Array.ext'
        simp
    · simp at h
  case sl n xs tok =>
    split at h
    · rename_i hs; injection h with h; injection h with h1 h2; subst h1; subst h2
      cases hy with
      | nsl => exact ⟨fun w2 => rfl, hs, [], rfl, fun k => .top _, fun w2 _ => rfl⟩
      | sl _ _ _ b o cap vs hn hk hv ht =>
        refine ⟨fun w2 => rfl, hs, (List.range xs.length).map vs, by simp, fun k => ?_, fun w2 hw => ?_⟩
        · by_cases hk' : k < xs.length
          · have := hv k
            simpa [List.getD_eq_getElem?_getD, hk'] using this
          · rw [List.getD_eq_getElem?_getD, List.getElem?_eq_none (by omega)]; exact .top _
        · have := loadCells_run (P := E.P) (w := w2) (b := b) (o := o) (n := xs.length) (vs := vs) (fun i hi => by rw [cellw hw]; exact hr.know _ _ _ (hk i hi))
          simp only [Builtin.firstCells, ← hs]
          exact this
    · simp at h
  case msl id off n =>
    cases hrd : readCells H (n * size) (.ref id off) with
    | none => rw [hrd] at h; simp at h
    | some zs =>
      rw [hrd] at h; simp only [Option.map_some] at h; injection h with h; injection h with h1 h2; subst h1; subst h2
      cases hy with
      | msl _ _ _ b off' cap hp hn ho =>
        obtain ⟨b2, o2, vs, hc, hl, hcs, hvs⟩ := readCells_rel hr hrd (.ref id off b hp)
        injection hc with hc; injection hc with hc; injection hc with hc1 hc2 _; subst hc1; subst hc2
        refine ⟨fun w2 => rfl, hl, (List.range zs.length).map vs, by simp, fun k => ?_, fun w2 hw => ?_⟩
        · by_cases hk' : k < zs.length
          · have := hvs k
            simpa [List.getD_eq_getElem?_getD, hk'] using this
          · rw [List.getD_eq_getElem?_getD, List.getElem?_eq_none (by omega)]; exact .top _
        · have := loadCells_run (P := E.P) (w := w2) (b := b) (o := off') (n := zs.length) (vs := vs) (fun i hi => by
            rcases ho with ho | ho
            · subst ho; omega
            · subst ho; rw [cellw hw]; exact hcs i (by omega))
          simp only [Builtin.firstCells, ← hl]
          exact this

/-- append's two ways. -/
theorem append_run (P : Program) {t t2 ty e : TypeId} {d2 : TypeDesc} {i : TypeInfo} {z : Value} (ht : P.underlying t = some (.slice e)) (ht2 : P.underlying t2 = some d2) (hd2 : ∀ k, d2 ≠ .int k) (hi : P.info? e = some i) (hz : i.zero = some z)
    {base : Option Addr} {n cap m : Nat} {c : Value} {news olds : List Value} (hlen : ∀ w2, (Builtin.lenOf c).run P w2 = .ok m w2) (hnew : ∀ w2 : World, w2.heap = w.heap → (Builtin.firstCells i.size m c).run P w2 = .ok news.toArray w2)
    (hold : ∀ w2 : World, w2.heap = w.heap → (Builtin.firstCells i.size n (.slice base n cap)).run P w2 = .ok olds.toArray w2) (hb : 0 < i.bytes) (hfit : (n + m) * i.bytes ≤ 140737488355328) :
    (n + m ≤ cap → (Builtin.append_ #[t, t2] ty #[.slice base n cap, c]).run P w = ((match base with | some a => storeCells (a.add (n * i.size)) news | none => pure ()).run P w).andThen fun _ w' => .ok (.slice base (n + m) cap) w') ∧
    (cap < n + m → (Builtin.append_ #[t, t2] ty #[.slice base n cap, c]).run P w = .ok (.slice (some ⟨w.heap.size, 0, none⟩) (n + m) (grownCap w (n + m) cap e))
        (w.drew.alloc (.cells (olds.toArray ++ news.toArray ++ Builtin.zeroCells z.cells (grownCap w (n + m) cap e - (n + m))) e))) := by
  have hz0 : (match d2 with | .int _ => true | _ => false) = false := by cases d2 <;> first | rfl | exact absurd rfl (hd2 _)
  have hnm : n + m ≤ (n + m) * i.bytes := Nat.le_mul_of_pos_right _ hb
  constructor
  · intro h
    unfold Builtin.append_
    simp only [List.getElem?_toArray, List.getElem?_cons_zero, List.getElem?_cons_succ]
    simp only [Sem.run_bind, run_underlying ht, run_underlying ht2, Result.andThen_ok, Sem.run_pure, hz0, hlen, if_pos h, Bool.not_false, if_true, Bool.false_eq_true, if_false, hnew w rfl, sizeOf, typeInfo, hi, run_program]
    cases base <;> simp
  · intro h
    have h' : ¬ (n + m ≤ cap) := by omega
    have h63 : ¬ (9223372036854775807 < ((n : Int) + (m : Int))) := by omega
    have h48 : ¬ (281474976710656 < Builtin.nextslicecap (n + m) cap * i.bytes) := by have := growslice_fits h hfit; omega
    have hb0 : i.bytes ≠ 0 := by omega
    unfold Builtin.append_
    simp only [List.getElem?_toArray, List.getElem?_cons_zero, List.getElem?_cons_succ]
    simp [run_underlying ht, run_underlying ht2, hz0, hlen, h', h63, h48, hb0, hnew w.drew rfl, hold w.drew rfl, sizeOf, typeInfo, hi, hz, zeroValue, Question.forced, newRow, grownCap]
    congr 2
    apply Array.ext'
    simp [List.append_assoc]

def Ghost.setTok (g : Ghost) (t e : Nat) (ti : TI) : Ghost := { g with tok := fun t' e' => if t' = t ∧ e' = e then some ti else g.tok t' e' }

theorem Ghost.setTok_le (g : Ghost) {t e : Nat} (ti : TI) (h : g.tok t e = none) : GLe g (g.setTok t e ti) :=
  ⟨fun _ _ _ h => h, fun _ _ h => h, fun t' e' x hx => by
    show (if t' = t ∧ e' = e then _ else _) = _
    rw [if_neg (by rintro ⟨rfl, rfl⟩; rw [h] at hx; simp at hx)]; exact hx⟩

theorem setTok_same (g : Ghost) (t e : Nat) (ti : TI) : (g.setTok t e ti).tok t e = some ti := by
  show (if t = t ∧ e = e then _ else _) = _
  rw [if_pos ⟨rfl, rfl⟩]

theorem setTok_other (g : Ghost) {t e t' e' : Nat} (ti : TI) (h : ¬ (t' = t ∧ e' = e)) : (g.setTok t e ti).tok t' e' = g.tok t' e' := by
  show (if t' = t ∧ e' = e then _ else _) = _
  rw [if_neg h]

/-- A new token. -/
theorem Rep.new_tok {n0 : Nat} {w0 : World} {gl : Nat → List AV} (hr : Rep n0 w0 gl g H w) (sz e : Nat) (ti : TI) (ht : ti.spare = 0 ∨ ∃ cs T fz, n0 ≤ ti.b ∧ w.heap[ti.b]? = some (.cells cs T fz) ∧ ti.pos + ti.spare * sz ≤ cs.size ∧
      (∀ k, ti.pos ≤ k → k < ti.pos + ti.spare * sz → ¬ (fz.1 ≤ k ∧ k < fz.2)) ∧ ∀ o, ti.pos ≤ o → g.K ti.b o = none) (hfree : ti.spare ≠ 0 → ∀ i, own g H i ≠ some ti.b) :
    Rep n0 w0 gl ((g.push 0).setTok H.length e ti) (H ++ [.tail sz e]) w ∧ GLe g ((g.push 0).setTok H.length e ti) := by
  have hnone : ∀ e', (g.push 0).tok H.length e' = none := fun e' => hr.beyond _ _ (Nat.le_refl _)
  have le : GLe g ((g.push 0).setTok H.length e ti) := (g.push_le 0).trans ((g.push 0).setTok_le ti (hnone e))
  have hown : ∀ i, i < H.length → own ((g.push 0).setTok H.length e ti) (H ++ [.tail sz e]) i = own g H i := by
    intro i hi
    unfold own
    rw [List.getElem?_append_left hi]
    have hp : ((g.push 0).setTok H.length e ti).phi[i]? = g.phi[i]? := by
      show (g.phi ++ [0])[i]? = _
      rw [List.getElem?_append_left (by rw [hr.len]; exact hi)]
    cases hH : H[i]? with
    | none => rfl
    | some x =>
      cases x <;> first | rfl | exact hp | skip
      rename_i sz' e'
      simp only
      rw [setTok_other _ _ (by omega)]; rfl
  have hown2 : ∀ {i b : Nat}, own ((g.push 0).setTok H.length e ti) (H ++ [.tail sz e]) i = some b → H.length ≤ i → i = H.length ∧ b = ti.b ∧ ti.spare ≠ 0 := by
    intro i b hb hi
    by_cases hi' : i = H.length
    · subst hi'
      unfold own at hb
      rw [List.getElem?_append_right (Nat.le_refl _), Nat.sub_self] at hb
      simp only [List.getElem?_cons_zero, setTok_same] at hb
      split at hb
      · simp at hb
      · rename_i hs; injection hb with hb; exact ⟨rfl, hb.symm, hs⟩
    · unfold own at hb
      rw [List.getElem?_eq_none (by simp; omega)] at hb
      simp at hb
  refine ⟨⟨hr.below, hr.n0le, hr.know, by show (g.phi ++ [0]).length = _; simp [hr.len], fun t e' h => ?_, fun i o h => ?_, fun i j b hi hj => ?_, fun i => (hr.glob i).mono le⟩, le⟩
  · simp at h
    rw [setTok_other _ _ (by omega)]
    exact hr.beyond t e' (by omega)
  · by_cases hi : i < H.length
    · rw [List.getElem?_append_left hi] at h
      exact ORep.frame h (hr.objs i o h) le (fun _ _ => rfl) (fun _ _ _ h => h) (fun e' h => by rw [setTok_other _ _ (by omega)]; exact h)
    · rw [List.getElem?_append_right (by omega)] at h
      have : i = H.length := by
        have := (List.getElem?_eq_some_iff.1 h).1
        simp at this; omega
      subst this
      rw [Nat.sub_self] at h
      simp at h
      subst h
      exact ⟨ti, setTok_same _ _ _ _, fun e' he => by rw [setTok_other _ _ (by omega)]; exact hnone e', ht⟩
  · by_cases hi' : i < H.length
    · rw [hown i hi'] at hi
      by_cases hj' : j < H.length
      · rw [hown j hj'] at hj
        exact hr.apart i j b hi hj
      · obtain ⟨_, this, hs⟩ := hown2 hj (by omega)
        subst this
        exact absurd hi (hfree hs i)
    · obtain ⟨h1, h1', hs⟩ := hown2 hi (by omega)
      by_cases hj' : j < H.length
      · rw [hown j hj'] at hj
        rw [h1'] at hj
        exact absurd hj (hfree hs j)
      · have h2 := (hown2 hj (by omega)).1
        omega

/-- A token goes on to a later count. -/
theorem Rep.next_tok {n0 : Nat} {w0 : World} {gl : Nat → List AV} (hr : Rep n0 w0 gl g H w) {t sz e e2 : Nat} (hH : H[t]? = some (.tail sz e)) (hlt : e < e2) (ti : TI) (ht : ti.spare = 0 ∨ ∃ cs T fz, n0 ≤ ti.b ∧ w.heap[ti.b]? = some (.cells cs T fz) ∧ ti.pos + ti.spare * sz ≤ cs.size ∧
      (∀ k, ti.pos ≤ k → k < ti.pos + ti.spare * sz → ¬ (fz.1 ≤ k ∧ k < fz.2)) ∧ ∀ o, ti.pos ≤ o → g.K ti.b o = none) (hfree : ti.spare ≠ 0 → ∀ i, i ≠ t → own g H i ≠ some ti.b) :
    Rep n0 w0 gl (g.setTok t e2 ti) (H.set t (.tail sz e2)) w ∧ GLe g (g.setTok t e2 ti) := by
  obtain ⟨ti0, ho1, ho2, ho3⟩ := hr.objs _ _ hH
  have htl : t < H.length := (List.getElem?_eq_some_iff.1 hH).1
  have le : GLe g (g.setTok t e2 ti) := g.setTok_le ti (ho2 e2 hlt)
  have hown : ∀ i, i ≠ t → own (g.setTok t e2 ti) (H.set t (.tail sz e2)) i = own g H i := by
    intro i hi
    unfold own
    rw [List.getElem?_set_ne (by omega)]
    cases hHi : H[i]? with
    | none => rfl
    | some x =>
      cases x <;> first | rfl | skip
      rename_i sz' e'
      simp only
      rw [setTok_other _ _ (by omega)]
  have hown2 : ∀ {b : Nat}, own (g.setTok t e2 ti) (H.set t (.tail sz e2)) t = some b → b = ti.b ∧ ti.spare ≠ 0 := by
    intro b hb
    unfold own at hb
    rw [List.getElem?_set_self htl] at hb
    simp only [setTok_same] at hb
    split at hb
    · simp at hb
    · rename_i hs; injection hb with hb; exact ⟨hb.symm, hs⟩
  refine ⟨⟨hr.below, hr.n0le, hr.know, by simp [hr.len]; exact hr.len, fun t' e' h => ?_, fun i o h => ?_, fun i j b hi hj => ?_, fun i => (hr.glob i).mono le⟩, le⟩
  · simp at h
    rw [setTok_other _ _ (by omega)]
    exact hr.beyond t' e' h
  · by_cases hi : t = i
    · subst hi
      rw [List.getElem?_set_self htl] at h
      injection h with h; subst h
      exact ⟨ti, setTok_same _ _ _ _, fun e' he => by rw [setTok_other _ _ (by omega)]; exact ho2 e' (by omega), ht⟩
    · rw [List.getElem?_set_ne hi] at h
      exact ORep.frame h (hr.objs i o h) le (fun _ _ => rfl) (fun _ _ _ h => h) (fun e' h => by rw [setTok_other _ _ (by omega)]; exact h)
  · by_cases hi' : i = t
    · subst hi'
      obtain ⟨this, hs⟩ := hown2 hi; subst this
      by_cases hj' : j = i
      · exact hj'.symm
      · rw [hown j hj'] at hj
        exact absurd hj (hfree hs j hj')
    · rw [hown i hi'] at hi
      by_cases hj' : j = t
      · subst hj'
        obtain ⟨this, hs⟩ := hown2 hj; subst this
        exact absurd hi (hfree hs i hi')
      · rw [hown j hj'] at hj
        exact hr.apart i j b hi hj

/-- Cells of a block that a token owns are written behind what is known, and known from now on. -/
theorem Rep.fill {n0 : Nat} {w0 : World} {gl : Nat → List AV} (hr : Rep n0 w0 gl g H w) {t sz e : Nat} (hH : H[t]? = some (.tail sz e)) {ti : TI} (htok : g.tok t e = some ti) (hsp : ti.spare ≠ 0) {cs arr : Array Value} {T : TypeId} {fz : Nat × Nat} (hcs : w.heap[ti.b]? = some (.cells cs T fz))
    {vs : List Value} (harr : arr = setA cs ti.pos vs) (hroom : ti.pos + vs.length ≤ cs.size) {w' : World} (hw : w'.heap[ti.b]? = some (.cells arr T fz)) (ho : ∀ k, k ≠ ti.b → w'.heap[k]? = w.heap[k]?) (h1 : w'.os = w.os) (h2 : w'.tape = w.tape) (h3 : w'.output = w.output) (h4 : w'.heap.size = w.heap.size)
    {k : Nat} (hk : k ≤ ti.spare) (hvs : vs.length = k * sz) (hk0 : 0 < k) :
    ∃ g', GLe g g' ∧ Rep n0 w0 gl g' (H.set t (.tail sz (e + k))) w' ∧ g'.tok t (e + k) = some ⟨ti.b, ti.pos + vs.length, ti.spare - k⟩ ∧ (∀ i v, vs[i]? = some v → g'.K ti.b (ti.pos + i) = some v) := by
  obtain ⟨ti0, ho1, ho2, ho3⟩ := hr.objs _ _ hH
  rw [htok] at ho1; injection ho1 with ho1; subst ho1
  rcases ho3 with ho3 | ⟨cs0, T0, fz0, hn0, hcs0, hroom0, hfz, hK⟩
  · exact absurd ho3 hsp
  rw [hcs] at hcs0; injection hcs0 with hcs0; injection hcs0 with e1 e2 e3; subst e1; subst e2; subst e3
  have htl : t < H.length := (List.getElem?_eq_some_iff.1 hH).1
  have hown : own g H t = some ti.b := by unfold own; rw [hH]; simp [htok, hsp]
  have hblt : ti.b < w.heap.size := (Array.getElem?_eq_some_iff.1 hcs).1
  have hgt : g.tok t (e + k) = none := ho2 _ (by omega)
  let gk : Ghost := { g with K := fun b o => if b = ti.b ∧ ti.pos ≤ o ∧ o < ti.pos + vs.length then vs[o - ti.pos]? else g.K b o }
  have lek : GLe g gk := by
    refine ⟨fun b o v h => ?_, fun _ _ h => h, fun _ _ _ h => h⟩
    show (if _ then _ else _) = _
    rw [if_neg (by rintro ⟨rfl, h1, h2⟩; rw [hK o h1] at h; simp at h)]; exact h
  let ti' : TI := ⟨ti.b, ti.pos + vs.length, ti.spare - k⟩
  have le2 : GLe gk (gk.setTok t (e + k) ti') := gk.setTok_le ti' hgt
  have le := lek.trans le2
  have hKother : ∀ b, b ≠ ti.b → ∀ o, (gk.setTok t (e + k) ti').K b o = g.K b o := by
    intro b hb o
    show (if _ then _ else _) = _
    rw [if_neg (by rintro ⟨rfl, _⟩; exact hb rfl)]
  have hownother : ∀ i, i ≠ t → own (gk.setTok t (e + k) ti') (H.set t (.tail sz (e + k))) i = own g H i := by
    intro i hi
    unfold own
    rw [List.getElem?_set_ne (by omega)]
    cases hHi : H[i]? with
    | none => rfl
    | some x =>
      cases x <;> first | rfl | skip
      simp only
      rw [setTok_other _ _ (by omega)]
  have hown2 : ∀ {b : Nat}, own (gk.setTok t (e + k) ti') (H.set t (.tail sz (e + k))) t = some b → b = ti.b := by
    intro b hb
    unfold own at hb
    rw [List.getElem?_set_self htl] at hb
    simp only [setTok_same] at hb
    split at hb
    · simp at hb
    · injection hb with hb; exact hb.symm
  have hmul : ti.spare * sz = k * sz + (ti.spare - k) * sz := by rw [← Nat.add_mul]; congr 1; omega
  refine ⟨gk.setTok t (e + k) ti', le, ⟨⟨h1.trans hr.below.os, h2.trans hr.below.tape, h3.trans hr.below.output, by rw [h4]; exact hr.below.size, fun i hi => (ho i (by omega)).trans (hr.below.block i hi)⟩, hr.n0le, fun b o v h => ?_, by simp; exact hr.len, fun t' e' h => ?_, fun i o h => ?_, fun i j b hi hj => ?_, fun i => (hr.glob i).mono le⟩, setTok_same _ _ _ _, fun i v hv => ?_⟩
  · by_cases hb : b = ti.b
    · subst hb
      rw [cell_of_heap hw, harr, setA_get]
      have h' : (if ti.b = ti.b ∧ ti.pos ≤ o ∧ o < ti.pos + vs.length then vs[o - ti.pos]? else g.K ti.b o) = some v := h
      by_cases ho' : ti.pos ≤ o ∧ o < ti.pos + vs.length
      · rw [if_pos ⟨rfl, ho'⟩] at h'
        rw [if_pos ⟨ho'.1, ho'.2, by omega⟩]; exact h'
      · rw [if_neg (by rintro ⟨_, h⟩; exact ho' h)] at h'
        rw [if_neg (by rintro ⟨a, b, _⟩; exact ho' ⟨a, b⟩)]
        have := hr.know _ _ _ h'
        rwa [cell_of_heap hcs] at this
    · rw [hKother b hb] at h
      have := hr.know _ _ _ h
      simpa [World.cell?, ho b hb] using this
  · simp at h
    rw [setTok_other _ _ (by omega)]
    exact hr.beyond t' e' h
  · by_cases hi : t = i
    · subst hi
      rw [List.getElem?_set_self htl] at h
      injection h with h; subst h
      refine ⟨ti', setTok_same _ _ _ _, fun e' he => by rw [setTok_other _ _ (by omega)]; exact ho2 e' (by omega), .inr ⟨arr, T, fz, hn0, hw, ?_, fun q hq1 hq2 => ?_, fun o hq => ?_⟩⟩
      · show ti.pos + vs.length + (ti.spare - k) * sz ≤ _
        rw [harr, setA_size, hvs]; omega
      · refine hfz q (by show ti.pos ≤ q; have : ti.pos + vs.length ≤ q := hq1; omega) ?_
        have : q < ti.pos + vs.length + (ti.spare - k) * sz := hq2
        omega
      · show (if ti.b = ti.b ∧ ti.pos ≤ o ∧ o < ti.pos + vs.length then vs[o - ti.pos]? else g.K ti.b o) = none
        have hq' : ti.pos + vs.length ≤ o := hq
        rw [if_neg (by omega)]
        exact hK o (by omega)
    · rw [List.getElem?_set_ne hi] at h
      refine ORep.frame h (hr.objs i o h) le (fun b hb => ho b ?_) (fun b hb o hko => ?_) (fun e' h => by rw [setTok_other _ _ (by omega)]; exact h)
      · rintro rfl; exact hi (hr.apart _ _ _ hown hb)
      · rw [hKother b (by rintro rfl; exact hi (hr.apart _ _ _ hown hb))]; exact hko
  · by_cases hi' : i = t
    · subst hi'
      have := hown2 hi; subst this
      by_cases hj' : j = i
      · exact hj'.symm
      · rw [hownother j hj'] at hj
        exact hr.apart _ _ _ hown hj
    · rw [hownother i hi'] at hi
      by_cases hj' : j = t
      · subst hj'
        have := hown2 hj; subst this
        exact (hr.apart _ _ _ hown hi).symm
      · rw [hownother j hj'] at hj
        exact hr.apart i j b hi hj
  · show (if ti.b = ti.b ∧ ti.pos ≤ ti.pos + i ∧ ti.pos + i < ti.pos + vs.length then vs[ti.pos + i - ti.pos]? else g.K ti.b (ti.pos + i)) = some v
    have hil : i < vs.length := (List.getElem?_eq_some_iff.1 hv).1
    rw [if_pos ⟨rfl, by omega, by omega⟩, Nat.add_sub_cancel_left]; exact hv

/-- The elements of a slice as a list of values. -/
theorem sl_cells (hr : E.Rep g H w) {n sz : Nat} {xs : List AV} {tok : Tok} {c : Value} (h : VRel g (.sl n xs tok) c) (hl : xs.length = n * sz) :
    ∃ base cap, c = .slice base n cap ∧ n ≤ cap ∧ ∃ olds : List Value, olds.length = xs.length ∧ (∀ k, VRel g (xs.getD k .top) (olds.getD k undef)) ∧ (∀ w2 : World, w2.heap = w.heap → (Builtin.firstCells sz n (.slice base n cap)).run E.P w2 = .ok olds.toArray w2) ∧
      ((base = none ∧ n = 0 ∧ xs = [] ∧ cap = 0 ∧ TokN g tok) ∨ ∃ b o, base = some ⟨b, o, none⟩ ∧ (∀ i, i < xs.length → g.K b (o + i) = some (olds.getD i undef)) ∧ TokOk g tok b (o + xs.length) (cap - n)) := by
  cases h with
  | nsl _ hn => exact ⟨none, 0, rfl, Nat.le_refl _, [], rfl, fun k => .top _, fun w2 _ => rfl, .inl ⟨rfl, rfl, rfl, rfl, hn⟩⟩
  | sl _ _ _ b o cap vs hn hk hv ht =>
    have hsrc := src_run (E := E) hr (size := sz) (m := n) (y := .sl n xs tok) (ys := xs) (by simp only [srcCells]; rw [if_pos hl]) (.sl n xs tok b o cap vs hn hk hv ht)
    refine ⟨_, cap, rfl, hn, (List.range xs.length).map vs, by simp, fun k => ?_, fun w2 hw => ?_, .inr ⟨b, o, rfl, fun i hi => ?_, ht⟩⟩
    · by_cases hk' : k < xs.length
      · have := hv k
        simpa [List.getD_eq_getElem?_getD, hk'] using this
      · rw [List.getD_eq_getElem?_getD, List.getElem?_eq_none (by omega)]; exact .top _
    · have := loadCells_run (P := E.P) (w := w2) (b := b) (o := o) (n := xs.length) (vs := vs) (fun i hi => by
        have := hr.know _ _ _ (hk i hi)
        simpa [World.cell?, hw] using this)
      simp only [Builtin.firstCells, ← hl]
      exact this
    · have := hk i hi
      simp [hi]; exact this

theorem ty_info {t : TypeId} {j : TyI} (h : E.ty t = some j) : ∃ z inf, E.P.info? t = some inf ∧ inf.zero = some z ∧ inf.size = j.size ∧ inf.bytes = j.bytes ∧ z.cells.size = j.size := by
  obtain ⟨z, inf, h1, h2, h3, h4, h5, _⟩ := (E.ok t j h).info
  exact ⟨z, inf, h1, h2, h3, h4, h5⟩

theorem append_sound (hr : E.Rep g H w) {t t2 ty : TypeId} {i2 : TyI} (ht2 : E.ty t2 = some i2) (hi2 : ∀ k, i2.u ≠ .int k) {x y : AV} {c d : Value} (hx : VRel g x c) (hy : VRel g y d) {v : AV} {H' : List AO} (h : evAppend E H t x y = some (v, H')) :
    ∃ u w' g', (Builtin.append_ #[t, t2] ty #[c, d]).run E.P w = .ok u w' ∧ GLe g g' ∧ E.Rep g' H' w' ∧ VRel g' v u := by
  unfold evAppend at h
  split at h <;> try (simp at h; done)
  rename_i i ht
  obtain ⟨dd, hd, hu⟩ := und_of ht
  split at h <;> try (simp at h; done)
  rename_i e hui
  rw [hui] at hu; simp only [URel] at hu; subst hu
  split at h <;> try (simp at h; done)
  rename_i j hj
  split at h <;> try (simp at h; done)
  rename_i n xs tok m ys hsrc
  split at h <;> try (simp at h; done)
  rename_i hcond
  obtain ⟨hsz0, hxl, hone, hb0, hfit⟩ := hcond
  obtain ⟨z, inf, hinf, hz, hisz, hiby, hzs⟩ := ty_info hj
  obtain ⟨d2, hd2, hu2⟩ := und_of ht2
  have hd2' : ∀ k, d2 ≠ .int k := by
    rintro k rfl
    cases hiu : i2.u <;> rw [hiu] at hu2 <;> simp [URel] at hu2
    exact hi2 _ hiu
  obtain ⟨hlen, hyl, news, hnl, hnr, hnrun⟩ := src_run hr hsrc hy
  obtain ⟨base, cap, rfl, hncap, olds, hol, hor, horun, hbase⟩ := sl_cells hr hx hxl
  obtain ⟨runA, runB⟩ := append_run (w := w) E.P (ty := ty) hd hd2 hd2' hinf hz (base := base) (n := n) (cap := cap) (m := m) (c := d) (news := news) (olds := olds) hlen
    (fun w2 hw => by rw [hisz]; exact hnrun w2 hw) (fun w2 hw => by rw [hisz]; exact horun w2 hw) (by omega) (by rw [hiby]; exact hfit)
  have hnm : (n + m) * j.size = n * j.size + m * j.size := Nat.add_mul _ _ _
  have hcat : ∀ k, VRel g ((xs ++ ys).getD k .top) ((olds ++ news).getD k undef) := by
    intro k
    simp only [List.getD_eq_getElem?_getD] at hor hnr ⊢
    by_cases hk : k < xs.length
    · rw [List.getElem?_append_left hk, List.getElem?_append_left (by omega)]; exact hor k
    · rw [List.getElem?_append_right (by omega), List.getElem?_append_right (by omega), hol]; exact hnr _
  by_cases hroom : n + m ≤ cap
  · have hrun := runA hroom
    by_cases hm : m = 0
    · subst hm
      have hys : ys = [] := List.eq_nil_of_length_eq_zero (by omega)
      have hnews : news = [] := List.eq_nil_of_length_eq_zero (by omega)
      subst hys; subst hnews
      have hrun' : (Builtin.append_ #[t, t2] ty #[.slice base n cap, d]).run E.P w = .ok (.slice base n cap) w := by
        rw [hrun]
        cases base <;> rfl
      rw [List.append_nil, Nat.add_zero] at h
      cases tok with
      | ro => simp at h
      | full =>
        injection h with h; injection h with h1 h2; subst h1; subst h2
        obtain ⟨r1, r2⟩ := Rep.new_tok hr j.size n ⟨0, 0, 0⟩ (.inl rfl) (fun h => absurd rfl h)
        refine ⟨_, w, _, hrun', r2, r1, ?_⟩
        cases hx with
        | nsl _ _ => exact .nsl _ ⟨_, setTok_same _ _ _ _, rfl⟩
        | sl _ _ _ b o _ vs hn hk hv htk =>
          have hsp : cap - n = 0 := htk
          exact .sl _ _ _ b o cap vs hn (fun i hi => r2.K _ _ _ (hk i hi)) (fun i => (hv i).mono r2) ⟨_, setTok_same _ _ _ _, hsp.symm, .inl hsp⟩
      | «at» t' e' =>
        simp only at h
        split at h <;> try (simp at h; done)
        rename_i sz e2 hH
        split at h <;> try (simp at h; done)
        rename_i hc
        injection h with h; injection h with h1 h2; subst h1; subst h2
        obtain ⟨rfl, rfl⟩ := hc
        have hset : H.set t' (.tail j.size (e2 + 0)) = H := by
          apply List.ext_getElem?
          intro q
          by_cases hq : t' = q
          · subst hq; rw [List.getElem?_set_self (List.getElem?_eq_some_iff.1 hH).1, hH]; rfl
          · rw [List.getElem?_set_ne hq]
        rw [hset]
        exact ⟨_, w, g, hrun', GLe.refl g, hr, hx⟩
    · -- the token's own room
      rcases hbase with ⟨_, h0, _, hc0, _⟩ | ⟨b, o, rfl, hK, htk⟩
      · omega
      · cases tok with
        | ro => simp at h
        | full => have hsp : cap - n = 0 := htk; omega
        | «at» t' e' =>
          obtain ⟨ti, g1, g2, g3⟩ := htk
          simp only at h
          split at h <;> try (simp at h; done)
          rename_i sz e2 hH
          split at h <;> try (simp at h; done)
          rename_i hc
          injection h with h; injection h with h1 h2; subst h1; subst h2
          obtain ⟨rfl, rfl⟩ := hc
          have hs0 : ti.spare ≠ 0 := by omega
          rcases g3 with g3 | ⟨g3, g4⟩
          · omega
          obtain ⟨ti0, o1, o2, o3⟩ := hr.objs _ _ hH
          rw [g1] at o1; injection o1 with o1; subst o1
          rcases o3 with o3 | ⟨cs, T, fz, p1, p2, p3, p4, p5⟩
          · exact absurd o3 hs0
          have hmul : m * j.size ≤ ti.spare * j.size := mul_le_of (by omega)
          have hnewone : ∀ x ∈ news, x.oneCell' = true := by
            intro q hq
            obtain ⟨k, hk, rfl⟩ := List.getElem_of_mem hq
            have hkl : k < ys.length := by omega
            have hrel := hnr k
            rw [List.getD_eq_getElem?_getD, List.getElem?_eq_getElem hkl, List.getD_eq_getElem?_getD, List.getElem?_eq_getElem hk] at hrel
            exact one_rel hrel (List.all_eq_true.1 hone _ (List.getElem_mem hkl))
          obtain ⟨w', s1, s2, s3, s4, s5, s6, s7⟩ := run_storeCells E.P (b := ti.b) (T := T) (fz := fz) (o := ti.pos) news 0 w cs p2 (by omega) hnewone (fun k a1 a2 => p4 k (by omega) (by omega))
          rw [Nat.add_zero] at s2
          obtain ⟨g', f1, f2, f3, f4⟩ := Rep.fill hr hH g1 hs0 p2 (vs := news) rfl (by omega) s2 s3 s4 s5 s6 s7 (k := m) (by omega) (by omega) (by omega)
          refine ⟨.slice (some ⟨b, o, none⟩) (n + m) cap, w', g', ?_, f1, f2, ?_⟩
          · rw [hrun]
            simp only [add_none]
            rw [← g3, show o + n * inf.size = ti.pos by rw [g4, hxl, hisz]]
            rw [s1]; rfl
          · refine .sl _ _ _ b o cap (fun i => (olds ++ news).getD i undef) hroom (fun i hi => ?_) (fun i => (hcat i).mono f1) ⟨_, f3, ?_, .inr ⟨g3, ?_⟩⟩
            · simp only [List.getD_eq_getElem?_getD]
              by_cases hil : i < xs.length
              · rw [List.getElem?_append_left (by omega)]
                have := f1.K _ _ _ (hK i hil)
                rw [this, List.getD_eq_getElem?_getD]
              · rw [List.getElem?_append_right (by omega)]
                have hil2 : i - olds.length < news.length := by simp at hi; omega
                have := f4 (i - olds.length) _ (List.getElem?_eq_getElem hil2)
                rw [g3] at this
                rw [show o + i = ti.pos + (i - olds.length) by rw [g4]; omega, this, List.getElem?_eq_getElem hil2]; rfl
            · show ti.spare - m = cap - (n + m)
              omega
            · show ti.pos + news.length = o + (xs ++ ys).length
              rw [g4]; simp; omega
  · -- a new block
    have hlt : cap < n + m := by omega
    have hrun := runB hlt
    have hgc := grownCap_ge w (n + m) cap e
    have hg : Grew w (.cells (olds.toArray ++ news.toArray ++ Builtin.zeroCells z.cells (grownCap w (n + m) cap e - (n + m))) e) _ := Grew.drew_alloc w _
    have hcsz : (olds.toArray ++ news.toArray ++ Builtin.zeroCells z.cells (grownCap w (n + m) cap e - (n + m))).size = (n + m) * j.size + (grownCap w (n + m) cap e - (n + m)) * j.size := by
      simp [size_zeroCells, hzs, hol, hnl, hxl, hyl, hnm]
    have hget : ∀ k, k < (n + m) * j.size → (olds.toArray ++ news.toArray ++ Builtin.zeroCells z.cells (grownCap w (n + m) cap e - (n + m)))[k]? = (olds ++ news)[k]? := by
      intro k hk
      rw [Array.getElem?_append_left (by simp; omega)]
      simp
    have r1 := hr.alloc_known hg ((n + m) * j.size)
    have le1 := g.learn_le w.heap.size (fun o => if o < (n + m) * j.size then (olds.toArray ++ news.toArray ++ Builtin.zeroCells z.cells (grownCap w (n + m) cap e - (n + m)))[o]? else none)
    have hKn : ∀ i, i < (xs ++ ys).length → (g.learn w.heap.size (fun o => if o < (n + m) * j.size then (olds.toArray ++ news.toArray ++ Builtin.zeroCells z.cells (grownCap w (n + m) cap e - (n + m)))[o]? else none)).K w.heap.size (0 + i) = some ((olds ++ news).getD i undef) := by
      intro i hi
      simp at hi
      rw [Nat.zero_add]
      refine learn_new hr _ _ i (by omega) ?_
      rw [hget i (by omega), List.getD_eq_getElem?_getD, List.getElem?_eq_getElem (by simp; omega)]; rfl
    have hti : (⟨w.heap.size, (n + m) * j.size, grownCap w (n + m) cap e - (n + m)⟩ : TI).spare = 0 ∨ ∃ cs T fz, E.n0 ≤ w.heap.size ∧ (w.drew.alloc (.cells (olds.toArray ++ news.toArray ++ Builtin.zeroCells z.cells (grownCap w (n + m) cap e - (n + m))) e)).heap[w.heap.size]? = some (.cells cs T fz) ∧
        (n + m) * j.size + (grownCap w (n + m) cap e - (n + m)) * j.size ≤ cs.size ∧ (∀ k, (n + m) * j.size ≤ k → k < (n + m) * j.size + (grownCap w (n + m) cap e - (n + m)) * j.size → ¬ (fz.1 ≤ k ∧ k < fz.2)) ∧
        ∀ o, (n + m) * j.size ≤ o → (g.learn w.heap.size (fun o => if o < (n + m) * j.size then (olds.toArray ++ news.toArray ++ Builtin.zeroCells z.cells (grownCap w (n + m) cap e - (n + m)))[o]? else none)).K w.heap.size o = none := by
      refine .inr ⟨_, _, _, Nat.le_trans hr.n0le hr.below.size, hg.new, by rw [hcsz]; exact Nat.le_refl _, fun k _ _ h => by simp at h, fun o ho => ?_⟩
      show (if w.heap.size = w.heap.size then (match g.K w.heap.size o with | some v => some v | none => _) else _) = none
      rw [if_pos rfl]
      cases hk : g.K w.heap.size o with
      | some u => exact absurd (hr.K_lt hk) (by omega)
      | none => simp only; rw [if_neg (by omega)]
    have hfree : ∀ i, own g H i ≠ some w.heap.size := fun i hi => absurd (hr.own_lt hi).1 (by omega)
    have fin : ∀ {g' : Ghost} {t' e' : Nat}, GLe (g.learn w.heap.size (fun o => if o < (n + m) * j.size then (olds.toArray ++ news.toArray ++ Builtin.zeroCells z.cells (grownCap w (n + m) cap e - (n + m)))[o]? else none)) g' →
        g'.tok t' e' = some ⟨w.heap.size, (n + m) * j.size, grownCap w (n + m) cap e - (n + m)⟩ → VRel g' (.sl (n + m) (xs ++ ys) (.at t' e')) (.slice (some ⟨w.heap.size, 0, none⟩) (n + m) (grownCap w (n + m) cap e)) := by
      intro g' t' e' le htok
      refine .sl _ _ _ w.heap.size 0 _ (fun i => (olds ++ news).getD i undef) hgc (fun i hi => le.K _ _ _ (hKn i hi)) (fun i => (hcat i).mono (le1.trans le)) ⟨_, htok, rfl, .inr ⟨rfl, ?_⟩⟩
      simp [hxl, hyl, hnm]
    cases tok with
    | ro => simp at h
    | full =>
      injection h with h; injection h with h1 h2; subst h1; subst h2
      obtain ⟨q1, q2⟩ := Rep.new_tok r1 j.size (n + m) ⟨w.heap.size, (n + m) * j.size, grownCap w (n + m) cap e - (n + m)⟩ hti (fun _ => hfree)
      exact ⟨_, _, _, hrun, le1.trans q2, q1, fin q2 (setTok_same _ _ _ _)⟩
    | «at» t' e' =>
      simp only at h
      split at h <;> try (simp at h; done)
      rename_i sz e2 hH
      split at h <;> try (simp at h; done)
      rename_i hc
      injection h with h; injection h with h1 h2; subst h1; subst h2
      obtain ⟨rfl, rfl⟩ := hc
      obtain ⟨q1, q2⟩ := Rep.next_tok r1 hH (e2 := e2 + m) (by omega) ⟨w.heap.size, (n + m) * j.size, grownCap w (n + m) cap e - (n + m)⟩ hti (fun _ i _ => hfree i)
      exact ⟨_, _, _, hrun, le1.trans q2, q1, fin q2 (setTok_same _ _ _ _)⟩

end Go.Ab
