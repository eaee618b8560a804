/- The abstract view, 33: a row that may grow is known from now on; the room behind it stays one's own. -/
import Derived.Test.YtadghefkbjacjaaGreatDoorFrE
import Derived.Shelf.Strings.OnBuilder
import Derived.Test.YtadghefkbjacjaaGreatDoorProg
section
set_option linter.unusedVariables false
set_option linter.unusedSimpArgs false
namespace Go.Ab
open Go Go.RowKit
variable {E : Env} {N : Nat} {ts : List AV} {ds : List ADef} {H : List AO} {g : Ghost} {w : World}
/-- A row that may grow is known from now on; the room behind it stays one's own. -/
theorem Rep.vec_tail {n0 : Nat} {w0 : World} {gl : Nat → List AV} (hr : Rep n0 w0 gl g H w) {id sz n : Nat} {xs : List AV} (hH : H[id]? = some (.vec sz n xs)) : ∃ g', GLe g g' ∧ Rep n0 w0 gl g' (H.set id .dead ++ [.tail sz n]) w ∧ ∀ c, VRel g (.vsl id n) c → VRel g' (.sl n xs (.at H.length n)) c := by
  obtain ⟨ti, o1, o2, o3, o4, o5, o6⟩ := hr.objs _ _ hH
  have hid : id < H.length := (List.getElem?_eq_some_iff.1 hH).1
  have hlen : (H.set id .dead).length = H.length := by simp
  have base : ∀ {g' : Ghost}, GLe g g' → (∀ i, i ≠ id → own g' (H.set id .dead) i = own g H i) → (∀ b o v, g'.K b o = some v → w.cell? ⟨b, o, none⟩ = some v) → g'.phi = g.phi → g'.tok = g.tok → (∀ i b, i ≠ id → own g H i = some b → ∀ o, g.K b o = none → g'.K b o = none) → Rep n0 w0 gl g' (H.set id .dead) w := by
    intro g' le hown hk hp ht hK
    have hdead : own g' (H.set id .dead) id = none := by unfold own; rw [List.getElem?_set_self hid]
    refine ⟨hr.below, hr.n0le, hk, by rw [hp]; simp [hr.len], fun t e h => by rw [ht]; exact hr.beyond t e (by simpa using h), fun i o h => ?_, fun i j x hi hj => ?_, fun i => (hr.glob i).mono le⟩
    · by_cases e : id = i
      · subst e
        rw [List.getElem?_set_self hid] at h
        injection h with h; subst h; trivial
      · rw [List.getElem?_set_ne e] at h
        exact ORep.frame h (hr.objs i o h) le (fun _ _ => rfl) (fun b hb o ho => hK i b (fun h => e h.symm) hb o ho) (fun e h => by rw [ht]; exact h)
    · have hi' : i ≠ id := by rintro rfl; rw [hdead] at hi; simp at hi
      have hj' : j ≠ id := by rintro rfl; rw [hdead] at hj; simp at hj
      rw [hown i hi'] at hi
      rw [hown j hj'] at hj
      exact hr.apart i j x hi hj
  have hownset : ∀ {g' : Ghost}, g'.phi = g.phi → g'.tok = g.tok → ∀ i, i ≠ id → own g' (H.set id .dead) i = own g H i := by
    intro g' h1 h2 i hi
    unfold own
    rw [List.getElem?_set_ne (fun h => hi h.symm), h1, h2]
  have triv : ti.spare = 0 → ∃ g', GLe g g' ∧ Rep n0 w0 gl g' (H.set id .dead ++ [.tail sz n]) w ∧ ∀ c, VRel g (.vsl id n) c → VRel g' (.sl n xs (.at H.length n)) c := by
    intro hs
    have hn : n = 0 := by omega
    subst hn
    have : xs = [] := by simp at o4; exact o4
    subst this
    have r0 := base (GLe.refl g) (hownset rfl rfl) hr.know rfl rfl (fun _ _ _ _ _ h => h)
    obtain ⟨r1, r2⟩ := Rep.new_tok r0 sz 0 ⟨0, 0, 0⟩ (.inl rfl) (fun h => absurd rfl h)
    rw [hlen] at r1 r2
    have htk : ((g.push 0).setTok H.length 0 ⟨0, 0, 0⟩).tok H.length 0 = some ⟨0, 0, 0⟩ := setTok_same _ _ _ _
    refine ⟨_, r2, r1, fun c hc => ?_⟩
    cases hc with
    | vslN _ ti2 ht hs => exact .nsl _ ⟨_, htk, rfl⟩
    | vslZ _ ti2 b o ht hs => exact .sl 0 [] _ b o 0 (fun _ => undef) (Nat.le_refl _) (fun i hi => by simp at hi) (fun i => .top _) ⟨_, htk, rfl, .inl rfl⟩
    | vsl _ _ ti2 ht h0 hn hs => rw [o1] at ht; injection ht with ht; subst ht; omega
  rcases o6 with o6 | ⟨cs, T, fz, p1, p2, p3, p4, p5, p6⟩
  · exact triv o6
  · by_cases hs : ti.spare = 0
    · exact triv hs
    have hown : own g H id = some ti.b := by unfold own; rw [hH]; simp [o1, hs]
    have le := g.learn_le ti.b (fun o => if o < xs.length then cs[o]? else none)
    have hxl : xs.length ≤ cs.size := by rw [p3, o4]; exact Nat.mul_le_mul_right _ o5
    have r0 := base le (hownset rfl rfl) (fun x o v h => by
      have h' : (if x = ti.b then (match g.K x o with | some v => some v | none => if o < xs.length then cs[o]? else none) else g.K x o) = some v := h
      split at h'
      · rename_i e
        subst e
        rw [p6 o] at h'
        simp only at h'
        split at h'
        · rw [cell_of_heap p2]; exact h'
        · simp at h'
      · exact hr.know _ _ _ h') rfl rfl (fun i b hi hb o ho => by
      show (if b = ti.b then _ else _) = none
      rw [if_neg (by rintro rfl; exact hi (hr.apart _ _ _ hb hown))]; exact ho)
    have hmul : n * sz + (ti.spare - n) * sz = ti.spare * sz := by rw [← Nat.add_mul]; congr 1; omega
    obtain ⟨r1, r2⟩ := Rep.new_tok r0 sz n ⟨ti.b, n * sz, ti.spare - n⟩ (.inr ⟨cs, T, fz, p1, p2, by simp only; omega, fun k _ hk => p5 k (by simp only at hk; omega), fun o ho => by
      show (if ti.b = ti.b then (match g.K ti.b o with | some v => some v | none => if o < xs.length then cs[o]? else none) else _) = none
      rw [if_pos rfl, p6 o]
      simp only at ho ⊢
      rw [if_neg (by omega)]⟩) (fun _ i hi => by
      by_cases e : i = id
      · subst e
        unfold own at hi
        rw [List.getElem?_set_self hid] at hi; simp at hi
      · rw [hownset (g' := g.learn ti.b (fun o => if o < xs.length then cs[o]? else none)) rfl rfl i e] at hi
        exact e (hr.apart _ _ _ hi hown))
    rw [hlen] at r1 r2
    refine ⟨_, le.trans r2, r1, fun c hc => ?_⟩
    have htk := setTok_same ((g.learn ti.b (fun o => if o < xs.length then cs[o]? else none)).push 0) H.length n ⟨ti.b, n * sz, ti.spare - n⟩
    cases hc with
    | vslN _ ti2 ht hs2 => rw [o1] at ht; injection ht with ht; subst ht; exact absurd hs2 hs
    | vslZ _ ti2 b o ht hs2 => rw [o1] at ht; injection ht with ht; subst ht; exact absurd hs2 hs
    | vsl _ _ ti2 ht h0 hn hs2 =>
      rw [o1] at ht; injection ht with ht; subst ht
      refine .sl n xs _ ti.b 0 _ (fun i => cs.getD i undef) hn (fun i hi => ?_) (fun i => (p4 i).mono (le.trans r2)) ⟨_, htk, rfl, .inr ⟨rfl, by simp only; rw [Nat.zero_add, o4]⟩⟩
      rw [Nat.zero_add]
      refine r2.1 _ _ _ ?_
      show (if ti.b = ti.b then (match g.K ti.b i with | some v => some v | none => if i < xs.length then cs[i]? else none) else _) = _
      rw [if_pos rfl, p6 i]
      simp only
      rw [if_pos hi, Array.getElem?_eq_getElem (by omega)]
      simp [Array.getD_eq_getD_getElem?, show i < cs.size by omega]
theorem Shift.vecTail (t : Nat) {id sz n : Nat} {xs : List AV} (h : ts.getD t .top = .vsl id n) (hH : H[id]? = some (.vec sz n xs)) : Shift E N ts ds H (ts.set t (.sl n xs (.at H.length n))) (H.set id .dead ++ [.tail sz n]) := fun g0 g w a' hd hl hr ha => by
  obtain ⟨g', r1, r2, r3⟩ := Rep.vec_tail hr hH
  refine ⟨g', hl.trans r1, r2, ?_, ha.2.mono r1⟩
  have h1 := (ha.1.2 t)
  rw [h] at h1
  have h2 := (ha.1.mono r1).set t (c := a'.tmps.getD t undef) (r3 _ h1)
  have e : a'.tmps.setIfInBounds t (a'.tmps.getD t undef) = a'.tmps := by
    apply Array.ext_getElem?
    intro i
    rw [Array.getElem?_setIfInBounds]
    split
    · rename_i e; subst e
      split
      · rename_i hlt; rw [Array.getElem?_eq_getElem hlt]; simp [Array.getD, hlt]
      · rename_i hlt; rw [Array.getElem?_eq_none (by omega)]
    · rfl
  rwa [e] at h2

/-- The same of a row in a cell. -/
theorem Shift.cellTail (i k id : Nat) {sz n : Nat} {xs ys : List AV} (hH : H[i]? = some (.cells xs)) (hx : xs.getD k .top = .vsl id n) (hk : k < xs.length) (hV : H[id]? = some (.vec sz n ys)) {H2 : List AO} (h2 : (H.set id .dead).set i (.cells (xs.set k (.sl n ys (.at H.length n)))) ++ [.tail sz n] = H2) : Shift E N ts ds H ts H2 := fun g0 g w a' hd hl hr ha => by
  subst h2
  obtain ⟨g', r1, r2, r3⟩ := Rep.vec_tail hr hV
  have hne : id ≠ i := by rintro rfl; rw [hV] at hH; simp at hH
  have hi : i < H.length := (List.getElem?_eq_some_iff.1 hH).1
  refine ⟨g', hl.trans r1, ?_, ha.1.mono r1, ha.2.mono r1⟩
  have := Rep.recells (ys := xs.set k (.sl n ys (.at H.length n))) r2 (i := i) (xs := xs) (by rw [List.getElem?_append_left (by simpa using hi), List.getElem?_set_ne hne, hH]) (by simp) (fun b cs T fz h1 h2 h3 j => ?_)
  · rwa [List.set_append_left _ _ (by simpa using hi)] at this
  · by_cases e : k = j
    · subst e
      have hset : (xs.set k (.sl n ys (.at H.length n))).getD k .top = .sl n ys (.at H.length n) := by simp [List.getD_eq_getElem?_getD, hk]
      rw [hset]
      refine r3 _ ?_
      obtain ⟨b', cs', T', fz', q1, q2, q3, q4, q5, q6, q7⟩ := hr.objs _ _ hH
      have hb := r1.phi _ _ q1
      rw [h1] at hb; injection hb with hb; subst hb
      rw [h2] at q3; injection q3 with q3; injection q3 with q3; subst q3
      have := q5 k
      rwa [hx] at this
    · have hset : (xs.set k (.sl n ys (.at H.length n))).getD j .top = xs.getD j .top := by simp only [List.getD_eq_getElem?_getD, List.getElem?_set_ne e]
      rw [hset]; exact h3 j
end Go.Ab

end

section
namespace Go.Proofs
open Go.Shelf
def Tryz.lays156_ren : Go.Shelf.Ren := ⟨fun | 156 => 170 | 165 => 246 | 166 => 247 | 169 => 191 | 240 => 303 | 241 => 304 | 276 => 350 | 277 => 351 | n => n, fun | 31 => 25 | 9 => 9 | 3 => 3 | 4 => 4 | 0 => 0 | 20 => 20 | 72 => 232 | 76 => 134 | 70 => 230 | 37 => 33 | 75 => 133 | 127 => 289 | 164 => 352 | 5 => 5 | 80 => 148 | n => n, fun | n => n⟩
theorem Tryz.lays156 : Go.Proofs.Lays.n156 Tryz.prog Tryz.lays156_ren := {
  mixed := by kernel_rfl
  f156 := Tryz.func170.trans (congrArg some (by kernel_rfl))
  f165 := Tryz.func246.trans (congrArg some (by kernel_rfl))
  f166 := Tryz.func247.trans (congrArg some (by kernel_rfl))
  f169 := Tryz.func191.trans (congrArg some (by kernel_rfl))
  f240 := Tryz.func303.trans (congrArg some (by kernel_rfl))
  f241 := Tryz.func304.trans (congrArg some (by kernel_rfl))
  f276 := Tryz.func350.trans (congrArg some (by kernel_rfl))
  f277 := Tryz.func351.trans (congrArg some (by kernel_rfl))
  t0 := Tryz.underlying0
  a0 := Tryz.isAgg0
  z0 := Tryz.sizeOf0
  v0 := Tryz.zeroValue0
  t3 := Tryz.underlying3
  a3 := Tryz.isAgg3
  z3 := Tryz.sizeOf3
  v3 := Tryz.zeroValue3
  t4 := Tryz.underlying4
  a4 := Tryz.isAgg4
  z4 := Tryz.sizeOf4
  v4 := Tryz.zeroValue4
  t9 := Tryz.underlying9
  a9 := Tryz.isAgg9
  z9 := Tryz.sizeOf9
  v9 := Tryz.zeroValue9
  t20 := Tryz.underlying20
  a20 := Tryz.isAgg20
  z20 := Tryz.sizeOf20
  v20 := Tryz.zeroValue20
  t31 := Tryz.underlying25
  a31 := Tryz.isAgg25
  z31 := Tryz.sizeOf25
  v31 := Tryz.zeroValue25
  t37 := Tryz.underlying33
  a37 := Tryz.isAgg33
  z37 := Tryz.sizeOf33
  v37 := Tryz.zeroValue33
  t70 := Tryz.underlying230
  a70 := Tryz.isAgg230
  z70 := Tryz.sizeOf230
  v70 := Tryz.zeroValue230
  t72 := Tryz.underlying232
  a72 := Tryz.isAgg232
  z72 := Tryz.sizeOf232
  v72 := Tryz.zeroValue232
  t75 := Tryz.underlying133
  a75 := Tryz.isAgg133
  z75 := Tryz.sizeOf133
  v75 := Tryz.zeroValue133
  t76 := Tryz.underlying134
  a76 := Tryz.isAgg134
  z76 := Tryz.sizeOf134
  v76 := Tryz.zeroValue134
  t127 := Tryz.underlying289
  a127 := Tryz.isAgg289
  z127 := Tryz.sizeOf289
  v127 := Tryz.zeroValue289
  t164 := Tryz.underlying352
  a164 := Tryz.isAgg352
  z164 := Tryz.sizeOf352
  v164 := Tryz.zeroValue352 }
theorem Tryz.Builder_Extra_156 : Builder.Extra Tryz.prog Tryz.lays156_ren := {
  sizeBuilder := by kernel_rfl
  liesBuilder := by kernel_rfl
  t5 := Tryz.underlying5
  a5 := Tryz.isAgg5
  z5 := Tryz.sizeOf5
  v5 := Tryz.zeroValue5
  infoByte := by kernel_rfl
  cellsByte := by kernel_rfl
  sizeByte := by kernel_rfl
  neB5 := by decide }
open Go.RowKit in
theorem Tryz.strings_Join (bk o c : Nat) (xs : List ByteArray) (sep : ByteArray) (w : World) (hcells : ∀ (j : Nat) x, xs[j]? = some x → w.cell? ⟨bk, o + j, none⟩ = some (.string x)) (hbk : bk < w.heap.size) (hN : xs.length ≤ 140737488355328) (hcap : xs.length ≤ c) (hlen : (Lib.join (xs.map (·.data.toList)) sep.data.toList).length ≤ 140737488355328) :
    Calls Tryz.prog 170 #[.slice (some ⟨bk, o, none⟩) xs.length c, .string sep] w fun e w' => e = .returned (.string ⟨(Lib.join (xs.map (·.data.toList)) sep.data.toList).toArray⟩) ∧ Below w.heap.size w w' := Any.strings_Join Tryz.lays156 Tryz.Builder_Extra_156 bk o c xs sep w hcells hbk hN hcap hlen
end Go.Proofs

end
