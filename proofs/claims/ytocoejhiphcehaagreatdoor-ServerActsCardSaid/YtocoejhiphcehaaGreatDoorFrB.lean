/- The abstract view, part FrB. -/
import Derived.Test.YtocoejhiphcehaaGreatDoorFrA
import Derived.Lib.ConvBytes
import Derived.Laws.MakeOwn
import Derived.Laws.IdiomCopy
/- The abstract view, 7: the computing operations as the machine carries them out. -/
set_option linter.unusedVariables false
set_option linter.unusedSimpArgs false
namespace Go.Ab
open Go Go.RowKit

variable {E : Env} {g : Ghost} {H : List AO} {w : World} {a : AAct} {a' : Act}

def NGives (P : Program) (g : Ghost) (s : Sem Next) (w : World) (v : AV) : Prop := ∃ c, s.run P w = .ok (.value c) w ∧ VRel g v c

theorem Gives.next {P : Program} {g : Ghost} {s : Sem Value} {w : World} {v : AV} (h : Gives P g s w v) : NGives P g (do pure (.value (← s))) w v := by
  obtain ⟨c, h1, h2⟩ := h
  exact ⟨c, by rw [Sem.run_bind, h1]; rfl, h2⟩

theorem rels_map (hr : E.Rep g H w) (ha : ARel g a a') (xs : Array Operand) : VRels g (xs.toList.map (a.ev E.gl)) (xs.map a'.eval) := by
  refine ⟨by simp, fun i => ?_⟩
  simp only [List.getD_eq_getElem?_getD, Array.getD_eq_getD_getElem?, List.getElem?_map, Array.getElem?_map, Array.getElem?_toList]
  cases h : xs[i]? with
  | none => exact .top _
  | some x => exact ev_rel hr ha x

theorem len_sound {t : TypeId} {i : TyI} (ht : E.ty t = some i) {x : AV} {c : Value} (hx : VRel g x c) {v : AV} (h : evLen i.u x = some v) (ty : TypeId) : Gives E.P g (Builtin.len_ #[t] ty #[c]) w v := by
  obtain ⟨d, hd, hu⟩ := und_of ht
  unfold Gives Builtin.len_
  have e1 : (#[t] : Array TypeId)[0]? = some t := rfl
  have e2 : (#[c] : Array Value)[0]? = some c := rfl
  rw [e1, e2]
  simp only [Sem.run_bind, run_und hd, Result.andThen_ok]
  unfold evLen at h
  split at h <;> rename_i e1 <;> first | (simp at h; done) | skip
  · rw [e1] at hu; simp only [URel] at hu; subst hu
    injection h with h; subst h; rw [hx.str_inv]
    exact ⟨_, rfl, by rw [goInt]; simp [ByteArray.size]; exact .int _ _⟩
  · rw [e1] at hu; simp only [URel] at hu; subst hu
    injection h with h; subst h
    cases hx with
    | nsl => exact ⟨_, rfl, .int _ _⟩
    | sl => exact ⟨_, rfl, .int _ _⟩
  · rw [e1] at hu; simp only [URel] at hu; subst hu
    injection h with h; subst h
    cases hx with
    | msl => exact ⟨_, rfl, .int _ _⟩
  · rw [e1] at hu; simp only [URel] at hu; subst hu
    injection h with h; subst h
    cases hx with
    | vsl => exact ⟨_, rfl, .int _ _⟩
    | vslN => exact ⟨_, rfl, .int _ _⟩
    | vslZ => exact ⟨_, rfl, .int _ _⟩
  · rw [e1] at hu; simp only [URel] at hu; subst hu
    injection h with h; subst h
    cases hx with
    | nilmap => exact ⟨_, rfl, .int _ _⟩

theorem zero_rel {t : TypeId} {i : TyI} (ht : E.ty t = some i) (w : World) : ∃ z, (zeroValue t).run E.P w = .ok z w ∧ (∀ g, VRel g (mkVal i i.zero) z) ∧ z.cells.size = i.size ∧ i.zero.length = i.size ∧ (∀ g k, VRel g (i.zero.getD k .top) (z.cells.getD k undef)) := by
  obtain ⟨z, inf, h1, h2, h3, h4, h5, h6, h7, h8, h9⟩ := (E.ok t i ht).info
  refine ⟨z, by simp [zeroValue, typeInfo, h1, h2], fun g => ?_, h5, h6, h9⟩
  unfold mkVal
  cases hi : i.isAgg with
  | true =>
    obtain ⟨cs, rfl⟩ := h7 hi
    simp only [if_true]
    exact .agg _ _ (by rw [h6]; exact h5) (fun k => h9 g k)
  | false =>
    simp only [if_false, Bool.false_eq_true]
    obtain ⟨e1, e2⟩ := h8 hi
    have := h9 g 0
    rw [e1] at this
    rw [List.headD_eq_head?_getD, List.head?_eq_getElem?]
    simpa [List.getD_eq_getElem?_getD] using this

theorem assert_sound {x : AV} {c : Value} (hx : VRel g x c) {t xt : TypeId} {i : TyI} (ht : E.ty t = some i) (hi : ∀ b, i.u ≠ .iface b) {u : TypeId} {v0 : AV} (hxe : x = .iface u v0) (ok : Bool) {v : AV}
    (h : (if u = t then some (if ok then .tup [v0, .bool true] else v0) else if ok then some (.tup [mkVal i i.zero, .bool false]) else none) = some v) : Gives E.P g (Instr.typeAssert c xt t ok) w v := by
  obtain ⟨d, hd, hu⟩ := und_of ht
  subst hxe
  cases hx with
  | iface _ _ cv hv =>
    unfold Gives Instr.typeAssert
    simp only [Sem.run_bind, run_und hd, Result.andThen_ok]
    have hni : ∀ ms, d ≠ .interface ms := by
      rintro ms rfl
      revert hi hu
      cases i.u <;> simp [URel]
    have two : ∀ {p q : AV} {x y : Value}, VRel g p x → VRel g q y → VRel g (.tup [p, q]) (.tuple #[x, y]) := fun hp hq =>
      .tup _ _ rfl (fun k => match k with | 0 => hp | 1 => hq | _ + 2 => .top _)
    split at h
    · rename_i e; subst e
      injection h with h; subst h
      cases ok with
      | true =>
        refine ⟨.tuple #[cv, .bool true], ?_, two hv (.bool _)⟩
        cases d <;> first | (simp; done) | exact absurd rfl (hni _)
      | false =>
        refine ⟨cv, ?_, hv⟩
        cases d <;> first | (simp; done) | exact absurd rfl (hni _)
    · rename_i e
      split at h
      · rename_i hok; subst hok
        injection h with h; subst h
        obtain ⟨z, hz, hzr, _⟩ := zero_rel ht w
        refine ⟨.tuple #[z, .bool false], ?_, two (hzr g) (.bool _)⟩
        cases d <;> first | (simp [e, hz]; done) | exact absurd rfl (hni _)
      · simp at h

theorem index_str_sound {t : TypeId} {i : TyI} (ht : E.ty t = some i) (hi : i.u = .str) (s : List UInt8) (q : IntKind) (n : Int) (h0 : 0 ≤ n) (h1 : n < s.length) : Gives E.P g (Instr.index t (.string ⟨s.toArray⟩) (.int q n)) w (byteAV (s.getD n.toNat 0)) := by
  obtain ⟨d, hd, hu⟩ := und_of ht
  rw [hi] at hu; simp only [URel] at hu; subst hu
  unfold Gives Instr.index
  simp only [asIntOf, Sem.run_bind, Sem.run_pure, Result.andThen_ok, run_und hd]
  have hlt : n.toNat < s.length := by omega
  have hb : (⟨s.toArray⟩ : ByteArray)[n.toNat]? = some s[n.toNat] := by
    rw [getElem?_pos (⟨s.toArray⟩ : ByteArray) n.toNat (by simp [ByteArray.size]; exact hlt)]
    rfl
  rw [if_pos h0, hb]
  refine ⟨_, rfl, ?_⟩
  rw [List.getD_eq_getElem?_getD, List.getElem?_eq_getElem hlt]
  exact .int _ _

theorem index_arr_sound {t : TypeId} {i : TyI} (ht : E.ty t = some i) {m : Nat} {e : TypeId} (hi : i.u = .arr m e) {j : TyI} (he : E.ty e = some j) {xs : List AV} {c : Value} (hx : VRel g (.agg xs) c) (q : IntKind) (n : Int)
    (h0 : 0 ≤ n) (h1 : n < m) (h2 : n.toNat * j.size + j.size ≤ xs.length) : Gives E.P g (Instr.index t c (.int q n)) w (mkVal j ((xs.drop (n.toNat * j.size)).take j.size)) := by
  obtain ⟨d, hd, hu⟩ := und_of ht
  rw [hi] at hu; simp only [URel] at hu; subst hu
  cases hx with
  | agg _ cs hl hv =>
    unfold Gives Instr.index
    simp only [asIntOf, Sem.run_bind, Sem.run_pure, Result.andThen_ok, run_und hd]
    rw [if_pos ⟨h0, h1⟩, Sem.run_bind, sizeOf_run he, Result.andThen_ok]
    exact part_agg he hl hv _ h2 w

theorem evPure_sound (hr : E.Rep g H w) (ha : ARel g a a') {o : Oper} {v : AV} (h : evPure E a H o = some v) : NGives E.P g (execOp a'.eval o) w v := by
  obtain ⟨dst, op, ty, pos, after, guard⟩ := o
  have ev := fun x => ev_rel hr ha x
  cases op <;> simp only [evPure] at h <;> simp only [execOp] <;> try (simp at h; done)
  case move x => injection h with h; subst h; exact ⟨_, rfl, ev x⟩
  case assign x => injection h with h; subst h; exact ⟨_, rfl, ev x⟩
  case pick c x y =>
    split at h
    · rename_i b hb
      injection h with h; subst h
      have hc := ev c
      rw [hb] at hc
      rw [hc.bool_inv]
      refine ⟨if b then a'.eval x else a'.eval y, rfl, ?_⟩
      cases b
      · exact ev y
      · exact ev x
    · simp at h
  case load t ad =>
    split at h
    · rename_i i ht
      cases hrd : readCells H i.size (a.ev E.gl ad) with
      | none => rw [hrd] at h; simp at h
      | some xs =>
        rw [hrd] at h; simp only [Option.map_some] at h; injection h with h; subst h
        exact Gives.next (load_sound hr ht hrd (ev ad))
    · simp at h
  case nilCheck x =>
    have hx := ev x
    split at h <;> first | (simp at h; done) | skip
    all_goals
      rename_i hxe
      injection h with h; subst h
      rw [hxe] at hx
    · generalize a'.eval x = u at hx ⊢
      cases hx with
      | ref _ _ b hp => exact ⟨_, rfl, .ref _ _ _ hp⟩
    · generalize a'.eval x = u at hx ⊢
      cases hx with
      | eref _ _ _ ti ht => exact ⟨_, rfl, .eref _ _ _ ti ht⟩
    · generalize a'.eval x = u at hx ⊢
      cases hx with
      | row _ b o vs hk hv => exact ⟨_, rfl, .row _ _ _ vs hk hv⟩
    · generalize a'.eval x = u at hx ⊢
      cases hx with
      | fn _ _ _ fs cs hl hf hm hc => exact ⟨_, rfl, .fn _ _ _ fs cs hl hf hm hc⟩
  case binOp op t x y yt => exact Gives.next (bin_sound (ev x) (ev y) h)
  case unOp op t x => exact Gives.next (un_sound (ev x) h)
  case convert s d x => exact Gives.next (conv_sound hr (ev x) h)
  case makeInterface t x =>
    split at h
    · rename_i i ht
      split at h
      · simp at h
      · rename_i hni
        injection h with h; subst h
        obtain ⟨d, hd, hu⟩ := und_of ht
        refine Gives.next ⟨.iface t (a'.eval x), ?_, .iface _ _ _ (ev x)⟩
        simp only [Instr.makeInterface, Sem.run_bind, run_und hd, Result.andThen_ok]
        have : ∀ ms, d ≠ .interface ms := by
          rintro ms rfl
          revert hni hu
          cases i.u <;> simp [URel]
        cases d <;> first | rfl | exact absurd rfl (this _)
    · simp at h
  case makeFunc fn first cap =>
    cases fn <;> simp only at h <;> try (simp at h; done)
    injection h with h; subst h
    have h1 := rels_map hr ha first
    have h2 := rels_map hr ha cap
    exact ⟨_, rfl, .fn _ _ _ _ _ h1.1 h1.2 h2.1 h2.2⟩
  case sliceToArrayPointer t x => exact Gives.next (arrayAt_sound (ev x) h)
  case slice t x lo hi mx =>
    cases mx with
    | some m => cases hi with
      | none => simp at h
      | some k => exact Gives.next (slice3_sound hr ha (ev x) h)
    | none => exact Gives.next (slice_sound hr ha (ev x) h)
  case fieldAddr s x f =>
    split at h
    · rename_i off i hf
      split at h
      · simp at h
      · rename_i h0
        have hx := ev x
        split at h
        · rename_i id o hxe
          injection h with h; subst h
          rw [hxe] at hx
          generalize a'.eval x = u at hx ⊢
          cases hx with
          | ref _ _ b hp => exact Gives.next ⟨_, fieldAddr_sound hf h0 b o, .ref _ _ _ hp⟩
        · rename_i id n o hxe
          injection h with h; subst h
          rw [hxe] at hx
          generalize a'.eval x = u at hx ⊢
          cases hx with
          | eref _ _ _ ti ht => exact Gives.next ⟨_, fieldAddr_sound hf h0 ti.b o, .eref _ _ _ ti ht⟩
        · rename_i xs hxe
          injection h with h; subst h
          rw [hxe] at hx
          generalize a'.eval x = u at hx ⊢
          cases hx with
          | row _ b o vs hk hv => exact Gives.next ⟨_, fieldAddr_sound hf h0 b o, row_drop (.row xs b o vs hk hv) off⟩
        · simp at h
    · simp at h
  case field s x f =>
    split at h
    · rename_i off i xs hf hxe
      split at h
      · rename_i hb
        injection h with h; subst h
        have hx := ev x
        rw [hxe] at hx
        exact Gives.next (field_sound hf hx hb)
      · simp at h
    · simp at h
  case indexAddr t x k =>
    have hk := ev k
    split at h
    · rename_i q n hke
      rw [hke] at hk
      rw [hk.int_inv]
      exact Gives.next (indexAddr_sound (ev x) h)
    · simp at h
  case index t x k =>
    have hk := ev k
    have hx := ev x
    split at h
    · rename_i y1 y2 y3 s q n ht hxe hke
      split at h
      · rename_i hb
        injection h with h; subst h
        rw [hke] at hk; rw [hxe] at hx
        rw [hk.int_inv, hx.str_inv]
        exact Gives.next (index_str_sound ht rfl s q n hb.1 hb.2)
      · simp at h
    · rename_i m e y1 y2 y3 xs q n ht hxe hke
      split at h
      · rename_i j he
        split at h
        · rename_i hb
          injection h with h; subst h
          rw [hke] at hk; rw [hxe] at hx
          rw [hk.int_inv]
          exact Gives.next (index_arr_sound ht rfl he hx q n hb.1 hb.2.1 hb.2.2)
        · simp at h
      · simp at h
    · simp at h
  case typeAssert x xt t ok =>
    have hx := ev x
    split at h
    · rename_i u v0 i hxe ht
      split at h
      · simp at h
      · rename_i hni
        exact Gives.next (assert_sound hx ht (fun b e => hni b e) hxe ok h)
    · simp at h
  case extract t k =>
    have hx := ev t
    split at h
    · rename_i xs hxe
      rw [hxe] at hx
      generalize a'.eval t = u at hx ⊢
      cases hx with
      | tup _ cs hl hv =>
        have hlt : k < xs.length := (List.getElem?_eq_some_iff.1 h).1
        have hv' := hv k
        rw [List.getD_eq_getElem?_getD, h, Array.getD_eq_getD_getElem?, Array.getElem?_eq_getElem (show k < cs.size by omega)] at hv'
        refine Gives.next ⟨cs[k]'(by omega), ?_, hv'⟩
        simp only [Instr.extract, Array.getElem?_eq_getElem (show k < cs.size by omega)]
        rfl
    · simp at h
  case call c =>
    obtain ⟨callee, args, argTypes⟩ := c
    unfold evBuiltin at h
    split at h <;> first | (simp at h; done) | skip
    rename_i b hb
    simp only at hb; subst hb
    have toA : ∀ {α : Type} {xs : Array α} {l : List α}, xs.toList = l → xs = l.toArray := fun h => by subst h; simp
    simp only at h
    split at h <;> first | (simp at h; done) | skip
    · rename_i x t hx0 ht0
      rw [toA hx0, toA ht0]
      split at h
      · rename_i i ht
        obtain ⟨cv, h1, h2⟩ := len_sound (w := w) ht (ev x) h ty
        exact ⟨cv, by simp [resolve, invoke, builtin, h1], h2⟩
      · simp at h
    · rename_i x y hx0
      rw [toA hx0]
      split at h
      · rename_i k m k' n hxe hye
        have hx := ev x; have hy := ev y
        rw [hxe] at hx; rw [hye] at hy
        split at h
        · rename_i hk; subst hk
          injection h with h; subst h
          exact ⟨.int k (if n < m then n else m), by simp [resolve, invoke, builtin, Builtin.min_, Builtin.min2, hx.int_inv, hy.int_inv], .int _ _⟩
        · simp at h
      · simp at h
    · rename_i x y hx0
      rw [toA hx0]
      split at h
      · rename_i k m k' n hxe hye
        have hx := ev x; have hy := ev y
        rw [hxe] at hx; rw [hye] at hy
        split at h
        · rename_i hk; subst hk
          injection h with h; subst h
          exact ⟨.int k (if n > m then n else m), by simp [resolve, invoke, builtin, Builtin.max_, Builtin.max2, hx.int_inv, hy.int_inv], .int _ _⟩
        · simp at h
      · simp at h

end Go.Ab

/- The abstract view, 8: memory grows: what stays. -/
set_option linter.unusedVariables false
set_option linter.unusedSimpArgs false
namespace Go.Ab
open Go Go.RowKit

variable {n0 : Nat} {w0 : World} {gl : Nat → List AV} {g g' : Ghost} {H : List AO} {w w' : World}

theorem Rep.own_lt (hr : Rep n0 w0 gl g H w) {i b : Nat} (h : own g H i = some b) : b < w.heap.size ∧ n0 ≤ b := by
  unfold own at h
  have lt : ∀ {b : Nat} {o : Obj}, w.heap[b]? = some o → b < w.heap.size := fun h => (Array.getElem?_eq_some_iff.1 h).1
  split at h
  · simp at h
  · simp at h
  · rename_i sz e hH
    obtain ⟨ti, h1, _, h2⟩ := hr.objs _ _ hH
    rw [h1] at h
    simp only at h
    split at h
    · simp at h
    · rename_i hs
      injection h with h; subst h
      rcases h2 with h2 | ⟨cs, T, fz, h3, h4, _⟩
      · exact absurd h2 hs
      · exact ⟨lt h4, h3⟩
  · rename_i sz n xs hH
    obtain ⟨ti, h1, _, _, _, _, h2⟩ := hr.objs _ _ hH
    rw [h1] at h
    simp only at h
    split at h
    · simp at h
    · rename_i hs
      injection h with h; subst h
      rcases h2 with h2 | ⟨cs, T, fz, h3, h4, _⟩
      · exact absurd h2 hs
      · exact ⟨lt h4, h3⟩
  · rename_i o ho1 ho2 ho3 hH
    have := hr.objs _ _ hH
    cases o with
    | dead => exact absurd rfl ho1
    | tail sz e => exact absurd rfl (ho2 _ _)
    | vec sz n xs => exact absurd rfl (ho3 _ _ _)
    | cells xs => obtain ⟨b', cs, T, fz, h1, h2, h3, _⟩ := this; rw [h1] at h; injection h with h; subst h; exact ⟨lt h3, h2⟩
    | iter s pos => obtain ⟨b', t, h1, h2, h3, _⟩ := this; rw [h1] at h; injection h with h; subst h; exact ⟨lt h3, h2⟩
    | loop st pe f tmps ps asg body d => obtain ⟨b', cs, db, h1, h2, _, _, h3⟩ := this; rw [h1] at h; injection h with h; subst h; exact ⟨lt h3, h2⟩
    | defr => obtain ⟨b', h1, h2, h3⟩ := this; rw [h1] at h; injection h with h; subst h; exact ⟨lt h3, h2⟩
    | map es c => obtain ⟨b', ms, h1, h2, h3, _⟩ := this; rw [h1] at h; injection h with h; subst h; exact ⟨lt h3, h2⟩

theorem Rep.K_lt (hr : Rep n0 w0 gl g H w) {b o : Nat} {v : Value} (h : g.K b o = some v) : b < w.heap.size :=
  World.block_lt_of_cell? w _ (hr.know _ _ _ h)

/-- An object stays what it is where its block is as it was, and nothing more is known of that block. -/
theorem ORep.frame {i : Nat} {o : AO} (hH : H[i]? = some o) (h : ORep g n0 w i o) (le : GLe g g') (hw : ∀ b, own g H i = some b → w'.heap[b]? = w.heap[b]?) (hK : ∀ b, own g H i = some b → ∀ o, g.K b o = none → g'.K b o = none)
    (ht : ∀ e, g.tok i e = none → g'.tok i e = none) : ORep g' n0 w' i o := by
  have hown : ∀ {b : Nat}, g.phi[i]? = some b → ((∀ sz e, o ≠ .tail sz e) ∧ ∀ sz n xs, o ≠ .vec sz n xs) → o ≠ .dead → own g H i = some b := by
    intro b hb h1 h2
    unfold own; rw [hH]
    cases o <;> first | exact hb | exact absurd rfl h2 | exact absurd rfl (h1.1 _ _) | exact absurd rfl (h1.2 _ _ _)
  cases o with
  | dead => trivial
  | cells xs =>
    obtain ⟨b, cs, T, fz, h1, h2, h3, h4, h5, h6, h7⟩ := h
    have ho := hown h1 (by simp) (by simp)
    exact ⟨b, cs, T, fz, le.phi _ _ h1, h2, (hw b ho).trans h3, h4, fun k => (h5 k).mono le, h6, fun o => hK b ho o (h7 o)⟩
  | tail sz e =>
    obtain ⟨ti, h1, h2, h3⟩ := h
    refine ⟨ti, le.tok _ _ _ h1, fun e' he => ht e' (h2 e' he), ?_⟩
    by_cases hs : ti.spare = 0
    · exact .inl hs
    · rcases h3 with h3 | ⟨cs, T, fz, h4, h5, h6, h7, h8⟩
      · exact absurd h3 hs
      · have ho : own g H i = some ti.b := by unfold own; rw [hH]; simp [h1, hs]
        exact .inr ⟨cs, T, fz, h4, (hw _ ho).trans h5, h6, h7, fun o hh => hK _ ho o (h8 o hh)⟩
  | vec sz n xs =>
    obtain ⟨ti, h1, h2', h2, h3, h4, h5⟩ := h
    refine ⟨ti, le.tok _ _ _ h1, fun e' he => ht e' (h2' e' he), h2, h3, h4, ?_⟩
    by_cases hs : ti.spare = 0
    · exact .inl hs
    · rcases h5 with h5 | ⟨cs, T, fz, h6, h7, h8, h9, h10, h11⟩
      · exact absurd h5 hs
      · have ho : own g H i = some ti.b := by unfold own; rw [hH]; simp [h1, hs]
        exact .inr ⟨cs, T, fz, h6, (hw _ ho).trans h7, h8, fun k => (h9 k).mono le, h10, fun o => hK _ ho o (h11 o)⟩
  | iter s pos =>
    obtain ⟨b, t, h1, h2, h3, h4⟩ := h
    exact ⟨b, t, le.phi _ _ h1, h2, (hw b (hown h1 (by simp) (by simp))).trans h3, h4⟩
  | loop st pe f tmps ps asg body d =>
    obtain ⟨b, cs, db, h1, h2, h3, h4, h5⟩ := h
    exact ⟨b, cs, db, le.phi _ _ h1, h2, le.phi _ _ h3, h4.mono le, (hw b (hown h1 (by simp) (by simp))).trans h5⟩
  | defr =>
    obtain ⟨b, h1, h2, h3⟩ := h
    exact ⟨b, le.phi _ _ h1, h2, (hw b (hown h1 (by simp) (by simp))).trans h3⟩
  | map es c =>
    obtain ⟨b, ms, h1, h2, h3, h4, h5⟩ := h
    exact ⟨b, ms, le.phi _ _ h1, h2, (hw b (hown h1 (by simp) (by simp))).trans h3, h4, fun k m hm => ⟨(h5 k m hm).1.mono le, (h5 k m hm).2.1.mono le, (h5 k m hm).2.2⟩⟩

/-- A draw, or whatever leaves every block as it was. -/
theorem Rep.same_heap (hr : Rep n0 w0 gl g H w) (hh : w'.heap = w.heap) (h1 : w'.os = w.os) (h2 : w'.tape = w.tape) (h3 : w'.output = w.output) : Rep n0 w0 gl g H w' := by
  refine ⟨⟨h1.trans hr.below.os, h2.trans hr.below.tape, h3.trans hr.below.output, by rw [hh]; exact hr.below.size, fun k hk => by rw [hh]; exact hr.below.block k hk⟩, hr.n0le, fun b o v h => ?_, hr.len, hr.beyond, fun i o h => ?_, hr.apart, hr.glob⟩
  · have := hr.know b o v h; simpa [World.cell?, hh] using this
  · exact ORep.frame h (hr.objs i o h) (GLe.refl g) (fun b _ => by rw [hh]) (fun _ _ _ h => h) (fun _ h => h)

theorem Rep.drew (hr : Rep n0 w0 gl g H w) : Rep n0 w0 gl g H w.drew := hr.same_heap rfl rfl rfl rfl

/-- One new block, all else as it was. -/
structure Grew (w : World) (ob : Obj) (w' : World) : Prop where
  new : w'.heap[w.heap.size]? = some ob
  old : ∀ k, k < w.heap.size → w'.heap[k]? = w.heap[k]?
  size : w'.heap.size = w.heap.size + 1
  os : w'.os = w.os
  tape : w'.tape = w.tape
  output : w'.output = w.output

theorem Grew.alloc (w : World) (ob : Obj) : Grew w ob (w.alloc ob) := ⟨World.alloc_heap_new w ob, fun k hk => Below.heap_alloc w ob k hk, by simp, rfl, rfl, rfl⟩
theorem Grew.drew_alloc (w : World) (ob : Obj) : Grew w ob (w.drew.alloc ob) := ⟨World.alloc_heap_new w.drew ob, fun k hk => Below.heap_alloc w.drew ob k hk, by simp, rfl, rfl, rfl⟩
theorem Grew.cell {w w' : World} {ob : Obj} (h : Grew w ob w') {a : Addr} (ha : a.block < w.heap.size) : w'.cell? a = w.cell? a := World.cell?_of_block (h.old _ ha)
theorem Grew.below {w w' : World} {ob : Obj} (h : Grew w ob w') {B : Nat} {a : World} (hb : Below B a w) (hB : B ≤ w.heap.size) : Below B a w' :=
  hb.trans ⟨h.os, h.tape, h.output, by rw [h.size]; omega, fun k hk => h.old k (by omega)⟩

def Ghost.push (g : Ghost) (b : Nat) : Ghost := { g with phi := g.phi ++ [b] }

theorem Ghost.push_le (g : Ghost) (b : Nat) : GLe g (g.push b) :=
  ⟨fun _ _ _ h => h, fun i x h => by
    have hl := (List.getElem?_eq_some_iff.1 h).1
    show (g.phi ++ [b])[i]? = some x
    rw [List.getElem?_append_left hl]; exact h, fun _ _ _ h => h⟩

theorem own_push (hl : g.phi.length = H.length) (b : Nat) (o : AO) {i : Nat} (hi : i < H.length) : own (g.push b) (H ++ [o]) i = own g H i := by
  unfold own
  rw [List.getElem?_append_left hi]
  have hp : (g.push b).phi[i]? = g.phi[i]? := by show (g.phi ++ [b])[i]? = _; rw [List.getElem?_append_left (by omega)]
  cases hH : H[i]? with
  | none => rfl
  | some x => cases x <;> first | rfl | exact hp

/-- A new block with an object of its own. -/
theorem Rep.alloc (hr : Rep n0 w0 gl g H w) {ob : Obj} (hg : Grew w ob w') (o : AO) (hot : (∀ sz e, o ≠ .tail sz e) ∧ ∀ sz n xs, o ≠ .vec sz n xs) (hn : ORep (g.push w.heap.size) n0 w' H.length o) : Rep n0 w0 gl (g.push w.heap.size) (H ++ [o]) w' := by
  have hn0 : n0 ≤ w.heap.size := Nat.le_trans hr.n0le hr.below.size
  have hnew : ∀ {i b : Nat}, H.length ≤ i → own (g.push w.heap.size) (H ++ [o]) i = some b → i = H.length ∧ b = w.heap.size := by
    intro i b hi hb
    by_cases e : i = H.length
    · subst e
      refine ⟨rfl, ?_⟩
      unfold own at hb
      rw [List.getElem?_append_right (Nat.le_refl _), Nat.sub_self] at hb
      have hp : (g.push w.heap.size).phi[H.length]? = some w.heap.size := by
        show (g.phi ++ [w.heap.size])[H.length]? = _
        rw [← hr.len, List.getElem?_append_right (Nat.le_refl _), Nat.sub_self]; rfl
      simp only [List.getElem?_cons_zero] at hb
      cases o <;> simp only [hp] at hb <;> first | (simp at hb; done) | exact (Option.some.inj hb).symm | exact absurd rfl (hot.1 _ _) | exact absurd rfl (hot.2 _ _ _)
    · unfold own at hb
      rw [List.getElem?_eq_none (by simp; omega)] at hb
      simp at hb
  refine ⟨hg.below hr.below hn0, hr.n0le, fun b x v h => ?_, by simp [Ghost.push, hr.len], fun t e ht => hr.beyond t e (by simp at ht; omega), fun i x h => ?_, fun i j b hi hj => ?_, fun i => (hr.glob i).mono (g.push_le _)⟩
  · have h' : g.K b x = some v := h
    rw [hg.cell (hr.K_lt h')]
    exact hr.know _ _ _ h'
  · by_cases hi : i < H.length
    · rw [List.getElem?_append_left hi] at h
      refine ORep.frame h (hr.objs i x h) (g.push_le _) (fun b hb => hg.old _ (hr.own_lt hb).1) (fun _ _ _ h => h) (fun _ h => h)
    · rw [List.getElem?_append_right (by omega)] at h
      have : i = H.length := by
        have := (List.getElem?_eq_some_iff.1 h).1
        simp at this; omega
      subst this
      rw [Nat.sub_self] at h
      simp at h
      subst h
      exact hn
  · by_cases hi' : i < H.length
    · rw [own_push hr.len _ _ hi'] at hi
      by_cases hj' : j < H.length
      · rw [own_push hr.len _ _ hj'] at hj
        exact hr.apart i j b hi hj
      · have := (hnew (by omega) hj).2
        have := (hr.own_lt hi).1
        omega
    · have h1 := hnew (by omega) hi
      by_cases hj' : j < H.length
      · rw [own_push hr.len _ _ hj'] at hj
        have := (hr.own_lt hj).1
        omega
      · have h2 := hnew (by omega) hj
        omega

/-- The cells of a new block are known for good. -/
def Ghost.learn (g : Ghost) (b : Nat) (cs : Nat → Option Value) : Ghost := { g with K := fun x o => if x = b then (match g.K x o with | some v => some v | none => cs o) else g.K x o }

theorem Ghost.learn_le (g : Ghost) (b : Nat) (cs : Nat → Option Value) : GLe g (g.learn b cs) :=
  ⟨fun x o v h => by
    show (if x = b then _ else _) = _
    split
    · rw [h]
    · exact h, fun _ _ h => h, fun _ _ _ h => h⟩

theorem own_learn (b : Nat) (cs : Nat → Option Value) (i : Nat) : own (g.learn b cs) H i = own g H i := rfl

theorem Rep.alloc_known (hr : Rep n0 w0 gl g H w) {cs : Array Value} {T : TypeId} {fz : Nat × Nat} (hg : Grew w (.cells cs T fz) w') (n : Nat) : Rep n0 w0 gl (g.learn w.heap.size (fun o => if o < n then cs[o]? else none)) H w' := by
  have hn0 : n0 ≤ w.heap.size := Nat.le_trans hr.n0le hr.below.size
  have le := g.learn_le w.heap.size (fun o => if o < n then cs[o]? else none)
  refine ⟨hg.below hr.below hn0, hr.n0le, fun b x v h => ?_, hr.len, hr.beyond, fun i x h => ?_, hr.apart, fun i => (hr.glob i).mono le⟩
  · have h' : (if b = w.heap.size then (match g.K b x with | some v => some v | none => if x < n then cs[x]? else none) else g.K b x) = some v := h
    split at h'
    · rename_i e
      subst e
      cases hk : g.K w.heap.size x with
      | some u => exact absurd (hr.K_lt hk) (by omega)
      | none =>
        rw [hk] at h'
        simp only at h'
        split at h'
        · rw [cell_of_heap hg.new]; exact h'
        · simp at h'
    · rw [hg.cell (hr.K_lt h')]
      exact hr.know _ _ _ h'
  · refine ORep.frame h (hr.objs i x h) le (fun b hb => hg.old _ (hr.own_lt hb).1) (fun b hb o ho => ?_) (fun _ h => h)
    have := (hr.own_lt hb).1
    show (if b = w.heap.size then _ else _) = none
    rw [if_neg (by omega)]; exact ho

theorem learn_new (hr : Rep n0 w0 gl g H w) (cs : Array Value) (n o : Nat) (ho : o < n) {v : Value} (hv : cs[o]? = some v) : (g.learn w.heap.size (fun o => if o < n then cs[o]? else none)).K w.heap.size o = some v := by
  show (if w.heap.size = w.heap.size then (match g.K w.heap.size o with | some v => some v | none => if o < n then cs[o]? else none) else g.K w.heap.size o) = some v
  rw [if_pos rfl]
  cases hk : g.K w.heap.size o with
  | some u => exact absurd (hr.K_lt hk) (by omega)
  | none => simp only; rw [if_pos ho]; exact hv

end Go.Ab

/- The abstract view, 9: cells written over; store, alloc, box, struct and slice literals. -/
set_option linter.unusedVariables false
set_option linter.unusedSimpArgs false
namespace Go.Ab
open Go Go.RowKit

def setRange (xs : List AV) (off : Nat) (cs : List AV) : List AV := xs.take off ++ cs ++ xs.drop (off + cs.length)

def setA (arr : Array Value) (off : Nat) : List Value → Array Value
  | [] => arr
  | v :: vs => setA (arr.setIfInBounds off v) (off + 1) vs

theorem setA_size (vs : List Value) : ∀ (arr : Array Value) (off : Nat), (setA arr off vs).size = arr.size := by
  induction vs with
  | nil => intro arr off; rfl
  | cons v vs ih => intro arr off; simp [setA, ih]

theorem setA_get (vs : List Value) : ∀ (arr : Array Value) (off k : Nat), (setA arr off vs)[k]? = if off ≤ k ∧ k < off + vs.length ∧ k < arr.size then vs[k - off]? else arr[k]? := by
  induction vs with
  | nil => intro arr off k; rw [if_neg (by simp; omega)]; rfl
  | cons v vs ih =>
    intro arr off k
    simp only [setA, ih, Array.size_setIfInBounds]
    by_cases h1 : off + 1 ≤ k ∧ k < off + 1 + vs.length ∧ k < arr.size
    · rw [if_pos h1, if_pos (by simp; omega)]
      rw [show k - off = (k - (off + 1)) + 1 by omega]; rfl
    · rw [if_neg h1]
      by_cases hk : k = off
      · subst hk
        by_cases hs : k < arr.size
        · rw [if_pos (by simp; omega), Nat.sub_self, Array.getElem?_setIfInBounds_self, if_pos hs]; rfl
        · rw [if_neg (by omega), Array.getElem?_setIfInBounds_self, if_neg hs, Array.getElem?_eq_none (by omega)]
      · rw [Array.getElem?_setIfInBounds_ne (by omega), if_neg (by simp; omega)]

theorem setRange_get (xs cs : List AV) (off k : Nat) (h : off + cs.length ≤ xs.length) : (setRange xs off cs)[k]? = if off ≤ k ∧ k < off + cs.length then cs[k - off]? else xs[k]? := by
  unfold setRange
  by_cases h1 : k < off
  · rw [if_neg (by omega), List.append_assoc, List.getElem?_append_left (by simp; omega), List.getElem?_take, if_pos h1]
  · by_cases h2 : k < off + cs.length
    · rw [if_pos (by omega), List.append_assoc, List.getElem?_append_right (by simp; omega), List.getElem?_append_left (by simp; omega)]
      congr 1; simp; omega
    · rw [if_neg (by omega), List.getElem?_append_right (by simp; omega), List.getElem?_drop]
      congr 1; simp; omega

theorem setRange_len (xs cs : List AV) (off : Nat) (h : off + cs.length ≤ xs.length) : (setRange xs off cs).length = xs.length := by
  unfold setRange; simp; omega

theorem setRange_rel {g : Ghost} {xs cs : List AV} {arr : Array Value} {vs : List Value} {off : Nat} (h : off + cs.length ≤ xs.length) (hs : xs.length ≤ arr.size) (hx : ∀ k, VRel g (xs.getD k .top) (arr.getD k undef))
    (hl : vs.length = cs.length) (hc : ∀ k, VRel g (cs.getD k .top) (vs.getD k undef)) : ∀ k, VRel g ((setRange xs off cs).getD k .top) ((setA arr off vs).getD k undef) := by
  intro k
  simp only [List.getD_eq_getElem?_getD, Array.getD_eq_getD_getElem?] at hx hc ⊢
  rw [setRange_get _ _ _ _ h, setA_get]
  by_cases h1 : off ≤ k ∧ k < off + cs.length
  · rw [if_pos h1, if_pos (by omega)]; exact hc _
  · rw [if_neg h1, if_neg (by omega)]; exact hx _

theorem zipIdx_fold (vs : List Value) : ∀ (s off : Nat) (arr : Array Value), (vs.zipIdx s).foldl (fun cs (x : Value × Nat) => cs.setIfInBounds (off + x.2) x.1) arr = setA arr (off + s) vs := by
  induction vs with
  | nil => intro s off arr; rfl
  | cons v vs ih => intro s off arr; simp only [List.zipIdx_cons, List.foldl_cons, setA, ih]; rw [show off + (s + 1) = off + s + 1 by omega]

/-- The cells of a value that is known. -/
theorem cells_rel {g : Ghost} {v : AV} {c : Value} (h : VRel g v c) (ht : v ≠ .top) : VRels g (cellsOf v) c.cells := by
  have one : ∀ {v : AV} {c : Value}, VRel g v c → VRels g [v] #[c] := fun h => ⟨rfl, fun k => match k with | 0 => h | _ + 1 => .top _⟩
  cases h with
  | top => exact absurd rfl ht
  | agg xs cs hl hv => exact ⟨hl, hv⟩
  | bool b => exact one (.bool b)
  | int k n => exact one (.int k n)
  | str s b h => exact one (.str s b h)
  | nilp => exact one .nilp
  | ref id off b e => exact one (.ref id off b e)
  | row xs b o vs hk hv => exact one (.row xs b o vs hk hv)
  | nsl tok e => exact one (.nsl tok e)
  | sl n xs tok b o cap vs hn hk hv htk => exact one (.sl n xs tok b o cap vs hn hk hv htk)
  | msl id off n b off' cap e hn ho => exact one (.msl id off n b off' cap e hn ho)
  | vsl id n ti hk h0 hn hs => exact one (.vsl id n ti hk h0 hn hs)
  | eref id n off ti hk => exact one (.eref id n off ti hk)
  | vslN id ti hk hs => exact one (.vslN id ti hk hs)
  | vslZ id ti b o hk hs => exact one (.vslZ id ti b o hk hs)
  | map id b e => exact one (.map id b e)
  | nilmap => exact one .nilmap
  | fn f first cap fs cs hl hf hm hc => exact one (.fn f first cap fs cs hl hf hm hc)
  | yield id b e => exact one (.yield id b e)
  | nilfn => exact one .nilfn
  | iface t v c h => exact one (.iface t v c h)
  | nili => exact one .nili
  | tup xs cs hl hv => exact one (.tup xs cs hl hv)

theorem one_rel {g : Ghost} {v : AV} {c : Value} (h : VRel g v c) (ho : v.one = true) : c.oneCell' = true := by
  cases h <;> first | rfl | (simp [AV.one] at ho)

/-- Cells stored one behind the other into a row that may be written. -/
theorem run_storeCells (P : Program) {b T : Nat} {fz : Nat × Nat} {o : Nat} : ∀ (vs : List Value) (i : Nat) (w : World) (arr : Array Value), w.heap[b]? = some (.cells arr T fz) → o + i + vs.length ≤ arr.size →
    (∀ v ∈ vs, v.oneCell' = true) → (∀ k, o + i ≤ k → k < o + i + vs.length → ¬ (fz.1 ≤ k ∧ k < fz.2)) →
    ∃ w', (storeCells ⟨b, o, none⟩ vs i).run P w = .ok () w' ∧ w'.heap[b]? = some (.cells (setA arr (o + i) vs) T fz) ∧ (∀ k, k ≠ b → w'.heap[k]? = w.heap[k]?) ∧ w'.os = w.os ∧ w'.tape = w.tape ∧ w'.output = w.output ∧ w'.heap.size = w.heap.size := by
  intro vs
  induction vs with
  | nil => intro i w arr h _ _ _; exact ⟨w, rfl, h, fun _ _ => rfl, rfl, rfl, rfl, rfl⟩
  | cons v vs ih =>
    intro i w arr h hs hv hf
    simp only [List.length_cons] at hs hf
    have hc : w.cell? ⟨b, o + i, none⟩ = some arr[o + i] := by rw [cell_of_heap h, Array.getElem?_eq_getElem (by omega)]
    have hfr : w.frozen? ⟨b, o + i, none⟩ = false := by
      have := hf (o + i) (by omega) (by omega)
      simp only [World.frozen?, h, Bool.and_eq_false_iff, decide_eq_false_iff_not]
      omega
    have hstep : (store ((⟨b, o, none⟩ : Addr).add i) v).run P w = .ok () (w.setCell ⟨b, o + i, none⟩ v) := by
      rw [add_none, run_store P w _ v .plain (hv v (by simp)), hc]
      simp [hfr]
    have hh : (w.setCell ⟨b, o + i, none⟩ v).heap[b]? = some (.cells (arr.setIfInBounds (o + i) v) T fz) := by
      simp only [World.setCell, Array.getElem?_modify]
      simp [h]
    obtain ⟨w', h1, h2, h3, h4, h5, h6, h7⟩ := ih (i + 1) (w.setCell ⟨b, o + i, none⟩ v) (arr.setIfInBounds (o + i) v) hh (by simp; omega) (fun u hu => hv u (by simp [hu])) (fun k a c => hf k (by omega) (by omega))
    refine ⟨w', ?_, ?_, fun k hk => (h3 k hk).trans (Below.heap_setCell _ _ _ _ hk), h4, h5, h6, by rw [h7]; simp⟩
    · rw [storeCells, Sem.run_bind, hstep]; exact h1
    · rw [h2, show o + (i + 1) = o + i + 1 by omega]; rfl

variable {E : Env} {g : Ghost} {H : List AO} {w : World} {a : AAct} {a' : Act}

def writeCells (H : List AO) (cs : List AV) : AV → Option (List AO)
  | .ref id off => match H[id]? with
    | some (.cells xs) => if off + cs.length ≤ xs.length ∧ cs.all AV.one = true then some (H.set id (.cells (setRange xs off cs))) else none
    | _ => none
  | .eref id k off => match H[id]? with
    | some (.vec sz n xs) => if n = k ∧ off + cs.length ≤ xs.length ∧ cs.all AV.one = true ∧ 0 < cs.length then some (H.set id (.vec sz n (setRange xs off cs))) else none
    | _ => none
  | _ => none

theorem own_set_cells {g : Ghost} {H : List AO} {id : Nat} {xs ys : List AV} (h : H[id]? = some (.cells xs)) (i : Nat) : own g (H.set id (.cells ys)) i = own g H i := by
  unfold own
  by_cases e : id = i
  · subst e
    rw [List.getElem?_set_self (List.getElem?_eq_some_iff.1 h).1, h]
  · rw [List.getElem?_set_ne e]

/-- Cells of an object of our own are written over. -/
theorem Rep.write {n0 : Nat} {w0 : World} {gl : Nat → List AV} (hr : Rep n0 w0 gl g H w) {id : Nat} {xs ys : List AV} (hH : H[id]? = some (.cells xs)) {b : Nat} {cs : Array Value} {T : TypeId} {fz : Nat × Nat} {arr : Array Value} {w' : World}
    (hb : g.phi[id]? = some b) (hw : w'.heap[b]? = some (.cells arr T fz)) (hl : ys.length ≤ arr.size) (hy : ∀ k, VRel g (ys.getD k .top) (arr.getD k undef)) (hfz : ∀ k, k < ys.length → ¬ (fz.1 ≤ k ∧ k < fz.2))
    (ho : ∀ k, k ≠ b → w'.heap[k]? = w.heap[k]?) (h1 : w'.os = w.os) (h2 : w'.tape = w.tape) (h3 : w'.output = w.output) (h4 : w'.heap.size = w.heap.size) : Rep n0 w0 gl g (H.set id (.cells ys)) w' := by
  have hown : own g H id = some b := by unfold own; rw [hH]; exact hb
  obtain ⟨hlt, hn0⟩ := hr.own_lt hown
  have hK : ∀ o, g.K b o = none := by
    obtain ⟨b', _, _, _, e, _, _, _, _, _, hk⟩ := hr.objs _ _ hH
    rw [hb] at e; injection e with e; subst e; exact hk
  have hid : id < H.length := (List.getElem?_eq_some_iff.1 hH).1
  refine ⟨⟨h1.trans hr.below.os, h2.trans hr.below.tape, h3.trans hr.below.output, by rw [h4]; exact hr.below.size, fun k hk => (ho k (by omega)).trans (hr.below.block k hk)⟩, hr.n0le, fun b' o v h => ?_, by simp [hr.len], fun t e ht => hr.beyond t e (by simpa using ht), fun i o h => ?_, fun i j b' hi hj => ?_, hr.glob⟩
  · have hne : b' ≠ b := by rintro rfl; rw [hK] at h; simp at h
    have := hr.know b' o v h
    simpa [World.cell?, ho b' hne] using this
  · by_cases e : id = i
    · subst e
      rw [List.getElem?_set_self hid] at h
      injection h with h; subst h
      exact ⟨b, arr, T, fz, hb, hn0, hw, hl, hy, hfz, hK⟩
    · rw [List.getElem?_set_ne e] at h
      refine ORep.frame h (hr.objs i o h) (GLe.refl g) (fun b' hb' => ho b' ?_) (fun _ _ _ h => h) (fun _ h => h)
      rintro rfl
      exact e (hr.apart _ _ _ hown hb')
  · rw [own_set_cells hH] at hi hj
    exact hr.apart i j b' hi hj

theorem own_set_vec {g : Ghost} {H : List AO} {id sz n : Nat} {xs ys : List AV} (h : H[id]? = some (.vec sz n xs)) (i : Nat) : own g (H.set id (.vec sz n ys)) i = own g H i := by
  unfold own
  by_cases e : id = i
  · subst e
    rw [List.getElem?_set_self (List.getElem?_eq_some_iff.1 h).1, h]
  · rw [List.getElem?_set_ne e]

/-- Cells of a row of our own that may grow are written over. -/
theorem Rep.writeV {n0 : Nat} {w0 : World} {gl : Nat → List AV} (hr : Rep n0 w0 gl g H w) {id sz n : Nat} {xs ys : List AV} (hH : H[id]? = some (.vec sz n xs)) {ti : TI} {cs : Array Value} {T : TypeId} {fz : Nat × Nat} {arr : Array Value} {w' : World}
    (ht : g.tok id n = some ti) (hs : ti.spare ≠ 0) (hw : w'.heap[ti.b]? = some (.cells arr T fz)) (hsz : arr.size = ti.spare * sz) (hl : ys.length = xs.length) (hy : ∀ k, VRel g (ys.getD k .top) (arr.getD k undef)) (hfz : ∀ k, k < arr.size → ¬ (fz.1 ≤ k ∧ k < fz.2))
    (ho : ∀ k, k ≠ ti.b → w'.heap[k]? = w.heap[k]?) (h1 : w'.os = w.os) (h2 : w'.tape = w.tape) (h3 : w'.output = w.output) (h4 : w'.heap.size = w.heap.size) : Rep n0 w0 gl g (H.set id (.vec sz n ys)) w' := by
  have hown : own g H id = some ti.b := by unfold own; rw [hH]; simp [ht, hs]
  obtain ⟨hlt, hn0⟩ := hr.own_lt hown
  obtain ⟨ti', e1, e2', e2, e3, e4, e5⟩ := hr.objs _ _ hH
  rw [ht] at e1; injection e1 with e1; subst e1
  have e5 := e5.resolve_left hs
  obtain ⟨_, _, _, _, _, _, _, _, hK⟩ := e5
  have hid : id < H.length := (List.getElem?_eq_some_iff.1 hH).1
  refine ⟨⟨h1.trans hr.below.os, h2.trans hr.below.tape, h3.trans hr.below.output, by rw [h4]; exact hr.below.size, fun k hk => (ho k (by omega)).trans (hr.below.block k hk)⟩, hr.n0le, fun b' o v h => ?_, by simp [hr.len], fun t e ht => hr.beyond t e (by simpa using ht), fun i o h => ?_, fun i j b' hi hj => ?_, hr.glob⟩
  · have hne : b' ≠ ti.b := by rintro rfl; rw [hK] at h; simp at h
    have := hr.know b' o v h
    simpa [World.cell?, ho b' hne] using this
  · by_cases e : id = i
    · subst e
      rw [List.getElem?_set_self hid] at h
      injection h with h; subst h
      exact ⟨ti, ht, e2', e2, by rw [hl]; exact e3, e4, .inr ⟨arr, T, fz, hn0, hw, hsz, hy, hfz, hK⟩⟩
    · rw [List.getElem?_set_ne e] at h
      refine ORep.frame h (hr.objs i o h) (GLe.refl g) (fun b' hb' => ho b' ?_) (fun _ _ _ h => h) (fun _ h => h)
      rintro rfl
      exact e (hr.apart _ _ _ hown hb')
  · rw [own_set_vec hH] at hi hj
    exact hr.apart i j b' hi hj

theorem store_sound (hr : E.Rep g H w) {t : TypeId} {i : TyI} (ht : E.ty t = some i) {p v : AV} {c u : Value} (hp : VRel g p c) (hv : VRel g v u) (hnt : v ≠ .top) (hsz : (cellsOf v).length = i.size) {H' : List AO} (h : writeCells H (cellsOf v) p = some H') :
    ∃ w', (Instr.storeAt t c u).run E.P w = .ok () w' ∧ E.Rep g H' w' := by
  unfold writeCells at h
  have hcr := cells_rel hv hnt
  split at h <;> try (simp at h; done)
  rotate_left
  next id k off =>
    split at h <;> try (simp at h; done)
    rename_i sz n xs hH
    split at h <;> try (simp at h; done)
    rename_i hle
    injection h with h; subst h
    obtain ⟨rfl, hle⟩ := hle
    obtain ⟨ti, q1, q2', q2, q3, q4, q5⟩ := hr.objs _ _ hH
    have hx0 : xs.length ≠ 0 := by omega
    have hs0 : ti.spare ≠ 0 := by
      intro hs
      have : n = 0 := by omega
      subst this; simp at q3; exact hx0 (by rw [q3]; rfl)
    obtain ⟨arr, T, fz, h2, h3, h4, h5, h6, h7⟩ := q5.resolve_left hs0
    have hle2 : xs.length ≤ arr.size := by rw [h4, q3]; exact Nat.mul_le_mul_right _ q4
    cases hp with
    | eref _ _ _ ti2 e =>
      rw [q1] at e; injection e with e; subst e
      have hone : ∀ x ∈ u.cells.toList, x.oneCell' = true := by
        intro x hx
        obtain ⟨k, hk, rfl⟩ := List.getElem_of_mem hx
        have hk' : k < u.cells.size := by simpa using hk
        have hkl : k < (cellsOf v).length := by rw [← hcr.1]; exact hk'
        have hrel := hcr.2 k
        rw [List.getD_eq_getElem?_getD, List.getElem?_eq_getElem hkl, Array.getD_eq_getD_getElem?, Array.getElem?_eq_getElem hk'] at hrel
        have := one_rel hrel (List.all_eq_true.1 hle.2.1 _ (List.getElem_mem hkl))
        simpa using this
      obtain ⟨w', r1, r2, r3, r4, r5, r6, r7⟩ := run_storeCells E.P (o := off) u.cells.toList 0 w arr h3 (by simp [hcr.1]; omega) hone (fun k a c => h6 k (by simp [hcr.1] at c; omega))
      refine ⟨w', ?_, ?_⟩
      · simp only [Instr.storeAt, Instr.sureAddr, Sem.run_bind, Sem.run_pure, Result.andThen_ok, storeVar, sizeOf_run ht]
        rw [if_neg (by rw [hcr.1, hsz]; simp)]
        simpa using r1
      · rw [Nat.add_zero] at r2
        refine Rep.writeV hr hH (cs := arr) q1 hs0 r2 (by rw [setA_size]; exact h4) (setRange_len _ _ _ hle.1) (setRange_rel hle.1 hle2 h5 (by simp [hcr.1]) (fun k => by
          have := hcr.2 k
          simpa [Array.getD_eq_getD_getElem?, List.getD_eq_getElem?_getD] using this)) (fun k hk => h6 k (by rw [setA_size] at hk; exact hk)) r3 r4 r5 r6 r7
  rename_i id off
  split at h <;> try (simp at h; done)
  rename_i xs hH
  split at h <;> try (simp at h; done)
  rename_i hle
  injection h with h; subst h
  obtain ⟨b, arr, T, fz, h1, h2, h3, h4, h5, h6, h7⟩ := hr.objs _ _ hH
  cases hp with
  | ref _ _ b' e =>
    rw [h1] at e; injection e with e; subst e
    have hone : ∀ x ∈ u.cells.toList, x.oneCell' = true := by
      intro x hx
      obtain ⟨k, hk, rfl⟩ := List.getElem_of_mem hx
      have hk' : k < u.cells.size := by simpa using hk
      have hkl : k < (cellsOf v).length := by rw [← hcr.1]; exact hk'
      have hrel := hcr.2 k
      rw [List.getD_eq_getElem?_getD, List.getElem?_eq_getElem hkl, Array.getD_eq_getD_getElem?, Array.getElem?_eq_getElem hk'] at hrel
      have := one_rel hrel (List.all_eq_true.1 hle.2 _ (List.getElem_mem hkl))
      simpa using this
    obtain ⟨w', r1, r2, r3, r4, r5, r6, r7⟩ := run_storeCells E.P (o := off) u.cells.toList 0 w arr h3 (by simp [hcr.1]; omega) hone (fun k a c => h6 k (by simp [hcr.1] at c; omega))
    refine ⟨w', ?_, ?_⟩
    · simp only [Instr.storeAt, Instr.sureAddr, Sem.run_bind, Sem.run_pure, Result.andThen_ok, storeVar, sizeOf_run ht]
      rw [if_neg (by rw [hcr.1, hsz]; simp)]
      simpa using r1
    · rw [Nat.add_zero] at r2
      refine Rep.write hr hH (cs := arr) h1 r2 (by rw [setA_size, setRange_len _ _ _ hle.1]; exact h4) (setRange_rel hle.1 h4 h5 (by simp [hcr.1]) (fun k => by
        have := hcr.2 k
        simpa [Array.getD_eq_getD_getElem?, List.getD_eq_getElem?_getD] using this)) (fun k hk => h6 k (by rw [setRange_len _ _ _ hle.1] at hk; exact hk)) r3 r4 r5 r6 r7

end Go.Ab

/- The abstract view, 10: operations that make memory, but for append. -/
set_option linter.unusedVariables false
set_option linter.unusedSimpArgs false
namespace Go.Ab
open Go Go.RowKit

variable {E : Env} {g : Ghost} {H : List AO} {w w' : World} {a : AAct} {a' : Act}

def AV.isTop : AV → Bool
  | .top => true
  | _ => false

theorem AV.ne_top {v : AV} (h : v.isTop = false) : v ≠ .top := by rintro rfl; simp [AV.isTop] at h

/-- The parts of a struct or slice literal, laid one behind the other. -/
def evFill (place : Nat → Option (Nat × Nat)) : List AV → List (Nat × AV) → Option (List AV)
  | xs, [] => some xs
  | xs, (i, v) :: rest =>
    match place i with
    | none => none
    | some (off, size) => if v.isTop = false ∧ (cellsOf v).length = size ∧ off + size ≤ xs.length then evFill place (setRange xs off (cellsOf v)) rest else none

theorem fill_sound {place place' : Nat → Option (Nat × Nat)} (hp : ∀ i x, place i = some x → place' i = some x) : ∀ (parts : List (Nat × AV)) (parts' : List (Nat × Value)), parts'.length = parts.length →
    (∀ (k i : Nat) (v : AV), parts[k]? = some (i, v) → ∃ c, parts'[k]? = some (i, c) ∧ VRel g v c) → ∀ (xs : List AV) (cs : Array Value), VRels g xs cs → ∀ ys, evFill place xs parts = some ys →
    ∃ ds, Instr.fill place' cs parts' = some ds ∧ VRels g ys ds ∧ ys.length = xs.length := by
  intro parts
  induction parts with
  | nil =>
    intro parts' hl hk xs cs hx ys h
    cases parts' with
    | nil => simp only [evFill] at h; injection h with h; subst h; exact ⟨cs, rfl, hx, rfl⟩
    | cons => simp at hl
  | cons p rest ih =>
    intro parts' hl hk xs cs hx ys h
    obtain ⟨i, v⟩ := p
    cases parts' with
    | nil => simp at hl
    | cons q rest' =>
      obtain ⟨c, hc, hv⟩ := hk 0 i v rfl
      simp only [List.getElem?_cons_zero] at hc; injection hc with hc; subst hc
      simp only [evFill] at h
      split at h
      · simp at h
      · rename_i off size hpl
        split at h
        · rename_i hc
          obtain ⟨h1, h2, h3⟩ := hc
          have hcr := cells_rel hv (AV.ne_top h1)
          have hsz : off + (cellsOf v).length ≤ xs.length := by omega
          have hrel : VRels g (setRange xs off (cellsOf v)) (setA cs off c.cells.toList) := by
            refine ⟨by rw [setA_size, setRange_len _ _ _ hsz]; exact hx.1, setRange_rel hsz (by rw [hx.1]; exact Nat.le_refl _) hx.2 (by simp [hcr.1]) (fun k => ?_)⟩
            have := hcr.2 k
            simpa [Array.getD_eq_getD_getElem?, List.getD_eq_getElem?_getD] using this
          obtain ⟨ds, e1, e2, e3⟩ := ih rest' (by simpa using hl) (fun k i v hkv => hk (k + 1) i v hkv) _ _ hrel ys h
          refine ⟨ds, ?_, e2, by rw [e3, setRange_len _ _ _ hsz]⟩
          simp only [Instr.fill, hp _ _ hpl]
          rw [if_neg (by rw [hcr.1]; have := hx.1; simp; omega)]
          have := zipIdx_fold c.cells.toList 0 off cs
          rw [Nat.add_zero] at this
          rw [← this] at e1
          have hz : (c.cells.zipIdx.foldl (fun cs x => cs.setIfInBounds (off + x.2) x.1) cs) = (c.cells.toList.zipIdx 0).foldl (fun cs (x : Value × Nat) => cs.setIfInBounds (off + x.2) x.1) cs := by
            rw [← Array.foldl_toList]; congr 1; simp
          rw [← e1, ← hz]
        · simp at h

/-! ### What is made -/
def evParts (a : AAct) (gl : Nat → List AV) (parts : Array (Nat × Operand)) : List (Nat × AV) := parts.toList.map fun p => (p.1, a.ev gl p.2)

def structPlace (E : Env) (fs : List (Nat × TypeId)) (i : Nat) : Option (Nat × Nat) :=
  match fs[i]? with
  | some (off, ft) => (E.ty ft).map fun j => (off, j.size)
  | none => none

def evBuild (E : Env) (a : AAct) (t : TypeId) (parts : Array (Nat × Operand)) : Option AV :=
  match E.ty t with
  | some i => match i.u with
    | .struct fs => if fs.all (fun f => (E.ty f.2).isSome) then (evFill (structPlace E fs) i.zero (evParts a E.gl parts)).map .agg else none
    | .arr n e => match E.ty e with
      | some j => (evFill (fun k => some (k * j.size, j.size)) i.zero (evParts a E.gl parts)).map .agg
      | none => none
    | _ => none
  | none => none

/-- n times the cells. -/
def rep (zs : List AV) : Nat → List AV
  | 0 => []
  | n + 1 => zs ++ rep zs n

def evBuildSlice (E : Env) (a : AAct) (t : TypeId) (n : Nat) (parts : Array (Nat × Operand)) : Option (List AV) :=
  match E.ty t with
  | some i => match i.u with
    | .sl e => match E.ty e with
      | some j => if 0 < j.size ∧ n * j.size ≤ 16777216 then evFill (fun k => some (k * j.size, j.size)) (rep j.zero n) (evParts a E.gl parts) else none
      | none => none
    | _ => none
  | none => none

/-- Operations that make or turn memory. md: of each temporary, how what it gets is to be seen (0: as usual). -/
def evHeap (E : Env) (md : Nat → Nat) (a : AAct) (H : List AO) (o : Oper) : Option (AV × List AO) :=
  match o.op with
  | .alloc t => match E.ty t with
    | some i => some (.ref H.length 0, H ++ [.cells i.zero])
    | none => none
  | .box t x => match E.ty t with
    | some i => if (a.ev E.gl x).isTop = false ∧ (cellsOf (a.ev E.gl x)).length = i.size then
        (if md (o.dst.getD 0) = 1 then some (.row (cellsOf (a.ev E.gl x)), H) else some (.ref H.length 0, H ++ [.cells (cellsOf (a.ev E.gl x))])) else none
    | none => none
  | .build t parts => (evBuild E a t parts).map fun v => (v, H)
  | .buildSlice t n parts => match evBuildSlice E a t n parts with
    | some xs => if md (o.dst.getD 0) = 2 then some (.msl H.length 0 n, H ++ [.cells xs]) else some (.sl n xs .full, H)
    | none => none
  | .store t p x => match E.ty t with
    | some i => if (a.ev E.gl x).isTop = false ∧ (cellsOf (a.ev E.gl x)).length = i.size then (writeCells H (cellsOf (a.ev E.gl x)) (a.ev E.gl p)).map fun H' => (.top, H') else none
    | none => none
  | .convert src dst x => match E.ty src, E.ty dst, a.ev E.gl x with
    | some i, some j, .str s => match i.u, j.u with
      | .str, .sl e => match E.ty e with
        | some ⟨.int .u8, _, _, _⟩ => if md (o.dst.getD 0) = 2 then some (.msl H.length 0 s.length, H ++ [.cells (bytesAV s)]) else if md (o.dst.getD 0) = 3 then some (.sl s.length (bytesAV s) (.at H.length s.length), H ++ [.tail 1 s.length]) else some (.sl s.length (bytesAV s) .ro, H)
        | _ => none
      | _, _ => none
    | some i, some j, .msl id 0 n => match i.u, j.u with
      | .sl _, .sl e => if src = dst then match E.ty e, H[id]? with
        | some ⟨.int .u8, _, _, _⟩, some (.cells xs) => if xs.length = n ∧ 0 < n then some (.sl n xs .ro, H.set id .dead) else none
        | _, _ => none else none
      | _, _ => none
    | _, _, _ => none
  | .makeSlice t l c => match E.ty t, a.ev E.gl l, a.ev E.gl c with
    | some i, .int _ n, .int _ m => match i.u with
      | .sl e => match E.ty e with
        | some j => if 0 ≤ n ∧ n ≤ m ∧ 0 < j.size ∧ (j.bytes : Int) * m ≤ 140737488355328 ∧ m ≤ 140737488355328 then
            (if md (o.dst.getD 0) = 2 then some (.msl H.length 0 n.toNat, H ++ [.cells (rep j.zero m.toNat)])
             else if md (o.dst.getD 0) = 3 then some (.sl n.toNat (rep j.zero n.toNat) (.at H.length n.toNat), H ++ [.tail j.size n.toNat])
             else some (.sl n.toNat (rep j.zero n.toNat) .ro, H)) else none
        | none => none
      | _ => none
    | _, _, _ => none
  | .call c => match c.callee with
    | .builtin .copy => match c.args.toList, c.argTypes.toList with
      | [x, y], [t, _] => match E.ty t with
        | some i => match i.u with
          | .sl e => match E.ty e with
            | some j => match a.ev E.gl x, a.ev E.gl y with
              | .msl id off n, .sl m ys _ => if j.size = 1 ∧ ys.length = m then (writeCells H (ys.take (min m n)) (.ref id off)).map fun H' => (.int .i64 (min m n : Nat), H') else none
              | _, _ => none
            | none => none
          | _ => none
        | none => none
      | _, _ => none
    | _ => none
  | .range t x => match E.ty t, a.ev E.gl x with
    | some i, .str s => match i.u with
      | .str => some (.ref H.length 0, H ++ [.iter s 0])
      | _ => none
    | _, _ => none
  | .next it true => match a.ev E.gl it with
    | .ref id 0 => match H[id]? with
      | some (.iter s pos) => if pos < s.length then some (.tup [.bool true, .int .i64 pos, .int .i32 ((Utf8.decode ⟨s.toArray⟩ pos).1 : Int)], H.set id (.iter s (pos + (Utf8.decode ⟨s.toArray⟩ pos).2)))
        else some (.tup [.bool false], H)
      | _ => none
    | _ => none
  | _ => none

/-- An operation that may turn memory goes well, and leaves a value or none. -/
def HGives (E : Env) (g : Ghost) (s : Sem Next) (w : World) (v : AV) (H' : List AO) : Prop :=
  ∃ nx w' g', s.run E.P w = .ok nx w' ∧ GLe g g' ∧ E.Rep g' H' w' ∧ ((∃ c, nx = .value c ∧ VRel g' v c) ∨ (nx = .skip ∧ v = .top))

theorem HGives.of_value {s : Sem Value} {v : AV} {H' : List AO} {c : Value} {g' : Ghost} (h1 : s.run E.P w = .ok c w') (h2 : GLe g g') (h3 : E.Rep g' H' w') (h4 : VRel g' v c) : HGives E g (do pure (.value (← s))) w v H' :=
  ⟨.value c, w', g', by rw [Sem.run_bind, h1]; rfl, h2, h3, .inl ⟨c, rfl, h4⟩⟩

theorem new_cells (hr : E.Rep g H w) {cs : Array Value} {T : TypeId} {fz : Nat × Nat} (hg : Grew w (.cells cs T fz) w') {xs : List AV} (hl : xs.length ≤ cs.size) (hx : ∀ k, VRel g (xs.getD k .top) (cs.getD k undef)) (hfz : ∀ k, k < xs.length → ¬ (fz.1 ≤ k ∧ k < fz.2)) :
    E.Rep (g.push w.heap.size) (H ++ [.cells xs]) w' ∧ (g.push w.heap.size).phi[H.length]? = some w.heap.size := by
  have hp : (g.push w.heap.size).phi[H.length]? = some w.heap.size := by
    show (g.phi ++ [w.heap.size])[H.length]? = _
    rw [← hr.len, List.getElem?_append_right (Nat.le_refl _), Nat.sub_self]; rfl
  refine ⟨hr.alloc hg _ (by simp) ⟨w.heap.size, cs, T, fz, hp, Nat.le_trans hr.n0le hr.below.size, hg.new, hl, fun k => (hx k).mono (g.push_le _), hfz, fun o => ?_⟩, hp⟩
  show g.K _ _ = none
  cases hk : g.K w.heap.size o with
  | none => rfl
  | some v => exact absurd (hr.K_lt hk) (by omega)

theorem known_rel (hr : E.Rep g H w) {cs : Array Value} {n : Nat} {xs : List AV} (hl : xs.length ≤ n) (hc : n ≤ cs.size) (hx : ∀ k, VRel g (xs.getD k .top) (cs.getD k undef)) :
    let g' := g.learn w.heap.size (fun o => if o < n then cs[o]? else none)
    (∀ i, i < xs.length → g'.K w.heap.size (0 + i) = some (cs.getD i undef)) ∧ ∀ i, VRel g' (xs.getD i .top) (cs.getD i undef) := by
  refine ⟨fun i hi => ?_, fun i => (hx i).mono (g.learn_le _ _)⟩
  rw [Nat.zero_add]
  refine learn_new hr cs n i (by omega) ?_
  rw [Array.getD_eq_getD_getElem?, Array.getElem?_eq_getElem (show i < cs.size by omega)]; rfl

theorem bytes_rel (w0 : World) (e : TypeId) (b : ByteArray) : (∀ k, VRel g ((bytesAV b.data.toList).getD k .top) ((Lib.bytesCells w0 e b).getD k undef)) ∧ (bytesAV b.data.toList).length ≤ (Lib.bytesCells w0 e b).size := by
  refine ⟨fun k => ?_, by simp [bytesAV, Lib.bytesCells]⟩
  simp only [bytesAV, List.getD_eq_getElem?_getD, Array.getD_eq_getD_getElem?, List.getElem?_map, Array.getElem?_toList]
  cases h : b.data[k]? with
  | none => exact .top _
  | some x =>
    have hk : k < b.data.size := (Array.getElem?_eq_some_iff.1 h).1
    have : (Lib.bytesCells w0 e b)[k]? = some (.int .u8 x.toNat) := by
      simp only [Lib.bytesCells]
      rw [Array.getElem?_append_left (by simpa using hk)]
      simp [h]
    rw [this]; exact .int _ _

theorem bytesWorld_grew (w : World) (e : TypeId) (s : ByteArray) : Grew w (.cells (Lib.bytesCells w e s) e ((Lib.bytesCells w e s).size, (Lib.bytesCells w e s).size + 1)) (Lib.bytesWorld w e s) := by
  refine ⟨Lib.bytesWorld_at_new w e s, fun k hk => Lib.bytesWorld_at_old w e s k hk, Lib.bytesWorld_size w e s, ?_, ?_, ?_⟩
  all_goals
    unfold Lib.bytesWorld World.freeze
    split <;> rfl

end Go.Ab

/- The abstract view, 10b: a row of bytes that was written down becomes known. -/
set_option linter.unusedVariables false
set_option linter.unusedSimpArgs false
namespace Go.Ab
open Go Go.RowKit

variable {n0 : Nat} {w0 : World} {gl : Nat → List AV} {g : Ghost} {H : List AO} {w w' : World}

/-- An object's block is turned, what its cells hold stays; it is no object any more, and what it holds is known. -/
theorem Rep.know_cells (hr : Rep n0 w0 gl g H w) {id b : Nat} {xs : List AV} (hH : H[id]? = some (.cells xs)) (hb : g.phi[id]? = some b) {cs : Array Value} {T T2 : TypeId} {fz fz2 : Nat × Nat} (hc : w.heap[b]? = some (.cells cs T fz)) (hc2 : w'.heap[b]? = some (.cells cs T2 fz2))
    (hold : ∀ k, k ≠ b → w'.heap[k]? = w.heap[k]?) (hsize : w'.heap.size = w.heap.size) (hos : w'.os = w.os) (htape : w'.tape = w.tape) (hout : w'.output = w.output) :
    Rep n0 w0 gl (g.learn b (fun o => if o < xs.length then cs[o]? else none)) (H.set id .dead) w' := by
  have hid : id < H.length := (List.getElem?_eq_some_iff.1 hH).1
  have hown : own g H id = some b := by unfold own; rw [hH]; exact hb
  obtain ⟨b', cs', T', fz', p1, p2, p3, p4, p5, p6, p7⟩ := hr.objs _ _ hH
  rw [hb] at p1; injection p1 with p1; subst p1
  rw [hc] at p3; injection p3 with p3; injection p3 with p3 _ _; subst p3
  have le := g.learn_le b (fun o => if o < xs.length then cs[o]? else none)
  have hdead : own (g.learn b (fun o => if o < xs.length then cs[o]? else none)) (H.set id .dead) id = none := by unfold own; rw [List.getElem?_set_self hid]
  have hcell : ∀ x o, w'.cell? ⟨x, o, none⟩ = w.cell? ⟨x, o, none⟩ := by
    intro x o
    by_cases e : x = b
    · subst e; simp [World.cell?, hc, hc2]
    · simp [World.cell?, hold x e]
  have hnob : ∀ i, i ≠ id → own g H i ≠ some b := fun i hi h => hi (hr.apart _ _ _ h hown)
  have hownl : ∀ i, i ≠ id → own (g.learn b (fun o => if o < xs.length then cs[o]? else none)) (H.set id .dead) i = own g H i := by
    intro i hi
    unfold own
    rw [List.getElem?_set_ne (fun h => hi h.symm)]
    rfl
  refine ⟨⟨by rw [hos]; exact hr.below.os, by rw [htape]; exact hr.below.tape, by rw [hout]; exact hr.below.output, by rw [hsize]; exact hr.below.size, fun k hk => (hold k (by omega)).trans (hr.below.block k hk)⟩, hr.n0le, fun x o v h => ?_, by simp; exact hr.len, fun t e ht => hr.beyond t e (by simpa using ht), fun i o h => ?_, fun i j x hi hj => ?_, fun i => (hr.glob i).mono le⟩
  · rw [hcell]
    have h' : (if x = b then (match g.K x o with | some v => some v | none => if o < xs.length then cs[o]? else none) else g.K x o) = some v := h
    split at h'
    · rename_i e
      subst e
      rw [p7 o] at h'
      simp only at h'
      split at h'
      · simp [World.cell?, hc]; exact h'
      · simp at h'
    · exact hr.know _ _ _ h'
  · by_cases e : id = i
    · subst e
      rw [List.getElem?_set_self hid] at h
      injection h with h; subst h; trivial
    · rw [List.getElem?_set_ne e] at h
      refine ORep.frame h (hr.objs i o h) le (fun b' hb' => hold _ fun hbb => hnob i (fun h => e h.symm) (by rw [← hbb]; exact hb')) (fun b' hb' o' ho' => ?_) (fun _ h => h)
      show (if b' = b then _ else _) = none
      rw [if_neg (fun hbb => hnob i (fun h => e h.symm) (by rw [← hbb]; exact hb'))]; exact ho'
  · have hi' : i ≠ id := by rintro rfl; rw [hdead] at hi; simp at hi
    have hj' : j ≠ id := by rintro rfl; rw [hdead] at hj; simp at hj
    rw [hownl i hi'] at hi
    rw [hownl j hj'] at hj
    exact hr.apart i j x hi hj

theorem run_markStringish {P : Program} {b o : Nat} {cs : Array Value} {T : TypeId} {fz : Nat × Nat} (hc : w.heap[b]? = some (.cells cs T fz)) : ∃ w', (markStringish ⟨b, o, none⟩).run P w = .ok () w' ∧ (∃ fz2, w'.heap[b]? = some (.cells cs T fz2)) ∧ (∀ k, k ≠ b → w'.heap[k]? = w.heap[k]?) ∧ w'.heap.size = w.heap.size ∧ w'.os = w.os ∧ w'.tape = w.tape ∧ w'.output = w.output := by
  have hlt : b < w.heap.size := (Array.getElem?_eq_some_iff.1 hc).1
  refine ⟨w.freeze ⟨b, cs.size, none⟩ 1, ?_, ?_, fun k hk => ?_, ?_, ?_, ?_, ?_⟩
  · simp [markStringish, World.shape?, hc]
  · unfold World.freeze
    rw [if_neg (by omega)]
    refine ⟨if fz.1 == fz.2 then (cs.size, cs.size + 1) else (min fz.1 cs.size, max fz.2 (cs.size + 1)), ?_⟩
    simp only [Array.getElem?_modify, hc, if_true, Option.map_some]
  · unfold World.freeze
    rw [if_neg (by omega)]
    simp only [Array.getElem?_modify]
    rw [if_neg (fun h => hk h.symm)]
  all_goals (unfold World.freeze; rw [if_neg (by omega)])
  simp

end Go.Ab

/- The abstract view, 10c: tokens. -/
set_option linter.unusedVariables false
set_option linter.unusedSimpArgs false
namespace Go.Ab
open Go Go.RowKit

variable {E : Env} {g : Ghost} {H : List AO} {w w' : World} {a : AAct} {a' : Act}

def Ghost.setTok (g : Ghost) (t e : Nat) (ti : TI) : Ghost := { g with tok := fun t' e' => if t' = t ∧ e' = e then some ti else g.tok t' e' }

theorem Ghost.setTok_le (g : Ghost) {t e : Nat} (ti : TI) (h : g.tok t e = none) : GLe g (g.setTok t e ti) :=
  ⟨fun _ _ _ h => h, fun _ _ h => h, fun t' e' x hx => by
    show (if t' = t ∧ e' = e then _ else _) = _
    rw [if_neg (by rintro ⟨rfl, rfl⟩; rw [h] at hx; simp at hx)]; exact hx⟩

theorem setTok_same (g : Ghost) (t e : Nat) (ti : TI) : (g.setTok t e ti).tok t e = some ti := by
  show (if t = t ∧ e = e then _ else _) = _
  rw [if_pos ⟨rfl, rfl⟩]

theorem setTok_other (g : Ghost) {t e t' e' : Nat} (ti : TI) (h : ¬ (t' = t ∧ e' = e)) : (g.setTok t e ti).tok t' e' = g.tok t' e' := by
  show (if t' = t ∧ e' = e then _ else _) = _
  rw [if_neg h]

/-- A new token. -/
theorem Rep.new_tok {n0 : Nat} {w0 : World} {gl : Nat → List AV} (hr : Rep n0 w0 gl g H w) (sz e : Nat) (ti : TI) (ht : ti.spare = 0 ∨ ∃ cs T fz, n0 ≤ ti.b ∧ w.heap[ti.b]? = some (.cells cs T fz) ∧ ti.pos + ti.spare * sz ≤ cs.size ∧
      (∀ k, ti.pos ≤ k → k < ti.pos + ti.spare * sz → ¬ (fz.1 ≤ k ∧ k < fz.2)) ∧ ∀ o, ti.pos ≤ o → g.K ti.b o = none) (hfree : ti.spare ≠ 0 → ∀ i, own g H i ≠ some ti.b) :
    Rep n0 w0 gl ((g.push 0).setTok H.length e ti) (H ++ [.tail sz e]) w ∧ GLe g ((g.push 0).setTok H.length e ti) := by
  have hnone : ∀ e', (g.push 0).tok H.length e' = none := fun e' => hr.beyond _ _ (Nat.le_refl _)
  have le : GLe g ((g.push 0).setTok H.length e ti) := (g.push_le 0).trans ((g.push 0).setTok_le ti (hnone e))
  have hown : ∀ i, i < H.length → own ((g.push 0).setTok H.length e ti) (H ++ [.tail sz e]) i = own g H i := by
    intro i hi
    unfold own
    rw [List.getElem?_append_left hi]
    have hp : ((g.push 0).setTok H.length e ti).phi[i]? = g.phi[i]? := by
      show (g.phi ++ [0])[i]? = _
      rw [List.getElem?_append_left (by rw [hr.len]; exact hi)]
    cases hH : H[i]? with
    | none => rfl
    | some x =>
      cases x <;> first | rfl | exact hp | skip
      all_goals
        simp only
        rw [setTok_other _ _ (by omega)]; rfl
  have hown2 : ∀ {i b : Nat}, own ((g.push 0).setTok H.length e ti) (H ++ [.tail sz e]) i = some b → H.length ≤ i → i = H.length ∧ b = ti.b ∧ ti.spare ≠ 0 := by
    intro i b hb hi
    by_cases hi' : i = H.length
    · subst hi'
      unfold own at hb
      rw [List.getElem?_append_right (Nat.le_refl _), Nat.sub_self] at hb
      simp only [List.getElem?_cons_zero, setTok_same] at hb
      split at hb
      · simp at hb
      · rename_i hs; injection hb with hb; exact ⟨rfl, hb.symm, hs⟩
    · unfold own at hb
      rw [List.getElem?_eq_none (by simp; omega)] at hb
      simp at hb
  refine ⟨⟨hr.below, hr.n0le, hr.know, by show (g.phi ++ [0]).length = _; simp [hr.len], fun t e' h => ?_, fun i o h => ?_, fun i j b hi hj => ?_, fun i => (hr.glob i).mono le⟩, le⟩
  · simp at h
    rw [setTok_other _ _ (by omega)]
    exact hr.beyond t e' (by omega)
  · by_cases hi : i < H.length
    · rw [List.getElem?_append_left hi] at h
      exact ORep.frame h (hr.objs i o h) le (fun _ _ => rfl) (fun _ _ _ h => h) (fun e' h => by rw [setTok_other _ _ (by omega)]; exact h)
    · rw [List.getElem?_append_right (by omega)] at h
      have : i = H.length := by
        have := (List.getElem?_eq_some_iff.1 h).1
        simp at this; omega
      subst this
      rw [Nat.sub_self] at h
      simp at h
      subst h
      exact ⟨ti, setTok_same _ _ _ _, fun e' he => by rw [setTok_other _ _ (by omega)]; exact hnone e', ht⟩
  · by_cases hi' : i < H.length
    · rw [hown i hi'] at hi
      by_cases hj' : j < H.length
      · rw [hown j hj'] at hj
        exact hr.apart i j b hi hj
      · obtain ⟨_, this, hs⟩ := hown2 hj (by omega)
        subst this
        exact absurd hi (hfree hs i)
    · obtain ⟨h1, h1', hs⟩ := hown2 hi (by omega)
      by_cases hj' : j < H.length
      · rw [hown j hj'] at hj
        rw [h1'] at hj
        exact absurd hj (hfree hs j)
      · have h2 := (hown2 hj (by omega)).1
        omega

end Go.Ab

/- The abstract view, 11: operations that make or turn memory are sound. -/
set_option linter.unusedVariables false
set_option linter.unusedSimpArgs false
namespace Go.Ab
open Go Go.RowKit

variable {E : Env} {g : Ghost} {H : List AO} {w w' : World} {a : AAct} {a' : Act}

theorem parts_rel (hr : E.Rep g H w) (ha : ARel g a a') (parts : Array (Nat × Operand)) :
    ((parts.map fun (i, x) => (i, a'.eval x)).toList).length = (evParts a E.gl parts).length ∧ ∀ (k i : Nat) (v : AV), (evParts a E.gl parts)[k]? = some (i, v) → ∃ c, ((parts.map fun (i, x) => (i, a'.eval x)).toList)[k]? = some (i, c) ∧ VRel g v c := by
  refine ⟨by simp [evParts], fun k i v h => ?_⟩
  simp only [evParts, List.getElem?_map, Array.getElem?_toList] at h
  cases hp : parts[k]? with
  | none => rw [hp] at h; simp at h
  | some p =>
    rw [hp] at h; simp only [Option.map_some] at h; injection h with h; injection h with h1 h2
    subst h1; subst h2
    exact ⟨a'.eval p.2, by simp [hp], ev_rel hr ha p.2⟩

theorem mapM_places {fields : Array Field} {fs : List (Nat × TypeId)} (hsz : fields.size = fs.length) (hf : ∀ (i : Nat) (f : Field), fields[i]? = some f → fs[i]? = some (f.offset, f.type)) (hall : fs.all (fun f => (E.ty f.2).isSome) = true) :
    ∃ places : Array (Nat × Nat), (fields.mapM (m := Sem) fun f => do pure (f.offset, ← sizeOf f.type)).run E.P w = .ok places w ∧ ∀ i x, structPlace E fs i = some x → places[i]? = some x := by
  have key : ∀ (l : List Field), (∀ f ∈ l, (E.ty f.type).isSome = true) → (l.mapM (m := Sem) fun f => do pure (f.offset, ← sizeOf f.type)).run E.P w = .ok (l.map fun f => (f.offset, ((E.ty f.type).map (·.size)).getD 0)) w := by
    intro l
    induction l with
    | nil => intro _; rfl
    | cons f l ih =>
      intro h
      have hf := h f (by simp)
      cases ht : E.ty f.type with
      | none => rw [ht] at hf; simp at hf
      | some i =>
        simp only [List.mapM_cons, Sem.run_bind, sizeOf_run ht, Result.andThen_ok, Sem.run_pure, ih (fun f hf => h f (by simp [hf])), List.map_cons, ht]
        rfl
  have hmem : ∀ f ∈ fields.toList, (E.ty f.type).isSome = true := by
    intro f hfm
    obtain ⟨k, hk, rfl⟩ := List.getElem_of_mem hfm
    have hk' : k < fields.size := by simpa using hk
    have := hf k fields[k] (Array.getElem?_eq_getElem hk')
    have hm := List.mem_of_getElem? this
    have := List.all_eq_true.1 hall _ hm
    simpa using this
  refine ⟨(fields.toList.map fun f => (f.offset, ((E.ty f.type).map (·.size)).getD 0)).toArray, ?_, ?_⟩
  · rw [Array.mapM_eq_mapM_toList, Sem.run_map, key _ hmem]
    rfl
  · intro i x h
    unfold structPlace at h
    split at h
    · rename_i off ft he
      cases ht : E.ty ft with
      | none => rw [ht] at h; simp at h
      | some j =>
        rw [ht] at h; simp only [Option.map_some] at h; injection h with h; subst h
        have hlt : i < fields.size := by rw [hsz]; exact (List.getElem?_eq_some_iff.1 he).1
        have h2 := hf i fields[i] (Array.getElem?_eq_getElem hlt)
        rw [he] at h2; injection h2 with h2; injection h2 with h3 h4
        subst h3; subst h4
        simp [hlt, ht]
    · simp at h

theorem build_sound (hr : E.Rep g H w) (ha : ARel g a a') {t : TypeId} {parts : Array (Nat × Operand)} {v : AV} (h : evBuild E a t parts = some v) : Gives E.P g (Instr.build t (parts.map fun (i, x) => (i, a'.eval x))) w v := by
  unfold evBuild at h
  split at h
  · rename_i i ht
    obtain ⟨d, hd, hu⟩ := und_of ht
    obtain ⟨z, hz, hzr, hz1, hz2, hz3⟩ := zero_rel ht w
    obtain ⟨hpl, hpv⟩ := parts_rel hr ha parts
    have hzs : VRels g i.zero z.cells := ⟨by omega, fun k => hz3 g k⟩
    unfold Gives Instr.build
    simp only [Sem.run_bind, hz, Result.andThen_ok, run_und hd]
    split at h
    · rename_i fs hui
      rw [hui] at hu; obtain ⟨fields, rfl, hsz, hf, _⟩ := hu
      split at h
      · rename_i hall
        obtain ⟨places, hp1, hp2⟩ := mapM_places (w := w) hsz hf hall
        cases he : evFill (structPlace E fs) i.zero (evParts a E.gl parts) with
        | none => rw [he] at h; simp at h
        | some ys =>
          rw [he] at h; simp only [Option.map_some] at h; injection h with h; subst h
          obtain ⟨ds, e1, e2, e3⟩ := fill_sound (place' := fun i => places[i]?) hp2 _ _ hpl hpv _ _ hzs _ he
          simp only [Sem.run_bind, hp1, Result.andThen_ok, e1]
          exact ⟨_, rfl, .agg _ _ e2.1 e2.2⟩
      · simp at h
    · rename_i n e hui
      rw [hui] at hu; simp only [URel] at hu; subst hu
      split at h
      · rename_i j hj
        cases he : evFill (fun k => some (k * j.size, j.size)) i.zero (evParts a E.gl parts) with
        | none => rw [he] at h; simp at h
        | some ys =>
          rw [he] at h; simp only [Option.map_some] at h; injection h with h; subst h
          obtain ⟨ds, e1, e2, e3⟩ := fill_sound (place' := fun k => some (k * j.size, j.size)) (fun _ _ h => h) _ _ hpl hpv _ _ hzs _ he
          simp only [Sem.run_bind, sizeOf_run hj, Result.andThen_ok, e1]
          exact ⟨_, rfl, .agg _ _ e2.1 e2.2⟩
      · simp at h
    · simp at h
  · simp at h

theorem rep_len (zs : List AV) (n : Nat) : (rep zs n).length = n * zs.length := by
  induction n with
  | zero => simp [rep]
  | succ n ih => simp [rep, ih, Nat.succ_mul]; omega

theorem rep_get (zs : List AV) (hz : 0 < zs.length) : ∀ (n k : Nat), k < n * zs.length → (rep zs n)[k]? = zs[k % zs.length]? := by
  intro n
  induction n with
  | zero => intro k h; simp at h
  | succ n ih =>
    intro k h
    simp only [rep]
    by_cases hk : k < zs.length
    · rw [List.getElem?_append_left hk, Nat.mod_eq_of_lt hk]
    · rw [List.getElem?_append_right (by omega), ih (k - zs.length) (by rw [Nat.succ_mul] at h; omega)]
      congr 1
      rw [Nat.mod_eq_sub_mod (by omega : k ≥ zs.length)]

theorem buildSlice_sound (hr : E.Rep g H w) (ha : ARel g a a') {t : TypeId} {n : Nat} {parts : Array (Nat × Operand)} {xs : List AV} (h : evBuildSlice E a t n parts = some xs) :
    ∃ (cs : Array Value) (T : TypeId), (Instr.buildSlice t n (parts.map fun (i, x) => (i, a'.eval x))).run E.P w = .ok (.slice (some ⟨w.heap.size, 0, none⟩) n n) (w.alloc (.cells cs T)) ∧ VRels g xs cs := by
  unfold evBuildSlice at h
  split at h
  · rename_i i ht
    obtain ⟨d, hd, hu⟩ := und_of ht
    split at h
    · rename_i e hui
      rw [hui] at hu; simp only [URel] at hu; subst hu
      split at h
      · rename_i j hj
        split at h
        · rename_i hb
          obtain ⟨z, hz, hzr, hz1, hz2, hz3⟩ := zero_rel hj w
          obtain ⟨hpl, hpv⟩ := parts_rel hr ha parts
          have hzs : VRels g (rep j.zero n) ((Array.range (n * j.size)).map (fun k => z.cells[k % z.cells.size]!)) := by
            refine ⟨by simp [rep_len, hz2], fun k => ?_⟩
            by_cases hk : k < n * j.size
            · have h1 := rep_get j.zero (by omega) n k (by rw [hz2]; exact hk)
              have h2 := hz3 g (k % j.zero.length)
              rw [List.getD_eq_getElem?_getD] at h2 ⊢
              rw [h1]
              have h3 : ((Array.range (n * j.size)).map (fun k => z.cells[k % z.cells.size]!)).getD k undef = z.cells.getD (k % j.zero.length) undef := by
                have hlt : k % z.cells.size < z.cells.size := Nat.mod_lt _ (by omega)
                rw [Array.getD_eq_getD_getElem?, Array.getElem?_map, Array.getElem?_range, if_pos hk]
                simp only [Option.map_some, Option.getD_some]
                rw [hz2, ← hz1]
                simp [Array.getD_eq_getD_getElem?, hlt]
              rw [h3]; exact h2
            · rw [List.getD_eq_getElem?_getD, List.getElem?_eq_none (by rw [rep_len, hz2]; omega)]; exact .top _
          obtain ⟨ds, e1, e2, e3⟩ := fill_sound (place' := fun k => some (k * j.size, j.size)) (fun _ _ h => h) _ _ hpl hpv _ _ hzs _ h
          refine ⟨ds, e, ?_, e2⟩
          unfold Instr.buildSlice
          simp only [Sem.run_bind, run_und hd, Result.andThen_ok, sizeOf_run hj]
          rw [if_neg (by omega)]
          by_cases hn : n * j.size = 0
          · simp only [hn, if_true, Sem.run_pure, Result.andThen_ok, Sem.run_bind]
            rw [hn] at e1
            have e0 : ∀ f : Nat → Value, (Array.range 0).map f = #[] := fun f => by simp
            simp only [e0] at e1 ⊢
            rw [e1]
            simp [newRow]
          · simp only [hn, if_false, Sem.run_pure, Result.andThen_ok, Sem.run_bind, hz]
            rw [e1]
            simp [newRow]
        · simp at h
      · simp at h
    · simp at h
  · simp at h

theorem own_set_other {i j : Nat} (hne : j ≠ i) {o : AO} : own g (H.set j o) i = own g H i := by
  unfold own
  rw [List.getElem?_set_ne hne]

/-- An object that is no row of cells is put in another's place, block for block. -/
theorem Rep.put {n0 : Nat} {w0 : World} {gl : Nat → List AV} (hr : Rep n0 w0 gl g H w) {id b : Nat} {o o2 : AO} {ob : Obj} {w' : World} (hH : H[id]? = some o) (hb : g.phi[id]? = some b)
    (ho : own g H id = some b) (ho2 : ∀ H' : List AO, H'[id]? = some o2 → own g H' id = some b) (hnc : ∀ c T fz, w.heap[b]? ≠ some (.cells c T fz)) (hw : w'.heap = w.heap.setIfInBounds b ob) (h1 : w'.os = w.os) (h2 : w'.tape = w.tape) (h3 : w'.output = w.output)
    (hn : ORep g n0 w' id o2) : Rep n0 w0 gl g (H.set id o2) w' := by
  obtain ⟨hlt, hn0⟩ := hr.own_lt ho
  have hid : id < H.length := (List.getElem?_eq_some_iff.1 hH).1
  have hold : ∀ k, k ≠ b → w'.heap[k]? = w.heap[k]? := fun k hk => by rw [hw, Array.getElem?_setIfInBounds_ne (by omega)]
  have hown : ∀ i, own g (H.set id o2) i = own g H i := by
    intro i
    by_cases e : id = i
    · subst e; rw [ho, ho2 _ (List.getElem?_set_self hid)]
    · exact own_set_other e
  refine ⟨⟨h1.trans hr.below.os, h2.trans hr.below.tape, h3.trans hr.below.output, by rw [hw]; simp; exact hr.below.size, fun k hk => (hold k (by omega)).trans (hr.below.block k hk)⟩, hr.n0le, fun b' o v h => ?_, by simp [hr.len], fun t e ht => hr.beyond t e (by simpa using ht), fun i o h => ?_, fun i j b' hi hj => ?_, hr.glob⟩
  · have hc := hr.know b' o v h
    have hne : b' ≠ b := by
      rintro rfl
      simp only [World.cell?] at hc
      first
        | (simp at hc; done)
        | (split at hc
           · rename_i c T fz he; exact hnc _ _ _ he
           · simp at hc)
    simpa [World.cell?, hold b' hne] using hc
  · by_cases e : id = i
    · subst e
      rw [List.getElem?_set_self hid] at h
      injection h with h; subst h; exact hn
    · rw [List.getElem?_set_ne e] at h
      refine ORep.frame h (hr.objs i o h) (GLe.refl g) (fun b' hb' => hold b' ?_) (fun _ _ _ h => h) (fun _ h => h)
      rintro rfl
      exact e (hr.apart _ _ _ ho hb')
  · rw [hown] at hi hj
    exact hr.apart i j b' hi hj

theorem copy_sound (hr : E.Rep g H w) {t t2 ty e : TypeId} (hd : E.P.underlying t = some (.slice e)) (hs : (E.P.info? e).map (·.size) = some 1) {id off n m : Nat} {ys : List AV} {tok : Tok} {c d : Value} (hx : VRel g (.msl id off n) c) (hy : VRel g (.sl m ys tok) d) (hlen : ys.length = m)
    {H2 : List AO} (hw : writeCells H (ys.take (min m n)) (.ref id off) = some H2) : ∃ w', (Builtin.copy_ #[t, t2] ty #[c, d]).run E.P w = .ok (goInt ((min m n : Nat) : Int)) w' ∧ E.Rep g H2 w' := by
  simp only [writeCells] at hw
  split at hw <;> try (simp at hw; done)
  rename_i xs hH
  split at hw <;> try (simp at hw; done)
  rename_i hle
  injection hw with hw; subst hw
  obtain ⟨b, arr, T, fz, h1, h2, h3, h4, h5, h6, h7⟩ := hr.objs _ _ hH
  cases hx with
  | msl _ _ _ b' off' cap hb hn ho =>
    rw [h1] at hb; injection hb with hb; subst hb
    have none_ : min m n = 0 → ∀ p cp, ∃ w', (Builtin.copy_ #[t, t2] ty #[.slice (some ⟨b, off', none⟩) n cap, .slice p m cp]).run E.P w = .ok (goInt ((min m n : Nat) : Int)) w' ∧ E.Rep g (H.set id (.cells (setRange xs off (ys.take (min m n))))) w' := by
      intro h0 p cp
      refine ⟨w, ?_, ?_⟩
      · rw [h0]
        exact run_copy_none w t t2 ty e _ _ _ _ _ _ hd hs h0
      · have e1 : setRange xs off (ys.take (min m n)) = xs := by rw [h0]; simp [setRange]
        rw [e1]
        have e2 : H.set id (.cells xs) = H := by
          apply List.ext_getElem?
          intro i
          by_cases e : id = i
          · subst e; rw [List.getElem?_set_self (List.getElem?_eq_some_iff.1 hH).1, hH]
          · rw [List.getElem?_set_ne e]
        rw [e2]; exact hr
    cases hy with
    | nsl => exact none_ (by simp) _ _
    | sl _ _ _ b2 o2 cap2 vs hn2 hk hv ht =>
      by_cases h0 : min m n = 0
      · exact none_ h0 _ _
      · obtain rfl : off' = off := by rcases ho with ho | ho <;> omega
        generalize hk0 : min m n = k at *
        have hkm : k ≤ ys.length := by omega
        have htl : (ys.take k).length = k := by rw [List.length_take]; omega
        rw [htl] at hle
        have hcs : ∀ i, VRel g ((ys.take k).getD i .top) (((List.range k).map vs).getD i undef) := by
          intro i
          by_cases hi : i < k
          · have := hv i
            simpa [List.getD_eq_getElem?_getD, List.getElem?_take, hi] using this
          · rw [List.getD_eq_getElem?_getD, List.getElem?_eq_none (by omega)]; exact .top _
        have hone : ∀ x ∈ (List.range k).map vs, x.oneCell' = true := by
          intro x hx
          obtain ⟨i, hi, rfl⟩ := List.getElem_of_mem hx
          have hi' : i < k := by simpa using hi
          have hrel := hcs i
          rw [List.getD_eq_getElem?_getD, List.getElem?_eq_getElem (by omega), List.getD_eq_getElem?_getD, List.getElem?_eq_getElem hi] at hrel
          exact one_rel hrel (List.all_eq_true.1 hle.2 _ (List.getElem_mem (by omega)))
        obtain ⟨w', r1, r2, r3, r4, r5, r6, r7⟩ := run_storeCells E.P (o := off') ((List.range k).map vs) 0 w arr h3 (by simp; omega) hone (fun i a c => h6 i (by simp at c; omega))
        have hload := loadCells_run (P := E.P) (w := w) (b := b2) (o := o2) (n := k) (vs := vs) (fun i hi => hr.know _ _ _ (hk i (by omega)))
        refine ⟨w', ?_, ?_⟩
        · cases hq : E.P.info? e with
          | none => simp [hq] at hs
          | some inf =>
            have hi : inf.size = 1 := by simpa [hq] using hs
            have hmin : Nat.min m n = k := hk0
            have hmin2 : Min.min m n = k := hk0
            simp [Builtin.copy_, run_underlying hd, Builtin.lenOf, Builtin.firstCells, sizeOf, typeInfo, hq, hi, hmin, hmin2, hload, r1]
        · rw [Nat.add_zero] at r2
          refine Rep.write hr hH (cs := arr) h1 r2 (by rw [setA_size, setRange_len _ _ _ (by rw [htl]; exact hle.1)]; exact h4) (setRange_rel (by rw [htl]; exact hle.1) h4 h5 (by simp [htl]) hcs) (fun i hi => h6 i (by rw [setRange_len _ _ _ (by rw [htl]; exact hle.1)] at hi; exact hi)) r3 r4 r5 r6 r7

theorem made_rel {e : TypeId} {j : TyI} (he : E.ty e = some j) (h0 : 0 < j.size) {z : Value} (hz1 : z.cells.size = j.size) (hz2 : j.zero.length = j.size) (hz : ∀ k, VRel g (j.zero.getD k .top) (z.cells.getD k undef)) {m N : Nat} (hN : N ≤ m) :
    ∀ k, VRel g ((rep j.zero N).getD k .top) ((madeCells z.cells (m * j.size)).getD k undef) := by
  intro k
  by_cases hk : k < N * j.size
  · have hkm : k < m * j.size := Nat.lt_of_lt_of_le hk (Nat.mul_le_mul_right _ hN)
    have hmod : k % j.size < j.size := Nat.mod_lt _ h0
    have h1 := rep_get j.zero (by omega) N k (by rw [hz2]; exact hk)
    rw [List.getD_eq_getElem?_getD, h1, hz2, ← List.getD_eq_getElem?_getD]
    have h2 : (madeCells z.cells (m * j.size)).getD k undef = z.cells.getD (k % j.size) undef := by
      unfold madeCells
      rw [Array.getD_eq_getD_getElem?, Array.getElem?_eq_getElem (by simpa using hkm)]
      simp only [Array.getElem_map, Array.getElem_range, Option.getD_some, hz1]
      rw [getElem!_pos z.cells (k % j.size) (by omega), Array.getD_eq_getD_getElem?, Array.getElem?_eq_getElem (by omega)]; rfl
    rw [h2]; exact hz _
  · rw [List.getD_eq_getElem?_getD, List.getElem?_eq_none (by rw [rep_len, hz2]; omega)]; exact .top _

theorem evHeap_sound {md : Nat → Nat} (hr : E.Rep g H w) (ha : ARel g a a') {o : Oper} {v : AV} {H' : List AO} (h : evHeap E md a H o = some (v, H')) : HGives E g (execOp a'.eval o) w v H' := by
  obtain ⟨dst, op, ty, pos, after, guard⟩ := o
  have ev := fun x => ev_rel hr ha x
  cases op <;> simp only [evHeap] at h <;> simp only [execOp] <;> try (simp at h; done)
  case alloc t =>
    split at h
    · rename_i i ht
      injection h with h; injection h with h1 h2; subst h1; subst h2
      obtain ⟨z, hz, hzr, hz1, hz2, hz3⟩ := zero_rel ht w
      obtain ⟨r1, r2⟩ := new_cells hr (Grew.alloc w (.cells z.cells t)) (xs := i.zero) (by omega) (fun k => hz3 g k) (fun k _ h => by simp at h)
      exact HGives.of_value (by simp [Instr.alloc, hz, newVar, newRow]) (g.push_le _) r1 (.ref _ _ _ r2)
    · simp at h
  case box t x =>
    split at h
    · rename_i i ht
      split at h
      · rename_i hc
        have hcr := cells_rel (ev x) (AV.ne_top hc.1)
        split at h
        · injection h with h; injection h with h1 h2; subst h1; subst h2
          have hg := Grew.alloc w (.cells (a'.eval x).cells t)
          obtain ⟨k1, k2⟩ := known_rel hr (cs := (a'.eval x).cells) (n := (a'.eval x).cells.size) (xs := cellsOf (a.ev E.gl x)) (by rw [hcr.1]; exact Nat.le_refl _) (Nat.le_refl _) hcr.2
          exact HGives.of_value (by simp [Instr.box, newVar, newRow]) (g.learn_le _ _) (hr.alloc_known hg _) (.row _ _ 0 _ k1 k2)
        · injection h with h; injection h with h1 h2; subst h1; subst h2
          obtain ⟨r1, r2⟩ := new_cells hr (Grew.alloc w (.cells (a'.eval x).cells t)) (xs := cellsOf (a.ev E.gl x)) (by rw [hcr.1]; exact Nat.le_refl _) hcr.2 (fun k _ h => by simp at h)
          exact HGives.of_value (by simp [Instr.box, newVar, newRow]) (g.push_le _) r1 (.ref _ _ _ r2)
      · simp at h
    · simp at h
  case build t parts =>
    cases hb : evBuild E a t parts with
    | none => rw [hb] at h; simp at h
    | some u =>
      rw [hb] at h; simp only [Option.map_some] at h; injection h with h; injection h with h1 h2; subst h1; subst h2
      obtain ⟨c, c1, c2⟩ := build_sound hr ha hb
      exact HGives.of_value c1 (GLe.refl g) hr c2
  case buildSlice t n parts =>
    split at h
    · rename_i xs hb
      obtain ⟨cs, T, c1, c2⟩ := buildSlice_sound hr ha hb
      have hg := Grew.alloc w (.cells cs T)
      split at h
      · injection h with h; injection h with h1 h2; subst h1; subst h2
        obtain ⟨r1, r2⟩ := new_cells hr hg (xs := xs) (by rw [c2.1]; exact Nat.le_refl _) c2.2 (fun k _ h => by simp at h)
        exact HGives.of_value c1 (g.push_le _) r1 (.msl _ _ _ _ _ _ r2 (Nat.le_refl _) (.inr rfl))
      · injection h with h; injection h with h1 h2; subst h1; subst h2
        obtain ⟨k1, k2⟩ := known_rel hr (cs := cs) (n := cs.size) (xs := xs) (by rw [c2.1]; exact Nat.le_refl _) (Nat.le_refl _) c2.2
        exact HGives.of_value c1 (g.learn_le _ _) (hr.alloc_known hg _) (.sl _ _ _ _ 0 _ _ (Nat.le_refl _) k1 k2 (by show n - n = 0; omega))
    · simp at h
  case store t p x =>
    split at h
    · rename_i i ht
      split at h
      · rename_i hc
        cases hw : writeCells H (cellsOf (a.ev E.gl x)) (a.ev E.gl p) with
        | none => rw [hw] at h; simp at h
        | some H2 =>
          rw [hw] at h; simp only [Option.map_some] at h; injection h with h; injection h with h1 h2; subst h1; subst h2
          obtain ⟨w', s1, s2⟩ := store_sound hr ht (ev p) (ev x) (AV.ne_top hc.1) hc.2 hw
          exact ⟨.skip, w', g, by rw [Sem.run_bind, s1]; rfl, GLe.refl g, s2, .inr ⟨rfl, rfl⟩⟩
      · simp at h
    · simp at h
  case convert src dst x =>
    split at h
    · rename_i i j s hsi hdj hxe
      have hx := ev x
      rw [hxe] at hx
      obtain ⟨ds, hds, hus⟩ := und_of hsi
      obtain ⟨dd, hdd, hud⟩ := und_of hdj
      split at h
      · rename_i e hui huj
        rw [hui] at hus; rw [huj] at hud; simp only [URel] at hus hud; subst hus; subst hud
        split at h
        · rename_i y1 y2 y3 he
          obtain ⟨de, hde, hue⟩ := und_of he
          simp only [URel] at hue; subst hue
          have hrun := Lib.run_convert_string_bytes (P := E.P) w src dst e ⟨s.toArray⟩ hds hdd hde
          rw [← hx.str_inv] at hrun
          have hg := bytesWorld_grew w e ⟨s.toArray⟩
          obtain ⟨b1, b2⟩ := bytes_rel (g := g) w e ⟨s.toArray⟩
          have hs2 : (⟨s.toArray⟩ : ByteArray).data.toList = s := by simp
          rw [hs2] at b1 b2
          have hsz : (⟨s.toArray⟩ : ByteArray).size = s.length := by simp [ByteArray.size]
          have hcap : s.length ≤ grownCap w (⟨s.toArray⟩ : ByteArray).size 0 e := by have := grownCap_ge w (⟨s.toArray⟩ : ByteArray).size 0 e; omega
          rw [hsz] at hrun
          rw [hsz] at hcap
          split at h
          · injection h with h; injection h with h1 h2; subst h1; subst h2
            obtain ⟨r1, r2⟩ := new_cells hr hg (xs := bytesAV s) b2 b1 (fun k hk h => by simp at h; omega)
            exact HGives.of_value hrun (g.push_le _) r1 (.msl _ _ _ _ _ _ r2 hcap (.inr rfl))
          split at h
          · injection h with h; injection h with h1 h2; subst h1; subst h2
            have hfree : ∀ i, own g H i ≠ some w.heap.size := fun i hi => absurd (hr.own_lt hi).1 (by omega)
            have bl : (bytesAV s).length = s.length := by simp [bytesAV]
            have hcs : (Lib.bytesCells w e ⟨s.toArray⟩).size = grownCap w s.length 0 e := by
              simp only [Lib.bytesCells, Array.size_append, Array.size_map, Array.size_replicate, hsz]
              have : (⟨s.toArray⟩ : ByteArray).data.size = s.length := by simp
              rw [this]; omega
            obtain ⟨k1, k2⟩ := known_rel hr (cs := Lib.bytesCells w e ⟨s.toArray⟩) (n := s.length) (xs := bytesAV s) (by rw [bl]; exact Nat.le_refl _) (by rw [bl] at b2; exact b2) b1
            have r1 := hr.alloc_known hg s.length
            obtain ⟨q1, q2⟩ := Rep.new_tok r1 1 s.length ⟨w.heap.size, s.length, grownCap w s.length 0 e - s.length⟩
              (.inr ⟨_, _, _, Nat.le_trans hr.n0le hr.below.size, hg.new, by rw [hcs]; simp only; omega, fun k _ hk2 => by rw [hcs]; simp only at hk2; omega, fun o ho => by
                show (if w.heap.size = w.heap.size then (match g.K w.heap.size o with | some v => some v | none => _) else _) = none
                rw [if_pos rfl]
                cases hk : g.K w.heap.size o with
                | some u => exact absurd (hr.K_lt hk) (by omega)
                | none => simp only; rw [if_neg (by simp only at ho; omega)]⟩)
              (fun _ => hfree)
            refine HGives.of_value hrun ((g.learn_le _ _).trans q2) q1 (.sl _ _ _ _ 0 _ _ hcap (fun i hi => q2.K _ _ _ (k1 i hi)) (fun i => (k2 i).mono q2) ⟨_, setTok_same _ _ _ _, ?_, .inr ⟨rfl, ?_⟩⟩)
            · rfl
            · rw [bl, Nat.zero_add]
          · injection h with h; injection h with h1 h2; subst h1; subst h2
            obtain ⟨k1, k2⟩ := known_rel hr (cs := Lib.bytesCells w e ⟨s.toArray⟩) (n := (Lib.bytesCells w e ⟨s.toArray⟩).size) (xs := bytesAV s) b2 (Nat.le_refl _) b1
            exact HGives.of_value hrun (g.learn_le _ _) (hr.alloc_known hg _) (.sl _ _ _ _ 0 _ _ hcap k1 k2 trivial)
        · simp at h
      · simp at h
    · rename_i i j id n hsi hdj hxe
      have hx := ev x
      rw [hxe] at hx
      obtain ⟨ds, hds, hus⟩ := und_of hsi
      obtain ⟨dd, hdd, hud⟩ := und_of hdj
      split at h
      · rename_i e' e hui huj
        rw [hui] at hus; rw [huj] at hud; simp only [URel] at hus hud; subst hus; subst hud
        split at h
        · rename_i hsd
          subst hsd
          have hdd2 := hdd
          rw [hds] at hdd2; injection hdd2 with hdd2; injection hdd2 with hdd2; subst hdd2
          split at h
          · rename_i y1 y2 y3 xs he hH
            obtain ⟨de, hde, hue⟩ := und_of he
            simp only [URel] at hue; subst hue
            split at h
            · rename_i hlen
              obtain ⟨hlen, hpos⟩ := hlen
              injection h with h; injection h with h1 h2; subst h1; subst h2
              generalize a'.eval x = u at hx ⊢
              cases hx with
              | msl _ _ _ b off' cap hb hn ho =>
                obtain rfl : off' = 0 := by rcases ho with h | h <;> omega
                obtain ⟨b', cs, T, fz, p1, p2, p3, p4, p5, p6, p7⟩ := hr.objs _ _ hH
                rw [hb] at p1; injection p1 with p1; subst p1
                obtain ⟨w2, q1, ⟨fz2, q2⟩, q3, q4, q5, q6, q7⟩ := run_markStringish (P := E.P) (o := 0) p3
                have hrun : (convert src src (.slice (some ⟨b, 0, none⟩) n cap)).run E.P w = .ok (.slice (some ⟨b, 0, none⟩) n cap) w2 := by
                  unfold convert
                  simp only [Sem.run_bind, run_und hds, run_und hdd, run_und hde, Result.andThen_ok]
                  simp only [beq_self_eq_true, Sem.run_bind, q1, Result.andThen_ok, Sem.run_pure]
                have hR := Rep.know_cells hr hH hb p3 q2 q3 q4 q5 q6 q7
                refine HGives.of_value hrun (g.learn_le _ _) hR (.sl _ _ _ _ 0 _ (fun k => cs.getD k undef) hn ?_ (fun k => (p5 k).mono (g.learn_le _ _)) trivial)
                intro k hk
                rw [Nat.zero_add]
                show (if b = b then (match g.K b k with | some v => some v | none => if k < xs.length then cs[k]? else none) else g.K b k) = _
                rw [if_pos rfl, p7 k]
                simp only
                rw [if_pos hk, Array.getElem?_eq_getElem (by omega), Array.getD_eq_getD_getElem?, Array.getElem?_eq_getElem (by omega)]; rfl
            · simp at h
          · simp at h
        · simp at h
      · simp at h
    · simp at h
  case makeSlice t l c =>
    split at h
    · rename_i i q n q2 m ht hle hce
      have hl := ev l
      have hc := ev c
      rw [hle] at hl; rw [hce] at hc
      split at h
      · rename_i e hu0
        split at h
        · rename_i j he
          split at h
          · rename_i hcond
            obtain ⟨c1, c2, c3, c4, c5⟩ := hcond
            obtain ⟨d, hd, hu⟩ := und_of ht
            rw [hu0] at hu; simp only [URel] at hu; subst hu
            obtain ⟨z, inf, p1, p2, p3, p4, p5, p6, _, _, p9⟩ := (E.ok e j he).info
            have hrun := run_make (P := E.P) w t e inf z hd p1 p2 q q2 n m c1 c2 (by rw [p4]; omega) (by omega)
            rw [← hl.int_inv, ← hc.int_inv, p3] at hrun
            have hg := Grew.alloc w (.cells (madeCells z.cells (m.toNat * j.size)) e)
            have hcsz : (madeCells z.cells (m.toNat * j.size)).size = m.toNat * j.size := size_madeCells _ _
            have hnm : n.toNat ≤ m.toNat := by omega
            have hrl : ∀ N, (rep j.zero N).length = N * j.size := fun N => by rw [rep_len, p6]
            split at h
            · injection h with h; injection h with h1 h2; subst h1; subst h2
              obtain ⟨r1, r2⟩ := new_cells hr hg (xs := rep j.zero m.toNat) (by rw [hrl, hcsz]; exact Nat.le_refl _) (made_rel he c3 p5 p6 (p9 g) (Nat.le_refl _)) (fun k hk h => by simp at h)
              exact HGives.of_value hrun (g.push_le _) r1 (.msl _ _ _ _ _ _ r2 hnm (.inr rfl))
            · have hrel := made_rel (g := g) he c3 p5 p6 (p9 g) hnm
              have hle2 : (rep j.zero n.toNat).length ≤ (madeCells z.cells (m.toNat * j.size)).size := by rw [hrl, hcsz]; exact Nat.mul_le_mul_right _ hnm
              split at h
              · injection h with h; injection h with h1 h2; subst h1; subst h2
                have hfree : ∀ i, own g H i ≠ some w.heap.size := fun i hi => absurd (hr.own_lt hi).1 (by omega)
                obtain ⟨k1, k2⟩ := known_rel hr (cs := madeCells z.cells (m.toNat * j.size)) (n := n.toNat * j.size) (xs := rep j.zero n.toNat) (by rw [hrl]; exact Nat.le_refl _) (by rw [hrl] at hle2; exact hle2) hrel
                have r1 := hr.alloc_known hg (n.toNat * j.size)
                have hsp : n.toNat * j.size + (m.toNat - n.toNat) * j.size = m.toNat * j.size := by rw [← Nat.add_mul]; congr 1; omega
                obtain ⟨q1, q2⟩ := Rep.new_tok r1 j.size n.toNat ⟨w.heap.size, n.toNat * j.size, m.toNat - n.toNat⟩
                  (.inr ⟨_, _, _, Nat.le_trans hr.n0le hr.below.size, hg.new, by rw [hcsz]; simp only; omega, fun k _ hk2 => by simp, fun o ho => by
                    show (if w.heap.size = w.heap.size then (match g.K w.heap.size o with | some v => some v | none => _) else _) = none
                    rw [if_pos rfl]
                    cases hk : g.K w.heap.size o with
                    | some u => exact absurd (hr.K_lt hk) (by omega)
                    | none => simp only; rw [if_neg (by simp only at ho; omega)]⟩)
                  (fun _ => hfree)
                refine HGives.of_value hrun ((g.learn_le _ _).trans q2) q1 (.sl _ _ _ _ 0 _ _ hnm (fun i hi => q2.K _ _ _ (k1 i hi)) (fun i => (k2 i).mono q2) ⟨_, setTok_same _ _ _ _, rfl, .inr ⟨rfl, ?_⟩⟩)
                rw [hrl, Nat.zero_add]
              · injection h with h; injection h with h1 h2; subst h1; subst h2
                obtain ⟨k1, k2⟩ := known_rel hr (cs := madeCells z.cells (m.toNat * j.size)) (n := (madeCells z.cells (m.toNat * j.size)).size) (xs := rep j.zero n.toNat) hle2 (Nat.le_refl _) hrel
                exact HGives.of_value hrun (g.learn_le _ _) (hr.alloc_known hg _) (.sl _ _ _ _ 0 _ _ hnm k1 k2 trivial)
          · simp at h
        · simp at h
      · simp at h
    · simp at h
  case call c =>
    split at h
    · rename_i hcal
      split at h
      · rename_i x y t t2 hargs htys
        split at h
        · rename_i i ht
          split at h
          · rename_i e hu0
            split at h
            · rename_i j he
              split at h
              · rename_i id off n m ys tok hxe hye
                split at h
                · rename_i hcond
                  cases hw : writeCells H (ys.take (min m n)) (.ref id off) with
                  | none => rw [hw] at h; simp at h
                  | some H2 =>
                    rw [hw] at h; simp only [Option.map_some] at h; injection h with h; injection h with h1 h2; subst h1; subst h2
                    have hx := ev x
                    have hy := ev y
                    rw [hxe] at hx; rw [hye] at hy
                    obtain ⟨d, hd, hu⟩ := und_of ht
                    rw [hu0] at hu; simp only [URel] at hu; subst hu
                    obtain ⟨z, inf, p1, _, p3, _⟩ := (E.ok e j he).info
                    obtain ⟨w', s1, s2⟩ := copy_sound hr (t2 := t2) (ty := ty) hd (by rw [p1]; simp [p3, hcond.1]) hx hy hcond.2 hw
                    refine ⟨.value (goInt ((min m n : Nat) : Int)), w', g, ?_, GLe.refl g, s2, .inl ⟨_, rfl, .int _ _⟩⟩
                    have toA : ∀ {α : Type} {xs : Array α} {l : List α}, xs.toList = l → xs = l.toArray := fun h => by subst h; simp
                    simp only [resolve, hcal, Sem.run_bind, Sem.run_pure, Result.andThen_ok, invoke, builtin, toA hargs, toA htys]
                    simp only [List.map_toArray, List.map_cons, List.map_nil]
                    rw [s1]; rfl
                · simp at h
              · simp at h
            · simp at h
          · simp at h
        · simp at h
      · simp at h
    · simp at h
  case range t x =>
    split at h
    · rename_i i s ht hxe
      have hx := ev x
      rw [hxe] at hx
      obtain ⟨d, hd, hu⟩ := und_of ht
      split at h
      · rename_i hui
        rw [hui] at hu; simp only [URel] at hu; subst hu
        injection h with h; injection h with h1 h2; subst h1; subst h2
        have hp : (g.push w.heap.size).phi[H.length]? = some w.heap.size := by
          show (g.phi ++ [w.heap.size])[H.length]? = _
          rw [← hr.len, List.getElem?_append_right (Nat.le_refl _), Nat.sub_self]; rfl
        have hg := Grew.alloc w (.stringIter ⟨s.toArray⟩ 0)
        refine HGives.of_value (w' := w.alloc (.stringIter ⟨s.toArray⟩ 0)) (c := .pointer (some ⟨w.heap.size, 0, none⟩)) ?_ (g.push_le _) (hr.alloc hg _ (by simp) ⟨w.heap.size, _, hp, Nat.le_trans hr.n0le hr.below.size, hg.new, by simp⟩) (.ref _ _ _ hp)
        rw [hx.str_inv]
        simp [Instr.range, run_und hd]
      · simp at h
    · simp at h
  case next it str =>
    cases str <;> simp only at h <;> try (simp at h; done)
    split at h
    · rename_i id hxe
      have hx := ev it
      rw [hxe] at hx
      split at h
      · rename_i s pos hH
        obtain ⟨b, t, h1, h2, h3, h4⟩ := hr.objs _ _ hH
        have ht : t = ⟨s.toArray⟩ := by cases t; simp at h4; subst h4; simp
        subst ht
        have hc : a'.eval it = .pointer (some ⟨b, 0, none⟩) := by
          generalize a'.eval it = u at hx
          cases hx with
          | ref _ _ b' e => rw [h1] at e; injection e with e; subst e; rfl
        have hsz : (⟨s.toArray⟩ : ByteArray).size = s.length := by simp [ByteArray.size]
        have hown : own g H id = some b := by unfold own; rw [hH]; exact h1
        have hget : (getObj b).run E.P w = .ok (.stringIter ⟨s.toArray⟩ pos) w := by simp [getObj, Sem.run, h3]
        split at h
        · rename_i hlt
          injection h with h; injection h with e1 e2; subst e1; subst e2
          have hset : (setObj b (.stringIter ⟨s.toArray⟩ (pos + (Utf8.decode ⟨s.toArray⟩ pos).2))).run E.P w = .ok () { w with heap := w.heap.setIfInBounds b (.stringIter ⟨s.toArray⟩ (pos + (Utf8.decode ⟨s.toArray⟩ pos).2)) } := by simp [setObj, Sem.run, h3]
          refine HGives.of_value (w' := { w with heap := w.heap.setIfInBounds b (.stringIter ⟨s.toArray⟩ (pos + (Utf8.decode ⟨s.toArray⟩ pos).2)) }) (c := .tuple #[.bool true, goInt pos, .int .i32 ((Utf8.decode ⟨s.toArray⟩ pos).1 : Nat)]) ?_ (GLe.refl g) (Rep.put hr hH h1 hown (fun H' hh => by unfold own; rw [hh]; exact h1) (fun c T fz => by rw [h3]; simp) rfl rfl rfl rfl ⟨b, ⟨s.toArray⟩, h1, h2, ?_, rfl⟩)
            (.tup _ _ rfl (fun k => match k with | 0 => .bool _ | 1 => .int _ _ | 2 => .int _ _ | _ + 3 => .top _))
          · rw [hc]
            simp only [Instr.next, Sem.run_bind, hget, Result.andThen_ok]
            rw [if_pos (by rw [hsz]; exact hlt), Sem.run_bind, hset]
            rfl
          · show (w.heap.setIfInBounds b _)[b]? = _
            rw [Array.getElem?_setIfInBounds_self, if_pos (Array.getElem?_eq_some_iff.1 h3).1]
        · rename_i hlt
          injection h with h; injection h with e1 e2; subst e1; subst e2
          refine HGives.of_value (w' := w) (c := .tuple #[.bool false]) ?_ (GLe.refl g) hr (.tup _ _ rfl (fun k => match k with | 0 => .bool _ | _ + 1 => .top _))
          rw [hc]
          simp only [Instr.next, Sem.run_bind, hget, Result.andThen_ok]
          rw [if_neg (by rw [hsz]; exact hlt)]
          rfl
      · simp at h
    · simp at h

end Go.Ab

/- The abstract view, 12: append. -/
set_option linter.unusedVariables false
set_option linter.unusedSimpArgs false
namespace Go.Ab
open Go Go.RowKit

variable {E : Env} {g : Ghost} {H : List AO} {w w' : World} {a : AAct} {a' : Act}

/-- What is appended: how many, their cells. -/
def srcCells (H : List AO) (size : Nat) : AV → Option (Nat × List AV)
  | .sl m ys _ => if ys.length = m * size then some (m, ys) else none
  | .str s => if size = 1 then some (s.length, bytesAV s) else none
  | .msl id off m => (readCells H (m * size) (.ref id off)).map fun ys => (m, ys)
  | .vsl id m => if 0 < m then (readCells H (m * size) (.eref id m 0)).map fun ys => (m, ys) else none
  | _ => none

def evAppend (E : Env) (H : List AO) (t : TypeId) (x y : AV) : Option (AV × List AO) :=
  match E.ty t with
  | some i => match i.u with
    | .sl e => match E.ty e with
      | some j => match x, srcCells H j.size y with
        | .sl n xs tok, some (m, ys) => if 0 < j.size ∧ xs.length = n * j.size ∧ ys.all AV.one = true ∧ 0 < j.bytes ∧ (n + m) * j.bytes ≤ 140737488355328 then
            match tok with
            | .full => some (.sl (n + m) (xs ++ ys) (.at H.length (n + m)), H ++ [.tail j.size (n + m)])
            | .at t' e' => match H[t']? with
              | some (.tail sz e2) => if e2 = e' ∧ sz = j.size then some (.sl (n + m) (xs ++ ys) (.at t' (e' + m)), H.set t' (.tail sz (e' + m))) else none
              | _ => none
            | .ro => none
          else none
        | .vsl id n, some (m, ys) => match H[id]? with
          | some (.vec sz k xs) => if k = n ∧ sz = j.size ∧ 0 < j.size ∧ ys.all AV.one = true ∧ 0 < j.bytes ∧ (n + m) * j.bytes ≤ 140737488355328 then some (.vsl id (n + m), H.set id (.vec sz (n + m) (xs ++ ys))) else none
          | _ => none
        | _, _ => none
      | none => none
    | _ => none
  | none => none

theorem run_firstCells0 {P : Program} {w2 : World} (size : Nat) (p : Option Addr) : (Builtin.firstCells size 0 (.slice p 0 0)).run P w2 = .ok #[] w2 := by
  cases p with
  | none => rfl
  | some a => simp only [Builtin.firstCells, Nat.zero_mul]; rfl

theorem src_run (hr : E.Rep g H w) {size m : Nat} {y : AV} {c : Value} {ys : List AV} (h : srcCells H size y = some (m, ys)) (hy : VRel g y c) :
    (∀ w2, (Builtin.lenOf c).run E.P w2 = .ok m w2) ∧ ys.length = m * size ∧ ∃ vs : List Value, vs.length = ys.length ∧ (∀ k, VRel g (ys.getD k .top) (vs.getD k undef)) ∧ ∀ w2 : World, w2.heap = w.heap → (Builtin.firstCells size m c).run E.P w2 = .ok vs.toArray w2 := by
  have cellw : ∀ {w2 : World}, w2.heap = w.heap → ∀ ad, w2.cell? ad = w.cell? ad := fun h ad => by simp [World.cell?, h]
  cases y <;> simp only [srcCells] at h <;> try (simp at h; done)
  case str s =>
    split at h
    · rename_i hs; injection h with h; injection h with h1 h2; subst h1; subst h2; subst hs
      rw [hy.str_inv]
      have hsz : (⟨s.toArray⟩ : ByteArray).size = s.length := by simp [ByteArray.size]
      refine ⟨fun w2 => by simp [Builtin.lenOf, ByteArray.size], by simp [bytesAV], s.map (fun b => .int .u8 b.toNat), by simp [bytesAV], fun k => ?_, fun w2 _ => ?_⟩
      · simp only [bytesAV, List.getD_eq_getElem?_getD, List.getElem?_map]
        cases s[k]? with
        | none => exact .top _
        | some x => exact .int _ _
      · simp only [Builtin.firstCells, Sem.run_pure]
        congr 1
        rw [ByteArray.data_extract]
        apply Array.ext'
        simp
    · simp at h
  case sl n xs tok =>
    split at h
    · rename_i hs; injection h with h; injection h with h1 h2; subst h1; subst h2
      cases hy with
      | nsl => exact ⟨fun w2 => rfl, hs, [], rfl, fun k => .top _, fun w2 _ => run_firstCells0 _ _⟩
      | sl _ _ _ b o cap vs hn hk hv ht =>
        refine ⟨fun w2 => rfl, hs, (List.range xs.length).map vs, by simp, fun k => ?_, fun w2 hw => ?_⟩
        · by_cases hk' : k < xs.length
          · have := hv k
            simpa [List.getD_eq_getElem?_getD, hk'] using this
          · rw [List.getD_eq_getElem?_getD, List.getElem?_eq_none (by omega)]; exact .top _
        · have := loadCells_run (P := E.P) (w := w2) (b := b) (o := o) (n := xs.length) (vs := vs) (fun i hi => by rw [cellw hw]; exact hr.know _ _ _ (hk i hi))
          simp only [Builtin.firstCells, ← hs]
          exact this
    · simp at h
  case msl id off n =>
    cases hrd : readCells H (n * size) (.ref id off) with
    | none => rw [hrd] at h; simp at h
    | some zs =>
      rw [hrd] at h; simp only [Option.map_some] at h; injection h with h; injection h with h1 h2; subst h1; subst h2
      cases hy with
      | msl _ _ _ b off' cap hp hn ho =>
        obtain ⟨b2, o2, vs, hc, hl, hcs, hvs⟩ := readCells_rel hr hrd (.ref id off b hp)
        injection hc with hc; injection hc with hc; injection hc with hc1 hc2 _; subst hc1; subst hc2
        refine ⟨fun w2 => rfl, hl, (List.range zs.length).map vs, by simp, fun k => ?_, fun w2 hw => ?_⟩
        · by_cases hk' : k < zs.length
          · have := hvs k
            simpa [List.getD_eq_getElem?_getD, hk'] using this
          · rw [List.getD_eq_getElem?_getD, List.getElem?_eq_none (by omega)]; exact .top _
        · have := loadCells_run (P := E.P) (w := w2) (b := b) (o := off') (n := zs.length) (vs := vs) (fun i hi => by
            rcases ho with ho | ho
            · subst ho; omega
            · subst ho; rw [cellw hw]; exact hcs i (by omega))
          simp only [Builtin.firstCells, ← hl]
          exact this

  case vsl id n =>
    split at h
    · rename_i hn0
      cases hrd : readCells H (n * size) (.eref id n 0) with
      | none => rw [hrd] at h; simp at h
      | some zs =>
        rw [hrd] at h; simp only [Option.map_some] at h; injection h with h; injection h with h1 h2; subst h1; subst h2
        cases hy with
        | vslN => omega
        | vslZ => omega
        | vsl _ _ ti ht h0 hn hs =>
          obtain ⟨b2, o2, vs, hc, hl, hcs, hvs⟩ := readCells_rel hr hrd (.eref id n 0 ti ht)
          injection hc with hc; injection hc with hc; injection hc with hc1 hc2 _; subst hc1; subst hc2
          refine ⟨fun w2 => rfl, hl, (List.range zs.length).map vs, by simp, fun k => ?_, fun w2 hw => ?_⟩
          · by_cases hk' : k < zs.length
            · have := hvs k
              simpa [List.getD_eq_getElem?_getD, hk'] using this
            · rw [List.getD_eq_getElem?_getD, List.getElem?_eq_none (by omega)]; exact .top _
          · have := loadCells_run (P := E.P) (w := w2) (b := ti.b) (o := 0) (n := zs.length) (vs := vs) (fun i hi => by rw [cellw hw]; exact hcs i (by omega))
            simp only [Builtin.firstCells, ← hl]
            exact this
    · simp at h

/-- append's two ways. -/
theorem append_run (P : Program) {t t2 ty e : TypeId} {d2 : TypeDesc} {i : TypeInfo} {z : Value} (ht : P.underlying t = some (.slice e)) (ht2 : P.underlying t2 = some d2) (hd2 : ∀ k, d2 ≠ .int k) (hi : P.info? e = some i) (hz : i.zero = some z)
    {base : Option Addr} {n cap m : Nat} {c : Value} {news olds : List Value} (hlen : ∀ w2, (Builtin.lenOf c).run P w2 = .ok m w2) (hnew : ∀ w2 : World, w2.heap = w.heap → (Builtin.firstCells i.size m c).run P w2 = .ok news.toArray w2)
    (hold : ∀ w2 : World, w2.heap = w.heap → (Builtin.firstCells i.size n (.slice base n cap)).run P w2 = .ok olds.toArray w2) (hb : 0 < i.bytes) (hfit : (n + m) * i.bytes ≤ 140737488355328) :
    (n + m ≤ cap → (Builtin.append_ #[t, t2] ty #[.slice base n cap, c]).run P w = ((match base with | some a => storeCells (a.add (n * i.size)) news | none => pure ()).run P w).andThen fun _ w' => .ok (.slice base (n + m) cap) w') ∧
    (cap < n + m → (Builtin.append_ #[t, t2] ty #[.slice base n cap, c]).run P w = .ok (.slice (some ⟨w.heap.size, 0, none⟩) (n + m) (grownCap w (n + m) cap e))
        (w.drew.alloc (.cells (olds.toArray ++ news.toArray ++ Builtin.zeroCells z.cells (grownCap w (n + m) cap e - (n + m))) e))) := by
  have hz0 : (match d2 with | .int _ => true | _ => false) = false := by cases d2 <;> first | rfl | exact absurd rfl (hd2 _)
  have hnm : n + m ≤ (n + m) * i.bytes := Nat.le_mul_of_pos_right _ hb
  constructor
  · intro h
    unfold Builtin.append_
    simp only [List.getElem?_toArray, List.getElem?_cons_zero, List.getElem?_cons_succ]
    simp only [Sem.run_bind, run_underlying ht, run_underlying ht2, Result.andThen_ok, Sem.run_pure, hz0, hlen, if_pos h, Bool.not_false, if_true, Bool.false_eq_true, if_false, hnew w rfl, sizeOf, typeInfo, hi, run_program]
    cases base <;> simp
  · intro h
    have h' : ¬ (n + m ≤ cap) := by omega
    have h63 : ¬ (9223372036854775807 < ((n : Int) + (m : Int))) := by omega
    have h48 : ¬ (281474976710656 < Builtin.nextslicecap (n + m) cap * i.bytes) := by have := growslice_fits h hfit; omega
    have hb0 : i.bytes ≠ 0 := by omega
    unfold Builtin.append_
    simp only [List.getElem?_toArray, List.getElem?_cons_zero, List.getElem?_cons_succ]
    simp [run_underlying ht, run_underlying ht2, hz0, hlen, h', h63, h48, hb0, hnew w.drew rfl, hold w.drew rfl, sizeOf, typeInfo, hi, hz, zeroValue, Question.forced, newRow, grownCap]
    congr 2
    apply Array.ext'
    simp [List.append_assoc]

/-- A token goes on to a later count. -/
theorem Rep.next_tok {n0 : Nat} {w0 : World} {gl : Nat → List AV} (hr : Rep n0 w0 gl g H w) {t sz e e2 : Nat} (hH : H[t]? = some (.tail sz e)) (hlt : e < e2) (ti : TI) (ht : ti.spare = 0 ∨ ∃ cs T fz, n0 ≤ ti.b ∧ w.heap[ti.b]? = some (.cells cs T fz) ∧ ti.pos + ti.spare * sz ≤ cs.size ∧
      (∀ k, ti.pos ≤ k → k < ti.pos + ti.spare * sz → ¬ (fz.1 ≤ k ∧ k < fz.2)) ∧ ∀ o, ti.pos ≤ o → g.K ti.b o = none) (hfree : ti.spare ≠ 0 → ∀ i, i ≠ t → own g H i ≠ some ti.b) :
    Rep n0 w0 gl (g.setTok t e2 ti) (H.set t (.tail sz e2)) w ∧ GLe g (g.setTok t e2 ti) := by
  obtain ⟨ti0, ho1, ho2, ho3⟩ := hr.objs _ _ hH
  have htl : t < H.length := (List.getElem?_eq_some_iff.1 hH).1
  have le : GLe g (g.setTok t e2 ti) := g.setTok_le ti (ho2 e2 hlt)
  have hown : ∀ i, i ≠ t → own (g.setTok t e2 ti) (H.set t (.tail sz e2)) i = own g H i := by
    intro i hi
    unfold own
    rw [List.getElem?_set_ne (by omega)]
    cases hHi : H[i]? with
    | none => rfl
    | some x =>
      cases x <;> first | rfl | skip
      all_goals
        simp only
        rw [setTok_other _ _ (by omega)]
  have hown2 : ∀ {b : Nat}, own (g.setTok t e2 ti) (H.set t (.tail sz e2)) t = some b → b = ti.b ∧ ti.spare ≠ 0 := by
    intro b hb
    unfold own at hb
    rw [List.getElem?_set_self htl] at hb
    simp only [setTok_same] at hb
    split at hb
    · simp at hb
    · rename_i hs; injection hb with hb; exact ⟨hb.symm, hs⟩
  refine ⟨⟨hr.below, hr.n0le, hr.know, by simp [hr.len]; exact hr.len, fun t' e' h => ?_, fun i o h => ?_, fun i j b hi hj => ?_, fun i => (hr.glob i).mono le⟩, le⟩
  · simp at h
    rw [setTok_other _ _ (by omega)]
    exact hr.beyond t' e' h
  · by_cases hi : t = i
    · subst hi
      rw [List.getElem?_set_self htl] at h
      injection h with h; subst h
      exact ⟨ti, setTok_same _ _ _ _, fun e' he => by rw [setTok_other _ _ (by omega)]; exact ho2 e' (by omega), ht⟩
    · rw [List.getElem?_set_ne hi] at h
      exact ORep.frame h (hr.objs i o h) le (fun _ _ => rfl) (fun _ _ _ h => h) (fun e' h => by rw [setTok_other _ _ (by omega)]; exact h)
  · by_cases hi' : i = t
    · subst hi'
      obtain ⟨this, hs⟩ := hown2 hi; subst this
      by_cases hj' : j = i
      · exact hj'.symm
      · rw [hown j hj'] at hj
        exact absurd hj (hfree hs j hj')
    · rw [hown i hi'] at hi
      by_cases hj' : j = t
      · subst hj'
        obtain ⟨this, hs⟩ := hown2 hj; subst this
        exact absurd hi (hfree hs i hi')
      · rw [hown j hj'] at hj
        exact hr.apart i j b hi hj

/-- Cells of a block that a token owns are written behind what is known, and known from now on. -/
theorem Rep.fill {n0 : Nat} {w0 : World} {gl : Nat → List AV} (hr : Rep n0 w0 gl g H w) {t sz e : Nat} (hH : H[t]? = some (.tail sz e)) {ti : TI} (htok : g.tok t e = some ti) (hsp : ti.spare ≠ 0) {cs arr : Array Value} {T : TypeId} {fz : Nat × Nat} (hcs : w.heap[ti.b]? = some (.cells cs T fz))
    {vs : List Value} (harr : arr = setA cs ti.pos vs) (hroom : ti.pos + vs.length ≤ cs.size) {w' : World} (hw : w'.heap[ti.b]? = some (.cells arr T fz)) (ho : ∀ k, k ≠ ti.b → w'.heap[k]? = w.heap[k]?) (h1 : w'.os = w.os) (h2 : w'.tape = w.tape) (h3 : w'.output = w.output) (h4 : w'.heap.size = w.heap.size)
    {k : Nat} (hk : k ≤ ti.spare) (hvs : vs.length = k * sz) (hk0 : 0 < k) :
    ∃ g', GLe g g' ∧ Rep n0 w0 gl g' (H.set t (.tail sz (e + k))) w' ∧ g'.tok t (e + k) = some ⟨ti.b, ti.pos + vs.length, ti.spare - k⟩ ∧ (∀ i v, vs[i]? = some v → g'.K ti.b (ti.pos + i) = some v) := by
  obtain ⟨ti0, ho1, ho2, ho3⟩ := hr.objs _ _ hH
  rw [htok] at ho1; injection ho1 with ho1; subst ho1
  rcases ho3 with ho3 | ⟨cs0, T0, fz0, hn0, hcs0, hroom0, hfz, hK⟩
  · exact absurd ho3 hsp
  rw [hcs] at hcs0; injection hcs0 with hcs0; injection hcs0 with e1 e2 e3; subst e1; subst e2; subst e3
  have htl : t < H.length := (List.getElem?_eq_some_iff.1 hH).1
  have hown : own g H t = some ti.b := by unfold own; rw [hH]; simp [htok, hsp]
  have hblt : ti.b < w.heap.size := (Array.getElem?_eq_some_iff.1 hcs).1
  have hgt : g.tok t (e + k) = none := ho2 _ (by omega)
  let gk : Ghost := { g with K := fun b o => if b = ti.b ∧ ti.pos ≤ o ∧ o < ti.pos + vs.length then vs[o - ti.pos]? else g.K b o }
  have lek : GLe g gk := by
    refine ⟨fun b o v h => ?_, fun _ _ h => h, fun _ _ _ h => h⟩
    show (if _ then _ else _) = _
    rw [if_neg (by rintro ⟨rfl, h1, h2⟩; rw [hK o h1] at h; simp at h)]; exact h
  let ti' : TI := ⟨ti.b, ti.pos + vs.length, ti.spare - k⟩
  have le2 : GLe gk (gk.setTok t (e + k) ti') := gk.setTok_le ti' hgt
  have le := lek.trans le2
  have hKother : ∀ b, b ≠ ti.b → ∀ o, (gk.setTok t (e + k) ti').K b o = g.K b o := by
    intro b hb o
    show (if _ then _ else _) = _
    rw [if_neg (by rintro ⟨rfl, _⟩; exact hb rfl)]
  have hownother : ∀ i, i ≠ t → own (gk.setTok t (e + k) ti') (H.set t (.tail sz (e + k))) i = own g H i := by
    intro i hi
    unfold own
    rw [List.getElem?_set_ne (by omega)]
    cases hHi : H[i]? with
    | none => rfl
    | some x =>
      cases x <;> first | rfl | skip
      all_goals
        simp only
        rw [setTok_other _ _ (by omega)]
  have hown2 : ∀ {b : Nat}, own (gk.setTok t (e + k) ti') (H.set t (.tail sz (e + k))) t = some b → b = ti.b := by
    intro b hb
    unfold own at hb
    rw [List.getElem?_set_self htl] at hb
    simp only [setTok_same] at hb
    split at hb
    · simp at hb
    · injection hb with hb; exact hb.symm
  have hmul : ti.spare * sz = k * sz + (ti.spare - k) * sz := by rw [← Nat.add_mul]; congr 1; omega
  refine ⟨gk.setTok t (e + k) ti', le, ⟨⟨h1.trans hr.below.os, h2.trans hr.below.tape, h3.trans hr.below.output, by rw [h4]; exact hr.below.size, fun i hi => (ho i (by omega)).trans (hr.below.block i hi)⟩, hr.n0le, fun b o v h => ?_, by simp; exact hr.len, fun t' e' h => ?_, fun i o h => ?_, fun i j b hi hj => ?_, fun i => (hr.glob i).mono le⟩, setTok_same _ _ _ _, fun i v hv => ?_⟩
  · by_cases hb : b = ti.b
    · subst hb
      rw [cell_of_heap hw, harr, setA_get]
      have h' : (if ti.b = ti.b ∧ ti.pos ≤ o ∧ o < ti.pos + vs.length then vs[o - ti.pos]? else g.K ti.b o) = some v := h
      by_cases ho' : ti.pos ≤ o ∧ o < ti.pos + vs.length
      · rw [if_pos ⟨rfl, ho'⟩] at h'
        rw [if_pos ⟨ho'.1, ho'.2, by omega⟩]; exact h'
      · rw [if_neg (by rintro ⟨_, h⟩; exact ho' h)] at h'
        rw [if_neg (by rintro ⟨a, b, _⟩; exact ho' ⟨a, b⟩)]
        have := hr.know _ _ _ h'
        rwa [cell_of_heap hcs] at this
    · rw [hKother b hb] at h
      have := hr.know _ _ _ h
      simpa [World.cell?, ho b hb] using this
  · simp at h
    rw [setTok_other _ _ (by omega)]
    exact hr.beyond t' e' h
  · by_cases hi : t = i
    · subst hi
      rw [List.getElem?_set_self htl] at h
      injection h with h; subst h
      refine ⟨ti', setTok_same _ _ _ _, fun e' he => by rw [setTok_other _ _ (by omega)]; exact ho2 e' (by omega), .inr ⟨arr, T, fz, hn0, hw, ?_, fun q hq1 hq2 => ?_, fun o hq => ?_⟩⟩
      · show ti.pos + vs.length + (ti.spare - k) * sz ≤ _
        rw [harr, setA_size, hvs]; omega
      · refine hfz q (by show ti.pos ≤ q; have : ti.pos + vs.length ≤ q := hq1; omega) ?_
        have : q < ti.pos + vs.length + (ti.spare - k) * sz := hq2
        omega
      · show (if ti.b = ti.b ∧ ti.pos ≤ o ∧ o < ti.pos + vs.length then vs[o - ti.pos]? else g.K ti.b o) = none
        have hq' : ti.pos + vs.length ≤ o := hq
        rw [if_neg (by omega)]
        exact hK o (by omega)
    · rw [List.getElem?_set_ne hi] at h
      refine ORep.frame h (hr.objs i o h) le (fun b hb => ho b ?_) (fun b hb o hko => ?_) (fun e' h => by rw [setTok_other _ _ (by omega)]; exact h)
      · rintro rfl; exact hi (hr.apart _ _ _ hown hb)
      · rw [hKother b (by rintro rfl; exact hi (hr.apart _ _ _ hown hb))]; exact hko
  · by_cases hi' : i = t
    · subst hi'
      have := hown2 hi; subst this
      by_cases hj' : j = i
      · exact hj'.symm
      · rw [hownother j hj'] at hj
        exact hr.apart _ _ _ hown hj
    · rw [hownother i hi'] at hi
      by_cases hj' : j = t
      · subst hj'
        have := hown2 hj; subst this
        exact (hr.apart _ _ _ hown hi).symm
      · rw [hownother j hj'] at hj
        exact hr.apart i j b hi hj
  · show (if ti.b = ti.b ∧ ti.pos ≤ ti.pos + i ∧ ti.pos + i < ti.pos + vs.length then vs[ti.pos + i - ti.pos]? else g.K ti.b (ti.pos + i)) = some v
    have hil : i < vs.length := (List.getElem?_eq_some_iff.1 hv).1
    rw [if_pos ⟨rfl, by omega, by omega⟩, Nat.add_sub_cancel_left]; exact hv

/-- The elements of a slice as a list of values. -/
theorem sl_cells (hr : E.Rep g H w) {n sz : Nat} {xs : List AV} {tok : Tok} {c : Value} (h : VRel g (.sl n xs tok) c) (hl : xs.length = n * sz) :
    ∃ base cap, c = .slice base n cap ∧ n ≤ cap ∧ ∃ olds : List Value, olds.length = xs.length ∧ (∀ k, VRel g (xs.getD k .top) (olds.getD k undef)) ∧ (∀ w2 : World, w2.heap = w.heap → (Builtin.firstCells sz n (.slice base n cap)).run E.P w2 = .ok olds.toArray w2) ∧
      ((base = base ∧ n = 0 ∧ xs = [] ∧ cap = 0 ∧ TokN g tok) ∨ ∃ b o, base = some ⟨b, o, none⟩ ∧ (∀ i, i < xs.length → g.K b (o + i) = some (olds.getD i undef)) ∧ TokOk g tok b (o + xs.length) (cap - n)) := by
  cases h with
  | nsl _ hn => exact ⟨_, 0, rfl, Nat.le_refl _, [], rfl, fun k => .top _, fun w2 _ => run_firstCells0 _ _, .inl ⟨rfl, rfl, rfl, rfl, hn⟩⟩
  | sl _ _ _ b o cap vs hn hk hv ht =>
    have hsrc := src_run (E := E) hr (size := sz) (m := n) (y := .sl n xs tok) (ys := xs) (by simp only [srcCells]; rw [if_pos hl]) (.sl n xs tok b o cap vs hn hk hv ht)
    refine ⟨_, cap, rfl, hn, (List.range xs.length).map vs, by simp, fun k => ?_, fun w2 hw => ?_, .inr ⟨b, o, rfl, fun i hi => ?_, ht⟩⟩
    · by_cases hk' : k < xs.length
      · have := hv k
        simpa [List.getD_eq_getElem?_getD, hk'] using this
      · rw [List.getD_eq_getElem?_getD, List.getElem?_eq_none (by omega)]; exact .top _
    · have := loadCells_run (P := E.P) (w := w2) (b := b) (o := o) (n := xs.length) (vs := vs) (fun i hi => by
        have := hr.know _ _ _ (hk i hi)
        simpa [World.cell?, hw] using this)
      simp only [Builtin.firstCells, ← hl]
      exact this
    · have := hk i hi
      simp [hi]; exact this

theorem ty_info {t : TypeId} {j : TyI} (h : E.ty t = some j) : ∃ z inf, E.P.info? t = some inf ∧ inf.zero = some z ∧ inf.size = j.size ∧ inf.bytes = j.bytes ∧ z.cells.size = j.size := by
  obtain ⟨z, inf, h1, h2, h3, h4, h5, _⟩ := (E.ok t j h).info
  exact ⟨z, inf, h1, h2, h3, h4, h5⟩

/-- A row that may grow goes on to a later count. -/
theorem Rep.next_vec {n0 : Nat} {w0 : World} {gl : Nat → List AV} (hr : Rep n0 w0 gl g H w) {id sz n n2 : Nat} {xs ys : List AV} (hH : H[id]? = some (.vec sz n xs)) (hlt : n < n2) (ti : TI) (hpos : ti.pos = 0) (hlen : ys.length = n2 * sz) (hle : n2 ≤ ti.spare)
    {cs : Array Value} {T : TypeId} {fz : Nat × Nat} (hn0 : n0 ≤ ti.b) (hw : w'.heap[ti.b]? = some (.cells cs T fz)) (hsz : cs.size = ti.spare * sz) (hy : ∀ k, VRel g (ys.getD k .top) (cs.getD k undef)) (hfz : ∀ k, k < cs.size → ¬ (fz.1 ≤ k ∧ k < fz.2)) (hK : ∀ o, g.K ti.b o = none)
    (hfree : ∀ i, i ≠ id → own g H i ≠ some ti.b) (ho : ∀ k, k ≠ ti.b → k < w.heap.size → w'.heap[k]? = w.heap[k]?) (h1 : w'.os = w.os) (h2 : w'.tape = w.tape) (h3 : w'.output = w.output) (h4 : w.heap.size ≤ w'.heap.size) :
    Rep n0 w0 gl (g.setTok id n2 ti) (H.set id (.vec sz n2 ys)) w' ∧ GLe g (g.setTok id n2 ti) := by
  obtain ⟨ti0, o1, o2, _⟩ := hr.objs _ _ hH
  have hid : id < H.length := (List.getElem?_eq_some_iff.1 hH).1
  have le : GLe g (g.setTok id n2 ti) := g.setTok_le ti (o2 n2 hlt)
  have hs : ti.spare ≠ 0 := by omega
  have hown : ∀ i, i ≠ id → own (g.setTok id n2 ti) (H.set id (.vec sz n2 ys)) i = own g H i := by
    intro i hi
    unfold own
    rw [List.getElem?_set_ne (by omega)]
    cases hHi : H[i]? with
    | none => rfl
    | some x =>
      cases x <;> first | rfl | skip
      all_goals
        simp only
        rw [setTok_other _ _ (by omega)]
  have hown2 : ∀ {b : Nat}, own (g.setTok id n2 ti) (H.set id (.vec sz n2 ys)) id = some b → b = ti.b := by
    intro b hb
    unfold own at hb
    rw [List.getElem?_set_self hid] at hb
    simp only [setTok_same, if_neg hs] at hb
    injection hb with hb; exact hb.symm
  have hn : n0 ≤ w.heap.size := Nat.le_trans hr.n0le hr.below.size
  refine ⟨⟨⟨h1.trans hr.below.os, h2.trans hr.below.tape, h3.trans hr.below.output, Nat.le_trans hr.below.size h4, fun k hk => (ho k (by omega) (by omega)).trans (hr.below.block k hk)⟩, hr.n0le, fun b o v h => ?_, by simp; exact hr.len, fun t e h => ?_, fun i o h => ?_, fun i j b hi hj => ?_, fun i => (hr.glob i).mono le⟩, le⟩
  · have h' : g.K b o = some v := h
    have hne : b ≠ ti.b := by rintro rfl; rw [hK] at h'; simp at h'
    have := hr.know b o v h'
    simpa [World.cell?, ho b hne (hr.K_lt h')] using this
  · simp at h
    rw [setTok_other _ _ (by omega)]
    exact hr.beyond t e h
  · by_cases e : id = i
    · subst e
      rw [List.getElem?_set_self hid] at h
      injection h with h; subst h
      exact ⟨ti, setTok_same _ _ _ _, fun e' he => by rw [setTok_other _ _ (by omega)]; exact o2 e' (by omega), hpos, hlen, hle, .inr ⟨cs, T, fz, hn0, hw, hsz, fun k => (hy k).mono le, hfz, hK⟩⟩
    · rw [List.getElem?_set_ne e] at h
      exact ORep.frame h (hr.objs i o h) le (fun b hb => ho b (fun hbb => hfree i (fun h => e h.symm) (by rw [← hbb]; exact hb)) (hr.own_lt hb).1) (fun _ _ _ h => h) (fun e' h => by rw [setTok_other _ _ (by omega)]; exact h)
  · by_cases hi' : i = id
    · subst hi'
      have := hown2 hi; subst this
      by_cases hj' : j = i
      · exact hj'.symm
      · rw [hown j hj'] at hj
        exact absurd hj (hfree j hj')
    · rw [hown i hi'] at hi
      by_cases hj' : j = id
      · subst hj'
        have := hown2 hj; subst this
        exact absurd hi (hfree i hi')
      · rw [hown j hj'] at hj
        exact hr.apart i j b hi hj

/-- append to a row that may grow. -/
theorem append_vec (hr : E.Rep g H w) {t t2 ty e : TypeId} {j : TyI} {d2 : TypeDesc} (hd : E.P.underlying t = some (.slice e)) (hj : E.ty e = some j) (hd2 : E.P.underlying t2 = some d2) (hd2' : ∀ k, d2 ≠ .int k) {id n m : Nat} {xs ys : List AV} {y : AV} {c d : Value} (hx : VRel g (.vsl id n) c) (hy : VRel g y d)
    (hsrc : srcCells H j.size y = some (m, ys)) (hH : H[id]? = some (.vec j.size n xs)) (hsz0 : 0 < j.size) (hone : ys.all AV.one = true) (hb0 : 0 < j.bytes) (hfit : (n + m) * j.bytes ≤ 140737488355328) :
    ∃ u w' g', (Builtin.append_ #[t, t2] ty #[c, d]).run E.P w = .ok u w' ∧ GLe g g' ∧ E.Rep g' (H.set id (.vec j.size (n + m) (xs ++ ys))) w' ∧ VRel g' (.vsl id (n + m)) u := by
  obtain ⟨z, inf, hinf, hz, hisz, hiby, hzs⟩ := ty_info hj
  obtain ⟨hlen, hyl, news, hnl, hnr, hnrun⟩ := src_run hr hsrc hy
  obtain ⟨ti, o1, o2, o3, o4, o5, o6⟩ := hr.objs _ _ hH
  have hid : id < H.length := (List.getElem?_eq_some_iff.1 hH).1
  have hnm : (n + m) * j.size = n * j.size + m * j.size := Nat.add_mul _ _ _
  -- the slice, and what it holds
  have hsl : ∃ base cap olds, c = .slice base n cap ∧ n ≤ cap ∧ cap = ti.spare ∧ olds.length = xs.length ∧ (∀ k, VRel g (xs.getD k .top) (olds.getD k undef)) ∧ (∀ w2 : World, w2.heap = w.heap → (Builtin.firstCells j.size n (.slice base n cap)).run E.P w2 = .ok (olds : List Value).toArray w2) ∧ (0 < cap → base = some ⟨ti.b, 0, none⟩) := by
    cases hx with
    | vslN _ ti2 ht hs =>
      rw [o1] at ht; injection ht with ht; subst ht
      have : xs = [] := by simp at o4; exact o4
      subst this
      exact ⟨_, 0, [], rfl, Nat.le_refl _, hs.symm, rfl, fun k => .top _, fun w2 _ => run_firstCells0 _ _, fun h => by omega⟩
    | vslZ _ ti2 b o ht hs =>
      rw [o1] at ht; injection ht with ht; subst ht
      have : xs = [] := by simp at o4; exact o4
      subst this
      refine ⟨_, 0, [], rfl, Nat.le_refl _, hs.symm, rfl, fun k => .top _, fun w2 _ => ?_, fun h => by omega⟩
      simp only [Builtin.firstCells, Nat.zero_mul]; rfl
    | vsl _ _ ti2 ht h0 hn hs =>
      rw [o1] at ht; injection ht with ht; subst ht
      rcases o6 with o6 | ⟨cs, T, fz, p1, p2, p3, p4, p5, p6⟩
      · omega
      · have hle2 : xs.length ≤ cs.size := by rw [p3, o4]; exact Nat.mul_le_mul_right _ o5
        refine ⟨_, ti.spare, cs.toList.take xs.length, rfl, hn, rfl, by simp; omega, fun k => ?_, fun w2 hw => ?_, fun _ => rfl⟩
        · by_cases hk : k < xs.length
          · have := p4 k
            simpa [List.getD_eq_getElem?_getD, List.getElem?_take, hk, Array.getD_eq_getD_getElem?] using this
          · rw [List.getD_eq_getElem?_getD, List.getElem?_eq_none (by omega)]; exact .top _
        · have := loadCells_run (P := E.P) (w := w2) (b := ti.b) (o := 0) (n := xs.length) (vs := fun i => cs.getD i undef) (fun i hi => by
            rw [show w2.cell? ⟨ti.b, 0 + i, none⟩ = w.cell? ⟨ti.b, 0 + i, none⟩ by simp [World.cell?, hw], cell_of_heap p2, Nat.zero_add]
            simp [Array.getD_eq_getD_getElem?, Array.getElem?_eq_getElem (show i < cs.size by omega)])
          simp only [Builtin.firstCells, ← o4]
          rw [this]
          congr 2
          apply List.ext_getElem (by simp; omega)
          intro i h1 h2
          simp at h1 h2
          simp [Array.getD_eq_getD_getElem?, show i < cs.size by omega]
  obtain ⟨base, cap, olds, rfl, hncap, hcap, hol, hor, horun, hbase⟩ := hsl
  obtain ⟨runA, runB⟩ := append_run (w := w) E.P (ty := ty) hd hd2 hd2' hinf hz (base := base) (n := n) (cap := cap) (m := m) (c := d) (news := news) (olds := olds) hlen
    (fun w2 hw => by rw [hisz]; exact hnrun w2 hw) (fun w2 hw => by rw [hisz]; exact horun w2 hw) (by omega) (by rw [hiby]; exact hfit)
  have hcat : ∀ k, VRel g ((xs ++ ys).getD k .top) ((olds ++ news).getD k undef) := by
    intro k
    simp only [List.getD_eq_getElem?_getD] at hor hnr ⊢
    by_cases hk : k < xs.length
    · rw [List.getElem?_append_left hk, List.getElem?_append_left (by omega)]; exact hor k
    · rw [List.getElem?_append_right (by omega), List.getElem?_append_right (by omega), hol]; exact hnr _
  by_cases hroom : n + m ≤ cap
  · have hrun := runA hroom
    by_cases hm : m = 0
    · subst hm
      have hys : ys = [] := List.eq_nil_of_length_eq_zero (by omega)
      have hnews : news = [] := List.eq_nil_of_length_eq_zero (by omega)
      subst hys; subst hnews
      have hrun' : (Builtin.append_ #[t, t2] ty #[.slice base n cap, d]).run E.P w = .ok (.slice base n cap) w := by
        rw [hrun]
        cases base <;> rfl
      have hset : H.set id (.vec j.size (n + 0) (xs ++ [])) = H := by
        apply List.ext_getElem?
        intro q
        by_cases hq : id = q
        · subst hq; rw [List.getElem?_set_self hid, hH]; simp
        · rw [List.getElem?_set_ne hq]
      rw [hset]
      exact ⟨_, w, g, hrun', GLe.refl g, hr, hx⟩
    · have hb := hbase (by omega)
      subst hb
      rcases o6 with o6 | ⟨cs, T, fz, p1, p2, p3, p4, p5, p6⟩
      · omega
      have hmul : (n + m) * j.size ≤ ti.spare * j.size := mul_le_of (by omega)
      have hs0 : ti.spare ≠ 0 := by omega
      have hnewone : ∀ x ∈ news, x.oneCell' = true := by
        intro q hq
        obtain ⟨k, hk, rfl⟩ := List.getElem_of_mem hq
        have hkl : k < ys.length := by omega
        have hrel := hnr k
        rw [List.getD_eq_getElem?_getD, List.getElem?_eq_getElem hkl, List.getD_eq_getElem?_getD, List.getElem?_eq_getElem hk] at hrel
        exact one_rel hrel (List.all_eq_true.1 hone _ (List.getElem_mem hkl))
      obtain ⟨w', s1, s2, s3, s4, s5, s6, s7⟩ := run_storeCells E.P (b := ti.b) (T := T) (fz := fz) (o := n * j.size) news 0 w cs p2 (by omega) hnewone (fun k a1 a2 => p5 k (by omega))
      rw [Nat.add_zero] at s2
      have hown : own g H id = some ti.b := by unfold own; rw [hH]; simp [o1, hs0]
      have hy2 : ∀ k, VRel g ((xs ++ ys).getD k .top) ((setA cs (n * j.size) news).getD k undef) := by
        intro k
        have h1 := hcat k
        by_cases hk : k < (xs ++ ys).length
        · simp only [Array.getD_eq_getD_getElem?, setA_get]
          simp at hk
          by_cases hk2 : k < xs.length
          · rw [if_neg (by omega)]
            have := p4 k
            simp only [List.getD_eq_getElem?_getD, Array.getD_eq_getD_getElem?] at this ⊢
            rw [List.getElem?_append_left hk2]; exact this
          · rw [if_pos ⟨by omega, by omega, by omega⟩]
            simp only [List.getD_eq_getElem?_getD] at h1 ⊢
            rw [List.getElem?_append_right (by omega)] at h1
            rw [List.getElem?_append_right (by omega)] at h1 ⊢
            rw [show k - n * j.size = k - olds.length by omega]; exact h1
        · rw [List.getD_eq_getElem?_getD, List.getElem?_eq_none (by omega)]; exact .top _
      obtain ⟨f1, f2⟩ := Rep.next_vec hr hH (n2 := n + m) (by omega) ⟨ti.b, 0, ti.spare⟩ rfl (ys := xs ++ ys) (by simp; omega) (by show n + m ≤ ti.spare; omega) p1 s2 (by rw [setA_size]; exact p3) hy2 (fun k hk => p5 k (by rw [setA_size] at hk; exact hk)) p6
        (fun i hi h => hi (hr.apart _ _ _ h hown)) (fun k hk _ => s3 k hk) s4 s5 s6 (by rw [s7]; exact Nat.le_refl _)
      refine ⟨.slice (some ⟨ti.b, 0, none⟩) (n + m) cap, w', _, ?_, f2, f1, ?_⟩
      · rw [hrun]
        simp only [add_none]
        rw [hisz, Nat.zero_add, s1]; rfl
      · have := VRel.vsl (g := g.setTok id (n + m) ⟨ti.b, 0, ti.spare⟩) id (n + m) ⟨ti.b, 0, ti.spare⟩ (setTok_same _ _ _ _) rfl (by show n + m ≤ ti.spare; omega) (by show 0 < ti.spare; omega)
        rw [hcap]; exact this
  · have hlt : cap < n + m := by omega
    have hrun := runB hlt
    have hgc := grownCap_ge w (n + m) cap e
    have hg : Grew w (.cells (olds.toArray ++ news.toArray ++ Builtin.zeroCells z.cells (grownCap w (n + m) cap e - (n + m))) e) _ := Grew.drew_alloc w _
    have hgm : grownCap w (n + m) cap e * j.size = (n + m) * j.size + (grownCap w (n + m) cap e - (n + m)) * j.size := by rw [← Nat.add_mul]; congr 1; omega
    have hcsz : (olds.toArray ++ news.toArray ++ Builtin.zeroCells z.cells (grownCap w (n + m) cap e - (n + m))).size = grownCap w (n + m) cap e * j.size := by
      simp [size_zeroCells, hzs, hol, hnl, hyl]; omega
    have hget : ∀ k, k < (n + m) * j.size → (olds.toArray ++ news.toArray ++ Builtin.zeroCells z.cells (grownCap w (n + m) cap e - (n + m)))[k]? = (olds ++ news)[k]? := by
      intro k hk
      rw [Array.getElem?_append_left (by simp; omega)]
      simp
    have hy2 : ∀ k, VRel g ((xs ++ ys).getD k .top) ((olds.toArray ++ news.toArray ++ Builtin.zeroCells z.cells (grownCap w (n + m) cap e - (n + m))).getD k undef) := by
      intro k
      by_cases hk : k < (xs ++ ys).length
      · have h1 := hcat k
        rw [Array.getD_eq_getD_getElem?, hget k (by simp at hk; omega)]
        rw [List.getD_eq_getElem?_getD (l := olds ++ news)] at h1; exact h1
      · rw [List.getD_eq_getElem?_getD, List.getElem?_eq_none (by omega)]; exact .top _
    have hKn : ∀ o, g.K w.heap.size o = none := fun o => by
      cases hk : g.K w.heap.size o with
      | some u => exact absurd (hr.K_lt hk) (by omega)
      | none => rfl
    obtain ⟨f1, f2⟩ := Rep.next_vec hr hH (n2 := n + m) (by omega) ⟨w.heap.size, 0, grownCap w (n + m) cap e⟩ rfl (ys := xs ++ ys) (by simp; omega) hgc (Nat.le_trans hr.n0le hr.below.size) hg.new hcsz hy2 (fun k _ h => by simp at h) hKn
      (fun i _ h => absurd (hr.own_lt h).1 (by show ¬ w.heap.size < _; omega)) (fun k _ hk => hg.old k hk) rfl rfl rfl (by simp)
    refine ⟨_, _, _, hrun, f2, f1, ?_⟩
    exact VRel.vsl id (n + m) ⟨w.heap.size, 0, grownCap w (n + m) cap e⟩ (setTok_same _ _ _ _) rfl hgc (by show 0 < grownCap w (n + m) cap e; omega)

theorem append_sound (hr : E.Rep g H w) {t t2 ty : TypeId} {i2 : TyI} (ht2 : E.ty t2 = some i2) (hi2 : ∀ k, i2.u ≠ .int k) {x y : AV} {c d : Value} (hx : VRel g x c) (hy : VRel g y d) {v : AV} {H' : List AO} (h : evAppend E H t x y = some (v, H')) :
    ∃ u w' g', (Builtin.append_ #[t, t2] ty #[c, d]).run E.P w = .ok u w' ∧ GLe g g' ∧ E.Rep g' H' w' ∧ VRel g' v u := by
  unfold evAppend at h
  split at h <;> try (simp at h; done)
  rename_i i ht
  obtain ⟨dd, hd, hu⟩ := und_of ht
  split at h <;> try (simp at h; done)
  rename_i e hui
  rw [hui] at hu; simp only [URel] at hu; subst hu
  split at h <;> try (simp at h; done)
  rename_i j hj
  obtain ⟨z, inf, hinf, hz, hisz, hiby, hzs⟩ := ty_info hj
  obtain ⟨d2, hd2, hu2⟩ := und_of ht2
  have hd2' : ∀ k, d2 ≠ .int k := by
    rintro k rfl
    cases hiu : i2.u <;> rw [hiu] at hu2 <;> simp [URel] at hu2
    exact hi2 _ hiu
  split at h <;> try (simp at h; done)
  rotate_left
  next id n m ys hsrc =>
    split at h <;> try (simp at h; done)
    rename_i sz k xs hH
    split at h <;> try (simp at h; done)
    rename_i hc
    obtain ⟨rfl, rfl, hsz0, hone, hb0, hfit⟩ := hc
    injection h with h; injection h with h1 h2; subst h1; subst h2
    exact append_vec hr hd hj hd2 hd2' hx hy hsrc hH hsz0 hone hb0 hfit
  rename_i n xs tok m ys hsrc
  split at h <;> try (simp at h; done)
  rename_i hcond
  obtain ⟨hsz0, hxl, hone, hb0, hfit⟩ := hcond
  obtain ⟨hlen, hyl, news, hnl, hnr, hnrun⟩ := src_run hr hsrc hy
  obtain ⟨base, cap, rfl, hncap, olds, hol, hor, horun, hbase⟩ := sl_cells hr hx hxl
  obtain ⟨runA, runB⟩ := append_run (w := w) E.P (ty := ty) hd hd2 hd2' hinf hz (base := base) (n := n) (cap := cap) (m := m) (c := d) (news := news) (olds := olds) hlen
    (fun w2 hw => by rw [hisz]; exact hnrun w2 hw) (fun w2 hw => by rw [hisz]; exact horun w2 hw) (by omega) (by rw [hiby]; exact hfit)
  have hnm : (n + m) * j.size = n * j.size + m * j.size := Nat.add_mul _ _ _
  have hcat : ∀ k, VRel g ((xs ++ ys).getD k .top) ((olds ++ news).getD k undef) := by
    intro k
    simp only [List.getD_eq_getElem?_getD] at hor hnr ⊢
    by_cases hk : k < xs.length
    · rw [List.getElem?_append_left hk, List.getElem?_append_left (by omega)]; exact hor k
    · rw [List.getElem?_append_right (by omega), List.getElem?_append_right (by omega), hol]; exact hnr _
  by_cases hroom : n + m ≤ cap
  · have hrun := runA hroom
    by_cases hm : m = 0
    · subst hm
      have hys : ys = [] := List.eq_nil_of_length_eq_zero (by omega)
      have hnews : news = [] := List.eq_nil_of_length_eq_zero (by omega)
      subst hys; subst hnews
      have hrun' : (Builtin.append_ #[t, t2] ty #[.slice base n cap, d]).run E.P w = .ok (.slice base n cap) w := by
        rw [hrun]
        cases base <;> rfl
      rw [List.append_nil, Nat.add_zero] at h
      cases tok with
      | ro => simp at h
      | full =>
        injection h with h; injection h with h1 h2; subst h1; subst h2
        obtain ⟨r1, r2⟩ := Rep.new_tok hr j.size n ⟨0, 0, 0⟩ (.inl rfl) (fun h => absurd rfl h)
        refine ⟨_, w, _, hrun', r2, r1, ?_⟩
        cases hx with
        | nsl _ _ => exact .nsl _ ⟨_, setTok_same _ _ _ _, rfl⟩
        | sl _ _ _ b o _ vs hn hk hv htk =>
          have hsp : cap - n = 0 := htk
          exact .sl _ _ _ b o cap vs hn (fun i hi => r2.K _ _ _ (hk i hi)) (fun i => (hv i).mono r2) ⟨_, setTok_same _ _ _ _, hsp.symm, .inl hsp⟩
      | «at» t' e' =>
        simp only at h
        split at h <;> try (simp at h; done)
        rename_i sz e2 hH
        split at h <;> try (simp at h; done)
        rename_i hc
        injection h with h; injection h with h1 h2; subst h1; subst h2
        obtain ⟨rfl, rfl⟩ := hc
        have hset : H.set t' (.tail j.size (e2 + 0)) = H := by
          apply List.ext_getElem?
          intro q
          by_cases hq : t' = q
          · subst hq; rw [List.getElem?_set_self (List.getElem?_eq_some_iff.1 hH).1, hH]; rfl
          · rw [List.getElem?_set_ne hq]
        rw [hset]
        exact ⟨_, w, g, hrun', GLe.refl g, hr, hx⟩
    · -- the token's own room
      rcases hbase with ⟨_, h0, _, hc0, _⟩ | ⟨b, o, rfl, hK, htk⟩
      · omega
      · cases tok with
        | ro => simp at h
        | full => have hsp : cap - n = 0 := htk; omega
        | «at» t' e' =>
          obtain ⟨ti, g1, g2, g3⟩ := htk
          simp only at h
          split at h <;> try (simp at h; done)
          rename_i sz e2 hH
          split at h <;> try (simp at h; done)
          rename_i hc
          injection h with h; injection h with h1 h2; subst h1; subst h2
          obtain ⟨rfl, rfl⟩ := hc
          have hs0 : ti.spare ≠ 0 := by omega
          rcases g3 with g3 | ⟨g3, g4⟩
          · omega
          obtain ⟨ti0, o1, o2, o3⟩ := hr.objs _ _ hH
          rw [g1] at o1; injection o1 with o1; subst o1
          rcases o3 with o3 | ⟨cs, T, fz, p1, p2, p3, p4, p5⟩
          · exact absurd o3 hs0
          have hmul : m * j.size ≤ ti.spare * j.size := mul_le_of (by omega)
          have hnewone : ∀ x ∈ news, x.oneCell' = true := by
            intro q hq
            obtain ⟨k, hk, rfl⟩ := List.getElem_of_mem hq
            have hkl : k < ys.length := by omega
            have hrel := hnr k
            rw [List.getD_eq_getElem?_getD, List.getElem?_eq_getElem hkl, List.getD_eq_getElem?_getD, List.getElem?_eq_getElem hk] at hrel
            exact one_rel hrel (List.all_eq_true.1 hone _ (List.getElem_mem hkl))
          obtain ⟨w', s1, s2, s3, s4, s5, s6, s7⟩ := run_storeCells E.P (b := ti.b) (T := T) (fz := fz) (o := ti.pos) news 0 w cs p2 (by omega) hnewone (fun k a1 a2 => p4 k (by omega) (by omega))
          rw [Nat.add_zero] at s2
          obtain ⟨g', f1, f2, f3, f4⟩ := Rep.fill hr hH g1 hs0 p2 (vs := news) rfl (by omega) s2 s3 s4 s5 s6 s7 (k := m) (by omega) (by omega) (by omega)
          refine ⟨.slice (some ⟨b, o, none⟩) (n + m) cap, w', g', ?_, f1, f2, ?_⟩
          · rw [hrun]
            simp only [add_none]
            rw [← g3, show o + n * inf.size = ti.pos by rw [g4, hxl, hisz]]
            rw [s1]; rfl
          · refine .sl _ _ _ b o cap (fun i => (olds ++ news).getD i undef) hroom (fun i hi => ?_) (fun i => (hcat i).mono f1) ⟨_, f3, ?_, .inr ⟨g3, ?_⟩⟩
            · simp only [List.getD_eq_getElem?_getD]
              by_cases hil : i < xs.length
              · rw [List.getElem?_append_left (by omega)]
                have := f1.K _ _ _ (hK i hil)
                rw [this, List.getD_eq_getElem?_getD]
              · rw [List.getElem?_append_right (by omega)]
                have hil2 : i - olds.length < news.length := by simp at hi; omega
                have := f4 (i - olds.length) _ (List.getElem?_eq_getElem hil2)
                rw [g3] at this
                rw [show o + i = ti.pos + (i - olds.length) by rw [g4]; omega, this, List.getElem?_eq_getElem hil2]; rfl
            · show ti.spare - m = cap - (n + m)
              omega
            · show ti.pos + news.length = o + (xs ++ ys).length
              rw [g4]; simp; omega
  · -- a new block
    have hlt : cap < n + m := by omega
    have hrun := runB hlt
    have hgc := grownCap_ge w (n + m) cap e
    have hg : Grew w (.cells (olds.toArray ++ news.toArray ++ Builtin.zeroCells z.cells (grownCap w (n + m) cap e - (n + m))) e) _ := Grew.drew_alloc w _
    have hcsz : (olds.toArray ++ news.toArray ++ Builtin.zeroCells z.cells (grownCap w (n + m) cap e - (n + m))).size = (n + m) * j.size + (grownCap w (n + m) cap e - (n + m)) * j.size := by
      simp [size_zeroCells, hzs, hol, hnl, hxl, hyl, hnm]
    have hget : ∀ k, k < (n + m) * j.size → (olds.toArray ++ news.toArray ++ Builtin.zeroCells z.cells (grownCap w (n + m) cap e - (n + m)))[k]? = (olds ++ news)[k]? := by
      intro k hk
      rw [Array.getElem?_append_left (by simp; omega)]
      simp
    have r1 := hr.alloc_known hg ((n + m) * j.size)
    have le1 := g.learn_le w.heap.size (fun o => if o < (n + m) * j.size then (olds.toArray ++ news.toArray ++ Builtin.zeroCells z.cells (grownCap w (n + m) cap e - (n + m)))[o]? else none)
    have hKn : ∀ i, i < (xs ++ ys).length → (g.learn w.heap.size (fun o => if o < (n + m) * j.size then (olds.toArray ++ news.toArray ++ Builtin.zeroCells z.cells (grownCap w (n + m) cap e - (n + m)))[o]? else none)).K w.heap.size (0 + i) = some ((olds ++ news).getD i undef) := by
      intro i hi
      simp at hi
      rw [Nat.zero_add]
      refine learn_new hr _ _ i (by omega) ?_
      rw [hget i (by omega), List.getD_eq_getElem?_getD, List.getElem?_eq_getElem (by simp; omega)]; rfl
    have hti : (⟨w.heap.size, (n + m) * j.size, grownCap w (n + m) cap e - (n + m)⟩ : TI).spare = 0 ∨ ∃ cs T fz, E.n0 ≤ w.heap.size ∧ (w.drew.alloc (.cells (olds.toArray ++ news.toArray ++ Builtin.zeroCells z.cells (grownCap w (n + m) cap e - (n + m))) e)).heap[w.heap.size]? = some (.cells cs T fz) ∧
        (n + m) * j.size + (grownCap w (n + m) cap e - (n + m)) * j.size ≤ cs.size ∧ (∀ k, (n + m) * j.size ≤ k → k < (n + m) * j.size + (grownCap w (n + m) cap e - (n + m)) * j.size → ¬ (fz.1 ≤ k ∧ k < fz.2)) ∧
        ∀ o, (n + m) * j.size ≤ o → (g.learn w.heap.size (fun o => if o < (n + m) * j.size then (olds.toArray ++ news.toArray ++ Builtin.zeroCells z.cells (grownCap w (n + m) cap e - (n + m)))[o]? else none)).K w.heap.size o = none := by
      refine .inr ⟨_, _, _, Nat.le_trans hr.n0le hr.below.size, hg.new, by rw [hcsz]; exact Nat.le_refl _, fun k _ _ h => by simp at h, fun o ho => ?_⟩
      show (if w.heap.size = w.heap.size then (match g.K w.heap.size o with | some v => some v | none => _) else _) = none
      rw [if_pos rfl]
      cases hk : g.K w.heap.size o with
      | some u => exact absurd (hr.K_lt hk) (by omega)
      | none => simp only; rw [if_neg (by omega)]
    have hfree : ∀ i, own g H i ≠ some w.heap.size := fun i hi => absurd (hr.own_lt hi).1 (by omega)
    have fin : ∀ {g' : Ghost} {t' e' : Nat}, GLe (g.learn w.heap.size (fun o => if o < (n + m) * j.size then (olds.toArray ++ news.toArray ++ Builtin.zeroCells z.cells (grownCap w (n + m) cap e - (n + m)))[o]? else none)) g' →
        g'.tok t' e' = some ⟨w.heap.size, (n + m) * j.size, grownCap w (n + m) cap e - (n + m)⟩ → VRel g' (.sl (n + m) (xs ++ ys) (.at t' e')) (.slice (some ⟨w.heap.size, 0, none⟩) (n + m) (grownCap w (n + m) cap e)) := by
      intro g' t' e' le htok
      refine .sl _ _ _ w.heap.size 0 _ (fun i => (olds ++ news).getD i undef) hgc (fun i hi => le.K _ _ _ (hKn i hi)) (fun i => (hcat i).mono (le1.trans le)) ⟨_, htok, rfl, .inr ⟨rfl, ?_⟩⟩
      simp [hxl, hyl, hnm]
    cases tok with
    | ro => simp at h
    | full =>
      injection h with h; injection h with h1 h2; subst h1; subst h2
      obtain ⟨q1, q2⟩ := Rep.new_tok r1 j.size (n + m) ⟨w.heap.size, (n + m) * j.size, grownCap w (n + m) cap e - (n + m)⟩ hti (fun _ => hfree)
      exact ⟨_, _, _, hrun, le1.trans q2, q1, fin q2 (setTok_same _ _ _ _)⟩
    | «at» t' e' =>
      simp only at h
      split at h <;> try (simp at h; done)
      rename_i sz e2 hH
      split at h <;> try (simp at h; done)
      rename_i hc
      injection h with h; injection h with h1 h2; subst h1; subst h2
      obtain ⟨rfl, rfl⟩ := hc
      obtain ⟨q1, q2⟩ := Rep.next_tok r1 hH (e2 := e2 + m) (by omega) ⟨w.heap.size, (n + m) * j.size, grownCap w (n + m) cap e - (n + m)⟩ hti (fun _ i _ => hfree i)
      exact ⟨_, _, _, hrun, le1.trans q2, q1, fin q2 (setTok_same _ _ _ _)⟩

end Go.Ab
