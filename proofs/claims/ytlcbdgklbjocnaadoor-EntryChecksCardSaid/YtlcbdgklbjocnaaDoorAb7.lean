/- The abstract view, 7: the computing operations as the machine carries them out. -/
import Derived.Test.YtlcbdgklbjocnaaDoorAb6
set_option linter.unusedVariables false
set_option linter.unusedSimpArgs false
namespace Go.Ab
open Go Go.RowKit

variable {E : Env} {g : Ghost} {H : List AO} {w : World} {a : AAct} {a' : Act}

def NGives (P : Program) (g : Ghost) (s : Sem Next) (w : World) (v : AV) : Prop := ∃ c, s.run P w = .ok (.value c) w ∧ VRel g v c

theorem Gives.next {P : Program} {g : Ghost} {s : Sem Value} {w : World} {v : AV} (h : Gives P g s w v) : NGives P g (do pure (.value (← s))) w v := by
  obtain ⟨c, h1, h2⟩ := h
  exact ⟨c, by rw [Sem.run_bind, h1]; rfl, h2⟩

theorem rels_map (hr : E.Rep g H w) (ha : ARel g a a') (xs : Array Operand) : VRels g (xs.toList.map (a.ev E.gl)) (xs.map a'.eval) := by
  refine ⟨by simp, fun i => ?_⟩
  simp only [List.getD_eq_getElem?_getD, Array.getD_eq_getD_getElem?, List.getElem?_map, Array.getElem?_map, Array.getElem?_toList]
  cases h : xs[i]? with
  | none => exact .top _
  | some x => exact ev_rel hr ha x

theorem len_sound {t : TypeId} {i : TyI} (ht : E.ty t = some i) {x : AV} {c : Value} (hx : VRel g x c) {v : AV} (h : evLen i.u x = some v) (ty : TypeId) : Gives E.P g (Builtin.len_ #[t] ty #[c]) w v := by
  obtain ⟨d, hd, hu⟩ := und_of ht
  unfold Gives Builtin.len_
  have e1 : (#[t] : Array TypeId)[0]? = some t := rfl
  have e2 : (#[c] : Array Value)[0]? = some c := rfl
  rw [e1, e2]
  simp only [Sem.run_bind, run_und hd, Result.andThen_ok]
  unfold evLen at h
  split at h <;> rename_i e1 <;> first | (simp at h; done) | skip
  · rw [e1] at hu; simp only [URel] at hu; subst hu
    injection h with h; subst h; rw [hx.str_inv]
    exact ⟨_, rfl, by rw [goInt]; simp [ByteArray.size]; exact .int _ _⟩
  · rw [e1] at hu; simp only [URel] at hu; subst hu
    injection h with h; subst h
    cases hx with
    | nsl => exact ⟨_, rfl, .int _ _⟩
    | sl => exact ⟨_, rfl, .int _ _⟩
  · rw [e1] at hu; simp only [URel] at hu; subst hu
    injection h with h; subst h
    cases hx with
    | msl => exact ⟨_, rfl, .int _ _⟩
  · rw [e1] at hu; simp only [URel] at hu; subst hu
    injection h with h; subst h
    cases hx with
    | nilmap => exact ⟨_, rfl, .int _ _⟩

theorem zero_rel {t : TypeId} {i : TyI} (ht : E.ty t = some i) (w : World) : ∃ z, (zeroValue t).run E.P w = .ok z w ∧ (∀ g, VRel g (mkVal i i.zero) z) ∧ z.cells.size = i.size ∧ i.zero.length = i.size ∧ (∀ g k, VRel g (i.zero.getD k .top) (z.cells.getD k undef)) := by
  obtain ⟨z, inf, h1, h2, h3, h4, h5, h6, h7, h8, h9⟩ := (E.ok t i ht).info
  refine ⟨z, by simp [zeroValue, typeInfo, h1, h2], fun g => ?_, h5, h6, h9⟩
  unfold mkVal
  cases hi : i.isAgg with
  | true =>
    obtain ⟨cs, rfl⟩ := h7 hi
    simp only [if_true]
    exact .agg _ _ (by rw [h6]; exact h5) (fun k => h9 g k)
  | false =>
    simp only [if_false, Bool.false_eq_true]
    obtain ⟨e1, e2⟩ := h8 hi
    have := h9 g 0
    rw [e1] at this
    rw [List.headD_eq_head?_getD, List.head?_eq_getElem?]
    simpa [List.getD_eq_getElem?_getD] using this

theorem assert_sound {x : AV} {c : Value} (hx : VRel g x c) {t xt : TypeId} {i : TyI} (ht : E.ty t = some i) (hi : ∀ b, i.u ≠ .iface b) {u : TypeId} {v0 : AV} (hxe : x = .iface u v0) (ok : Bool) {v : AV}
    (h : (if u = t then some (if ok then .tup [v0, .bool true] else v0) else if ok then some (.tup [mkVal i i.zero, .bool false]) else none) = some v) : Gives E.P g (Instr.typeAssert c xt t ok) w v := by
  obtain ⟨d, hd, hu⟩ := und_of ht
  subst hxe
  cases hx with
  | iface _ _ cv hv =>
    unfold Gives Instr.typeAssert
    simp only [Sem.run_bind, run_und hd, Result.andThen_ok]
    have hni : ∀ ms, d ≠ .interface ms := by
      rintro ms rfl
      revert hi hu
      cases i.u <;> simp [URel]
    have two : ∀ {p q : AV} {x y : Value}, VRel g p x → VRel g q y → VRel g (.tup [p, q]) (.tuple #[x, y]) := fun hp hq =>
      .tup _ _ rfl (fun k => match k with | 0 => hp | 1 => hq | _ + 2 => .top _)
    split at h
    · rename_i e; subst e
      injection h with h; subst h
      cases ok with
      | true =>
        refine ⟨.tuple #[cv, .bool true], ?_, two hv (.bool _)⟩
        cases d <;> first | (simp; done) | exact absurd rfl (hni _)
      | false =>
        refine ⟨cv, ?_, hv⟩
        cases d <;> first | (simp; done) | exact absurd rfl (hni _)
    · rename_i e
      split at h
      · rename_i hok; subst hok
        injection h with h; subst h
        obtain ⟨z, hz, hzr, _⟩ := zero_rel ht w
        refine ⟨.tuple #[z, .bool false], ?_, two (hzr g) (.bool _)⟩
        cases d <;> first | (simp [e, hz]; done) | exact absurd rfl (hni _)
      · simp at h

theorem index_str_sound {t : TypeId} {i : TyI} (ht : E.ty t = some i) (hi : i.u = .str) (s : List UInt8) (q : IntKind) (n : Int) (h0 : 0 ≤ n) (h1 : n < s.length) : Gives E.P g (Instr.index t (.string ⟨s.toArray⟩) (.int q n)) w (byteAV (s.getD n.toNat 0)) := by
  obtain ⟨d, hd, hu⟩ := und_of ht
  rw [hi] at hu; simp only [URel] at hu; subst hu
  unfold Gives Instr.index
  simp only [asIntOf, Sem.run_bind, Sem.run_pure, Result.andThen_ok, run_und hd]
  have hlt : n.toNat < s.length := by omega
  have hb : (⟨s.toArray⟩ : ByteArray)[n.toNat]? = some s[n.toNat] := by
    rw [getElem?_pos (⟨s.toArray⟩ : ByteArray) n.toNat (by simp [ByteArray.size]; exact hlt)]
    rfl
  rw [if_pos h0, hb]
  refine ⟨_, rfl, ?_⟩
  rw [List.getD_eq_getElem?_getD, List.getElem?_eq_getElem hlt]
  exact .int _ _

theorem index_arr_sound {t : TypeId} {i : TyI} (ht : E.ty t = some i) {m : Nat} {e : TypeId} (hi : i.u = .arr m e) {j : TyI} (he : E.ty e = some j) {xs : List AV} {c : Value} (hx : VRel g (.agg xs) c) (q : IntKind) (n : Int)
    (h0 : 0 ≤ n) (h1 : n < m) (h2 : n.toNat * j.size + j.size ≤ xs.length) : Gives E.P g (Instr.index t c (.int q n)) w (mkVal j ((xs.drop (n.toNat * j.size)).take j.size)) := by
  obtain ⟨d, hd, hu⟩ := und_of ht
  rw [hi] at hu; simp only [URel] at hu; subst hu
  cases hx with
  | agg _ cs hl hv =>
    unfold Gives Instr.index
    simp only [asIntOf, Sem.run_bind, Sem.run_pure, Result.andThen_ok, run_und hd]
    rw [if_pos ⟨h0, h1⟩, Sem.run_bind, sizeOf_run he, Result.andThen_ok]
    exact part_agg he hl hv _ h2 w

theorem evPure_sound (hr : E.Rep g H w) (ha : ARel g a a') {o : Oper} {v : AV} (h : evPure E a H o = some v) : NGives E.P g (execOp a'.eval o) w v := by
  obtain ⟨dst, op, ty, pos, after, guard⟩ := o
  have ev := fun x => ev_rel hr ha x
  cases op <;> simp only [evPure] at h <;> simp only [execOp] <;> try (simp at h; done)
  case move x => injection h with h; subst h; exact ⟨_, rfl, ev x⟩
  case assign x => injection h with h; subst h; exact ⟨_, rfl, ev x⟩
  case pick c x y =>
    split at h
    · rename_i b hb
      injection h with h; subst h
      have hc := ev c
      rw [hb] at hc
      rw [hc.bool_inv]
      refine ⟨if b then a'.eval x else a'.eval y, rfl, ?_⟩
      cases b
      · exact ev y
      · exact ev x
    · simp at h
  case load t ad =>
    split at h
    · rename_i i ht
      cases hrd : readCells H i.size (a.ev E.gl ad) with
      | none => rw [hrd] at h; simp at h
      | some xs =>
        rw [hrd] at h; simp only [Option.map_some] at h; injection h with h; subst h
        exact Gives.next (load_sound hr ht hrd (ev ad))
    · simp at h
  case nilCheck x =>
    have hx := ev x
    split at h <;> first | (simp at h; done) | skip
    all_goals
      rename_i hxe
      injection h with h; subst h
      rw [hxe] at hx
    · generalize a'.eval x = u at hx ⊢
      cases hx with
      | ref _ _ b hp => exact ⟨_, rfl, .ref _ _ _ hp⟩
    · generalize a'.eval x = u at hx ⊢
      cases hx with
      | row _ b o vs hk hv => exact ⟨_, rfl, .row _ _ _ vs hk hv⟩
    · generalize a'.eval x = u at hx ⊢
      cases hx with
      | fn _ _ _ fs cs hl hf hm hc => exact ⟨_, rfl, .fn _ _ _ fs cs hl hf hm hc⟩
  case binOp op t x y yt => exact Gives.next (bin_sound (ev x) (ev y) h)
  case unOp op t x => exact Gives.next (un_sound (ev x) h)
  case convert s d x => exact Gives.next (conv_sound hr (ev x) h)
  case makeInterface t x =>
    split at h
    · rename_i i ht
      split at h
      · simp at h
      · rename_i hni
        injection h with h; subst h
        obtain ⟨d, hd, hu⟩ := und_of ht
        refine Gives.next ⟨.iface t (a'.eval x), ?_, .iface _ _ _ (ev x)⟩
        simp only [Instr.makeInterface, Sem.run_bind, run_und hd, Result.andThen_ok]
        have : ∀ ms, d ≠ .interface ms := by
          rintro ms rfl
          revert hni hu
          cases i.u <;> simp [URel]
        cases d <;> first | rfl | exact absurd rfl (this _)
    · simp at h
  case makeFunc fn first cap =>
    cases fn <;> simp only at h <;> try (simp at h; done)
    injection h with h; subst h
    have h1 := rels_map hr ha first
    have h2 := rels_map hr ha cap
    exact ⟨_, rfl, .fn _ _ _ _ _ h1.1 h1.2 h2.1 h2.2⟩
  case slice t x lo hi mx =>
    cases mx with
    | some m => simp at h
    | none => exact Gives.next (slice_sound hr ha (ev x) h)
  case fieldAddr s x f =>
    split at h
    · rename_i off i hf
      split at h
      · simp at h
      · rename_i h0
        have hx := ev x
        split at h
        · rename_i id o hxe
          injection h with h; subst h
          rw [hxe] at hx
          generalize a'.eval x = u at hx ⊢
          cases hx with
          | ref _ _ b hp => exact Gives.next ⟨_, fieldAddr_sound hf h0 b o, .ref _ _ _ hp⟩
        · rename_i xs hxe
          injection h with h; subst h
          rw [hxe] at hx
          generalize a'.eval x = u at hx ⊢
          cases hx with
          | row _ b o vs hk hv => exact Gives.next ⟨_, fieldAddr_sound hf h0 b o, row_drop (.row xs b o vs hk hv) off⟩
        · simp at h
    · simp at h
  case field s x f =>
    split at h
    · rename_i off i xs hf hxe
      split at h
      · rename_i hb
        injection h with h; subst h
        have hx := ev x
        rw [hxe] at hx
        exact Gives.next (field_sound hf hx hb)
      · simp at h
    · simp at h
  case indexAddr t x k =>
    have hk := ev k
    split at h
    · rename_i q n hke
      rw [hke] at hk
      rw [hk.int_inv]
      exact Gives.next (indexAddr_sound (ev x) h)
    · simp at h
  case index t x k =>
    have hk := ev k
    have hx := ev x
    split at h
    · rename_i y1 y2 y3 s q n ht hxe hke
      split at h
      · rename_i hb
        injection h with h; subst h
        rw [hke] at hk; rw [hxe] at hx
        rw [hk.int_inv, hx.str_inv]
        exact Gives.next (index_str_sound ht rfl s q n hb.1 hb.2)
      · simp at h
    · rename_i m e y1 y2 y3 xs q n ht hxe hke
      split at h
      · rename_i j he
        split at h
        · rename_i hb
          injection h with h; subst h
          rw [hke] at hk; rw [hxe] at hx
          rw [hk.int_inv]
          exact Gives.next (index_arr_sound ht rfl he hx q n hb.1 hb.2.1 hb.2.2)
        · simp at h
      · simp at h
    · simp at h
  case typeAssert x xt t ok =>
    have hx := ev x
    split at h
    · rename_i u v0 i hxe ht
      split at h
      · simp at h
      · rename_i hni
        exact Gives.next (assert_sound hx ht (fun b e => hni b e) hxe ok h)
    · simp at h
  case extract t k =>
    have hx := ev t
    split at h
    · rename_i xs hxe
      rw [hxe] at hx
      generalize a'.eval t = u at hx ⊢
      cases hx with
      | tup _ cs hl hv =>
        have hlt : k < xs.length := (List.getElem?_eq_some_iff.1 h).1
        have hv' := hv k
        rw [List.getD_eq_getElem?_getD, h, Array.getD_eq_getD_getElem?, Array.getElem?_eq_getElem (show k < cs.size by omega)] at hv'
        refine Gives.next ⟨cs[k]'(by omega), ?_, hv'⟩
        simp only [Instr.extract, Array.getElem?_eq_getElem (show k < cs.size by omega)]
        rfl
    · simp at h
  case call c =>
    obtain ⟨callee, args, argTypes⟩ := c
    unfold evBuiltin at h
    split at h <;> first | (simp at h; done) | skip
    rename_i b hb
    simp only at hb; subst hb
    have toA : ∀ {α : Type} {xs : Array α} {l : List α}, xs.toList = l → xs = l.toArray := fun h => by subst h; simp
    simp only at h
    split at h <;> first | (simp at h; done) | skip
    · rename_i x t hx0 ht0
      rw [toA hx0, toA ht0]
      split at h
      · rename_i i ht
        obtain ⟨cv, h1, h2⟩ := len_sound (w := w) ht (ev x) h ty
        exact ⟨cv, by simp [resolve, invoke, builtin, h1], h2⟩
      · simp at h
    · rename_i x y hx0
      rw [toA hx0]
      split at h
      · rename_i k m k' n hxe hye
        have hx := ev x; have hy := ev y
        rw [hxe] at hx; rw [hye] at hy
        split at h
        · rename_i hk; subst hk
          injection h with h; subst h
          exact ⟨.int k (if n < m then n else m), by simp [resolve, invoke, builtin, Builtin.min_, Builtin.min2, hx.int_inv, hy.int_inv], .int _ _⟩
        · simp at h
      · simp at h
    · rename_i x y hx0
      rw [toA hx0]
      split at h
      · rename_i k m k' n hxe hye
        have hx := ev x; have hy := ev y
        rw [hxe] at hx; rw [hye] at hy
        split at h
        · rename_i hk; subst hk
          injection h with h; subst h
          exact ⟨.int k (if n > m then n else m), by simp [resolve, invoke, builtin, Builtin.max_, Builtin.max2, hx.int_inv, hy.int_inv], .int _ _⟩
        · simp at h
      · simp at h

end Go.Ab
