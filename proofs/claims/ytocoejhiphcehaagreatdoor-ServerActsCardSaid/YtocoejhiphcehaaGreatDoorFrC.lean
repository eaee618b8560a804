/- The abstract view, part FrC. -/
import Derived.Test.YtocoejhiphcehaaGreatDoorFrB
import Derived.RecoverIn
import Derived.RangeFuncNested
import Derived.Orders
/- The abstract view, 13: what it is for code to go well, computed over the text; calls, deferred calls, panics; functions. -/
set_option linter.unusedVariables false
set_option linter.unusedSimpArgs false
namespace Go.Ab
open Go Go.RowKit

variable {E : Env} {N : Nat} {rd : Option Nat} {md : Nat → Nat} {g g0 : Ghost} {H : List AO} {w w' : World} {a : AAct} {a' : Act} {Q : APost}

def APut (E : Env) (g0 : Ghost) (K : AAct → List AO → Prop) : Act → World → Prop :=
  fun a2 w2 => ∃ A H2 g2, K A H2 ∧ GLe g0 g2 ∧ E.Rep g2 H2 w2 ∧ ARel g2 A a2

/-- One operation goes well. -/
def OpOk (E : Env) (N : Nat) (rd : Option Nat) (o : Oper) (a : AAct) (H : List AO) (K : AAct → List AO → Prop) (Q : APost) : Prop :=
  ∀ g0 g w a', Dom g0 N → GLe g0 g → E.Rep g H w → ARel g a a' → o.wpIn (fenceOf g0 rd) 0 E.P a' w (APut E g0 K) (Conc E g0 Q)

theorem fence_fn (g0 : Ghost) (rd : Option Nat) (f : FuncId) : (fenceOf g0 rd).fn f := by trivial
theorem fence_depth (g0 : Ghost) (rd : Option Nat) : (fenceOf g0 rd).depth = none := rfl

theorem callsIn_fence {g0 : Ghost} {rd : Option Nat} {f : FuncId} {args : Array Value} {w : World} {R : Ending → World → Prop} (h : CallsIn Fence.wide 0 E.P f args w R) : CallsIn (fenceOf g0 rd) 0 E.P f args w R := h

/-- A round of a loop over a function, by the number of its record. -/
def ARound (E : Env) (l : Nat) (args : List AV) (H : List AO) (R : AE → List AO → Prop) : Prop :=
  ∀ g w b cs, E.Rep g H w → VRels g args cs → g.phi[l]? = some b →
    ∃ f tmps assign body w2, (Instr.yield b cs).run E.P w = .ok (.round b f tmps assign body) w2 ∧ RoundIn Fence.wide 0 E.P b f tmps assign body w2 (EConc E g R)

theorem ARound.mono {l : Nat} {args : List AV} {R R' : AE → List AO → Prop} (h : ARound E l args H R) (k : ∀ x H, R x H → R' x H) : ARound E l args H R' := by
  intro g w b cs hr hv hb
  obtain ⟨f, tmps, assign, body, w2, h1, h2⟩ := h g w b cs hr hv hb
  exact ⟨f, tmps, assign, body, w2, h1, h2.mono fun e w' hh => hh.mono k⟩

/-- What becomes of a call's ending. -/
def onEnd (o : Oper) (a : AAct) (K : AAct → List AO → Prop) (Q : APost) : AE → List AO → Prop
  | .ret v, H => K (a.put o.dst v) H
  | .panic ch, H => Q (.panic ch) a H

def evCallArgs (a : AAct) (gl : Nat → List AV) (c : Call) : List AV := c.args.toList.map (a.ev gl)

/-- What an operation must achieve, computed. -/
def Wop (E : Env) (rd : Option Nat) (md : Nat → Nat) (o : Oper) (a : AAct) (H : List AO) (K : AAct → List AO → Prop) (Q : APost) : Prop :=
  match o.op with
  | .call c => match c.callee with
    | .value f => match a.ev E.gl f with
      | .fn fid first cap => ACall E fid (first ++ evCallArgs a E.gl c ++ cap) H (onEnd o a K Q)
      | .yield l => ARound E l (evCallArgs a E.gl c) H (onEnd o a K Q)
      | _ => False
    | .invoke _ _ => False
    | .builtin b => match b with
      | .append => match c.args.toList, c.argTypes.toList with
        | [x, y], [t, t2] => match E.ty t2 with
          | some i2 => match i2.u with
            | .int _ => False
            | _ => match evAppend E H t (a.ev E.gl x) (a.ev E.gl y) with
              | some (v, H') => K (a.put o.dst v) H'
              | none => False
          | none => False
        | _, _ => False
      | .copy => match evHeap E md a H o with
        | some (v, H') => K (a.put o.dst v) H'
        | none => False
      | _ => match evPure E a H o with
        | some v => K (a.put o.dst v) H
        | none => False
  | .defer c => match rd, c.callee with
    | none, .value f => match a.ev E.gl f with
      | .fn fid first cap => K ({ a with defers := .call fid (first ++ evCallArgs a E.gl c) cap :: a.defers }.put o.dst .top) H
      | _ => False
    | _, _ => False
  | .panic x => match a.ev E.gl x with
    | .iface t v => Q (.panic [{ v := .iface t v }]) a H
    | _ => False
  | .alloc _ | .box _ _ | .build _ _ | .buildSlice _ _ _ | .makeSlice _ _ _ | .store _ _ _ | .range _ _ | .next _ _ => match evHeap E md a H o with
    | some (v, H') => K (a.put o.dst v) H'
    | none => False
  | .convert _ _ _ => match evPure E a H o with
    | some v => K (a.put o.dst v) H
    | none => match evHeap E md a H o with
      | some (v, H') => K (a.put o.dst v) H'
      | none => False
  | _ => match evPure E a H o with
    | some v => K (a.put o.dst v) H
    | none => False

theorem opok_of_value {o : Oper} {K : AAct → List AO → Prop} (hnd : ∀ c, o.op ≠ .defer c) {v : AV} (hk : K (a.put o.dst v) H) (h : ∀ g w a', E.Rep g H w → ARel g a a' → NGives E.P g (execOp a'.eval o) w v) : OpOk E N rd o a H K Q := by
  intro g0 g w a' hd hl hr ha
  obtain ⟨c, h1, h2⟩ := h g w a' hr ha
  refine ⟨fun f _ => fence_fn _ _ _, ?_⟩
  rw [Oper.semAt_eq _ _ _ hnd, h1]
  exact ⟨_, H, g, hk, hl, hr, ha.put _ h2⟩

theorem opok_of_heap {o : Oper} {K : AAct → List AO → Prop} (hnd : ∀ c, o.op ≠ .defer c) {v : AV} {H' : List AO} (hk : K (a.put o.dst v) H') (h : ∀ g w a', E.Rep g H w → ARel g a a' → HGives E g (execOp a'.eval o) w v H') : OpOk E N rd o a H K Q := by
  intro g0 g w a' hd hl hr ha
  obtain ⟨nx, w', g', h1, h2, h3, h4⟩ := h g w a' hr ha
  refine ⟨fun f _ => fence_fn _ _ _, ?_⟩
  rw [Oper.semAt_eq _ _ _ hnd, h1]
  rcases h4 with ⟨c, rfl, hc⟩ | ⟨rfl, rfl⟩
  · exact ⟨_, H', g', hk, hl.trans h2, h3, (ha.mono h2).put _ hc⟩
  · exact ⟨_, H', g', hk, hl.trans h2, h3, (ha.mono h2).put _ (.top _)⟩

theorem rels_append {xs ys : List AV} {cs ds : Array Value} (h : VRels g xs cs) (k : VRels g ys ds) : VRels g (xs ++ ys) (cs ++ ds) := by
  refine ⟨by simp [h.1, k.1], fun i => ?_⟩
  have h2 := h.2; have k2 := k.2
  simp only [List.getD_eq_getElem?_getD, Array.getD_eq_getD_getElem?] at h2 k2 ⊢
  by_cases hi : i < xs.length
  · rw [List.getElem?_append_left hi, Array.getElem?_append_left (by rw [h.1]; exact hi)]; exact h2 i
  · rw [List.getElem?_append_right (by omega), Array.getElem?_append_right (by rw [h.1]; omega), h.1]; exact k2 _

/-- What is asked behind a call. -/
theorem upon_end {o : Oper} {K : AAct → List AO → Prop} (hl : GLe g0 g) (ha : ARel g a a') {e : Ending} {w' : World} (h : EConc E g (onEnd o a K Q) e w') :
    (match e, w' with
      | .returned v, w'' => APut E g0 K (a'.put o.dst v) w''
      | .panicked chain, w'' => Conc E g0 Q (.panic chain) a' w''
      | .outgrown, _ => LetsOut (Conc E g0 Q)) := by
  obtain ⟨x, H2, g2, hx, hl2, hr2, he⟩ := h
  cases he with
  | ret hv => exact ⟨_, H2, g2, hx, hl.trans hl2, hr2, (ha.mono hl2).put _ hv⟩
  | panic hp => exact ⟨.panic _, a, H2, g2, hx, hl.trans hl2, hr2, ha.mono hl2, .panic hp⟩

theorem opok_call {o : Oper} {K : AAct → List AO → Prop} {c : Call} {f : Operand} (ho : o.op = .call c) (hc : c.callee = .value f) {fid : FuncId} {first cap : List AV} (hf : a.ev E.gl f = .fn fid first cap)
    (h : ACall E fid (first ++ evCallArgs a E.gl c ++ cap) H (onEnd o a K Q)) : OpOk E N rd o a H K Q := by
  intro g0 g w a' hd hl hr ha
  have hv := ev_rel hr ha f
  rw [hf] at hv
  have hargs := rels_map hr ha c.args
  refine ⟨fun f _ => fence_fn _ _ _, ?_⟩
  rw [Oper.semAt_eq _ _ _ (by rw [ho]; simp)]
  have hrun : ∃ cs, VRels g (first ++ evCallArgs a E.gl c ++ cap) cs ∧ (execOp a'.eval o).run E.P w = (callFunc fid cs).run E.P w := by
    generalize hu : a'.eval f = u at hv
    cases hv with
    | fn _ _ _ fs cs hl1 hf1 hm1 hc1 =>
      refine ⟨fs ++ c.args.map a'.eval ++ cs, rels_append (rels_append ⟨hl1, hf1⟩ hargs) ⟨hm1, hc1⟩, ?_⟩
      unfold execOp
      rw [ho]
      simp only [resolve, hc, hu, Sem.run_bind, Deferred.ofValue, Sem.run_pure, Result.andThen_ok, invoke]
  obtain ⟨cs, hcs, hrun⟩ := hrun
  rw [hrun]
  rcases h g w cs hr hcs with ⟨v, w', h1, h2⟩ | ⟨h1, h2⟩
  · rw [h1]
    have := upon_end (Q := Q) (K := K) (o := o) hl ha h2
    exact this
  · rw [h1]
    show ((fenceOf g0 rd).depth.isSome = true → 1 ≤ 0) ∧ _
    refine ⟨fun h => by rw [fence_depth] at h; simp at h, ?_⟩
    refine CallsIn.mono (callsIn_fence h2) fun e w' hh => ?_
    have := upon_end (Q := Q) (K := K) (o := o) hl ha hh
    cases e <;> exact this

theorem roundIn_fence {g0 : Ghost} {rd : Option Nat} {l : Nat} {f : FuncId} {tmps : Array Value} {assign body : Code} {w : World} {R : Ending → World → Prop} (h : RoundIn Fence.wide 0 E.P l f tmps assign body w R) : RoundIn (fenceOf g0 rd) 0 E.P l f tmps assign body w R := h

theorem opok_yield {o : Oper} {K : AAct → List AO → Prop} {c : Call} {f : Operand} (ho : o.op = .call c) (hc : c.callee = .value f) {l : Nat} (hf : a.ev E.gl f = .yield l)
    (h : ARound E l (evCallArgs a E.gl c) H (onEnd o a K Q)) : OpOk E N rd o a H K Q := by
  intro g0 g w a' hd hl hr ha
  have hv := ev_rel hr ha f
  rw [hf] at hv
  have hargs := rels_map hr ha c.args
  refine ⟨fun f _ => fence_fn _ _ _, ?_⟩
  rw [Oper.semAt_eq _ _ _ (by rw [ho]; simp)]
  generalize hu : a'.eval f = u at hv
  cases hv with
  | yield _ b hb =>
    obtain ⟨f', tmps, assign, body, w2, h1, h2⟩ := h g w b _ hr hargs hb
    have hrun : (execOp a'.eval o).run E.P w = .ok (.round b f' tmps assign body) w2 := by
      unfold execOp
      rw [ho]
      simp only [resolve, hc, hu, Sem.run_bind, Deferred.ofValue, Sem.run_pure, Result.andThen_ok, invoke]
      simpa using h1
    rw [hrun]
    show ((fenceOf g0 rd).depth.isSome = true → 1 ≤ 0) ∧ _
    refine ⟨fun h => by rw [fence_depth] at h; simp at h, ?_⟩
    refine RoundIn.mono (roundIn_fence h2) fun e w' hh => ?_
    have := upon_end (Q := Q) (K := K) (o := o) hl ha hh
    cases e <;> exact this

theorem opok_append {o : Oper} {K : AAct → List AO → Prop} {c : Call} (ho : o.op = .call c) (hc : c.callee = .builtin .append) {x y : Operand} {t t2 : TypeId} (hx : c.args.toList = [x, y]) (ht : c.argTypes.toList = [t, t2]) {i2 : TyI} (ht2 : E.ty t2 = some i2) (hi2 : ∀ k, i2.u ≠ .int k)
    {v : AV} {H' : List AO} (h : evAppend E H t (a.ev E.gl x) (a.ev E.gl y) = some (v, H')) (hk : K (a.put o.dst v) H') : OpOk E N rd o a H K Q := by
  refine opok_of_heap (by rw [ho]; simp) hk fun g w a' hr ha => ?_
  obtain ⟨u, w', g', h1, h2, h3, h4⟩ := append_sound hr (ty := o.type) ht2 hi2 (ev_rel hr ha x) (ev_rel hr ha y) h
  refine ⟨.value u, w', g', ?_, h2, h3, .inl ⟨u, rfl, h4⟩⟩
  have toA : ∀ {α : Type} {xs : Array α} {l : List α}, xs.toList = l → xs = l.toArray := fun h => by subst h; simp
  unfold execOp
  rw [ho]
  simp only [resolve, hc, Sem.run_bind, Sem.run_pure, Result.andThen_ok, invoke, builtin, toA hx, toA ht]
  simp only [List.map_toArray, List.map_cons, List.map_nil]
  rw [h1]; rfl

theorem opok_defer {o : Oper} {K : AAct → List AO → Prop} {c : Call} {f : Operand} (ho : o.op = .defer c) (hc : c.callee = .value f) {fid : FuncId} {first cap : List AV} (hf : a.ev E.gl f = .fn fid first cap)
    (hk : K ({ a with defers := .call fid (first ++ evCallArgs a E.gl c) cap :: a.defers }.put o.dst .top) H) : OpOk E N none o a H K Q := by
  intro g0 g w a' hd hl hr ha
  have hv := ev_rel hr ha f
  rw [hf] at hv
  have hargs := rels_map hr ha c.args
  refine ⟨fun f _ => fence_fn _ _ _, ?_⟩
  show Oper.uponIn _ _ _ _ _ _ _ ((execOp a'.eval o).run E.P w)
  generalize hu : a'.eval f = u at hv
  cases hv with
  | fn _ _ _ fs cs hl1 hf1 hm1 hc1 =>
    have hrun : (execOp a'.eval o).run E.P w = .ok (.defer { target := .fn (.func fid) cs, args := fs ++ c.args.map a'.eval }) w := by
      unfold execOp
      rw [ho]
      simp only [resolve, hc, hu, Sem.run_bind, Deferred.ofValue, Sem.run_pure, Result.andThen_ok]
    rw [hrun]
    refine ⟨_, H, g, hk, hl, hr, ?_⟩
    refine ARel.put (a := { a with defers := .call fid (first ++ evCallArgs a E.gl c) cap :: a.defers }) (a' := { a' with defers := { target := .fn (.func fid) cs, args := fs ++ c.args.map a'.eval } :: a'.defers }) ⟨ha.1, ?_⟩ _ (.top _)
    exact .cons (.call _ _ _ _ _ (rels_append ⟨hl1, hf1⟩ hargs) ⟨hm1, hc1⟩) ha.2

theorem opok_panic {o : Oper} {K : AAct → List AO → Prop} {x : Operand} (ho : o.op = .panic x) {t : TypeId} {v : AV} (hx : a.ev E.gl x = .iface t v) (hq : Q (.panic [{ v := .iface t v }]) a H) : OpOk E N rd o a H K Q := by
  intro g0 g w a' hd hl hr ha
  have hv := ev_rel hr ha x
  rw [hx] at hv
  refine ⟨fun f _ => fence_fn _ _ _, ?_⟩
  rw [Oper.semAt_eq _ _ _ (by rw [ho]; simp)]
  generalize hu : a'.eval x = u at hv
  cases hv with
  | iface _ _ c hc =>
    have hrun : (execOp a'.eval o).run E.P w = .halt (.panic (.iface t c)) w := by
      unfold execOp
      rw [ho]
      simp only [hu, Instr.panic, Sem.run_bind, run_goPanic, Result.andThen_halt]
    rw [hrun]
    exact ⟨.panic _, a, H, g, hq, hl, hr, ha, .panic (.cons (.iface _ _ _ hc) .nil)⟩

theorem wop_sound {o : Oper} {K : AAct → List AO → Prop} (h : Wop E rd md o a H K Q) : OpOk E N rd o a H K Q := by
  have pureOk : (∀ c, o.op ≠ .defer c) → (match evPure E a H o with | some v => K (a.put o.dst v) H | none => False) → OpOk E N rd o a H K Q := by
    intro hnd h
    split at h
    · rename_i v hv; exact opok_of_value hnd h fun g w a' hr ha => evPure_sound hr ha hv
    · exact h.elim
  have heapOk : (∀ c, o.op ≠ .defer c) → (match evHeap E md a H o with | some (v, H') => K (a.put o.dst v) H' | none => False) → OpOk E N rd o a H K Q := by
    intro hnd h
    split at h
    · rename_i v H' hv; exact opok_of_heap hnd h fun g w a' hr ha => evHeap_sound hr ha hv
    · exact h.elim
  unfold Wop at h
  cases hop : o.op <;> rw [hop] at h <;> simp only at h
  case call c =>
    split at h
    · rename_i f hf
      split at h
      · rename_i fid first cap hfe; exact opok_call hop hf hfe h
      · rename_i l hfe; exact opok_yield hop hf hfe h
      · exact h.elim
    · exact h.elim
    · rename_i b hb
      split at h
      · split at h
        · rename_i x y t t2 hx ht
          split at h
          · rename_i i2 ht2
            split at h
            · exact h.elim
            · rename_i hni
              split at h
              · rename_i v H' he; exact opok_append hop hb hx ht ht2 (fun k e => hni k e) he h
              · exact h.elim
          · exact h.elim
        · exact h.elim
      · exact heapOk (by rw [hop]; simp) h
      · exact pureOk (by rw [hop]; simp) h
  case defer c =>
    split at h
    · rename_i f hc
      split at h
      · rename_i fid first cap hfe; exact opok_defer hop hc hfe h
      · exact h.elim
    · exact h.elim
  case panic x =>
    split at h
    · rename_i t v hx; exact opok_panic hop hx h
    · exact h.elim
  case convert s d x =>
    split at h
    · rename_i v hv; exact opok_of_value (by rw [hop]; simp) h fun g w a' hr ha => evPure_sound hr ha hv
    · exact heapOk (by rw [hop]; simp) h
  all_goals first
    | exact heapOk (by rw [hop]; simp) h
    | exact pureOk (by rw [hop]; simp) h

/-! ### Regions -/
def guardOk (ops : Array Oper) (a : AAct) (o : Oper) : Option Bool :=
  match o.guard with
  | none => some true
  | some (j, want) => match (ops[j]?).bind (·.dst) with
    | some d => match a.tmps.getD d .top with
      | .bool b => some (b == want)
      | .tup _ => some false
      | _ => none
    | none => none

theorem guard_sound {ops : Array Oper} {o : Oper} {b : Bool} (ha : ARel g a a') (h : guardOk ops a o = some b) : Region.wanted o (yielded ops a'.tmps) = b := by
  unfold guardOk at h
  unfold Region.wanted
  cases hg : o.guard with
  | none => rw [hg] at h; simp only at h ⊢; injection h
  | some p =>
    obtain ⟨j, want⟩ := p
    rw [hg] at h
    simp only at h ⊢
    split at h
    · rename_i d hd
      split at h
      · rename_i b' hb'
        injection h with h; subst h
        have hv := ha.1.2 d
        rw [hb', Array.getD_eq_getD_getElem?] at hv
        have : a'.tmps[d]? = some (.bool b') := by
          cases he : a'.tmps[d]? with
          | none => rw [he] at hv; exact absurd hv.bool_inv (by simp [undef])
          | some u => rw [he] at hv; simp only [Option.getD_some] at hv; rw [hv.bool_inv]
        unfold yielded
        rw [hd]
        simp only [Option.bind_some, this]
        cases b' <;> cases want <;> rfl
      · rename_i xs hxs
        injection h with h; subst h
        have hv := ha.1.2 d
        rw [hxs, Array.getD_eq_getD_getElem?] at hv
        unfold yielded
        rw [hd]
        simp only [Option.bind_some]
        cases he : a'.tmps[d]? with
        | none => rfl
        | some u =>
          rw [he] at hv
          simp only [Option.getD_some] at hv
          generalize u = u' at hv
          cases hv with
          | tup => rfl
      · simp at h
    · simp at h

theorem undef_rel (g : Ghost) : VRel g (.tup []) undef := .tup [] #[] rfl (fun i => by simp; exact .top _)

/-- A list of operations by their numbers goes well: one after the other. -/
theorem wpo_nil {ops : Array Oper} (h : Q .normal a H) : WPo E N rd ops Q [] a H := fun g0 g w a' hd hl hr ha => ⟨.normal, a, H, g, h, hl, hr, ha, .normal⟩

theorem wpo_cons {ops : Array Oper} {i : Nat} {l : List Nat} {o : Oper} (ho : ops[i]? = some o) {b : Bool} (hb : guardOk ops a o = some b) (h1 : b = true → OpOk E N rd o a H (WPo E N rd ops Q l) Q) (h2 : b = false → WPo E N rd ops Q l (a.put o.dst (.tup [])) H) :
    WPo E N rd ops Q (i :: l) a H := by
  intro g0 g w a' hd hl hr ha
  simp only [wpOpsIn, ho]
  rw [guard_sound ha hb]
  cases b with
  | true =>
    rw [if_pos rfl]
    have := h1 rfl g0 g w a' hd hl hr ha
    refine ⟨this.1, ?_⟩
    have mono : ∀ {r : Result Next}, o.uponIn (fenceOf g0 rd) 0 E.P a' (APut E g0 (WPo E N rd ops Q l)) (Conc E g0 Q) r → o.uponIn (fenceOf g0 rd) 0 E.P a' (wpOpsIn (fenceOf g0 rd) 0 E.P ops (Conc E g0 Q) l) (Conc E g0 Q) r := by
      have put : ∀ {a2 : Act} {w2 : World}, APut E g0 (WPo E N rd ops Q l) a2 w2 → wpOpsIn (fenceOf g0 rd) 0 E.P ops (Conc E g0 Q) l a2 w2 := fun ⟨A, H2, g2, hk, hl2, hr2, ha2⟩ => hk g0 g2 _ _ hd hl2 hr2 ha2
      intro r h
      cases r with
      | ok nx w2 =>
        cases nx <;> first | exact put h | exact h.elim | skip
        · exact ⟨h.1, CallsIn.mono h.2 fun e w' hh => by cases e <;> first | exact put hh | exact hh⟩
        · exact ⟨h.1, RoundIn.mono h.2 fun e w' hh => by cases e <;> first | exact put hh | exact hh⟩
        · exact ⟨h.1, RowsIn.mono h.2 fun v w' hh => put hh⟩
      | halt hh w2 => cases hh <;> exact h
    exact mono this.2
  | false =>
    rw [if_neg (by simp)]
    exact ⟨fun f _ => fence_fn _ _ _, h2 rfl g0 g w _ hd hl hr (ha.put _ (undef_rel _))⟩

/-- The operations of a region in the order of the text, computed. -/
def Wl (E : Env) (rd : Option Nat) (md : Nat → Nat) (ops : Array Oper) (Q : APost) : List Oper → AAct → List AO → Prop
  | [], a, H => Q .normal a H
  | o :: rest, a, H => match guardOk ops a o with
    | some b => (b = true → Wop E rd md o a H (Wl E rd md ops Q rest) Q) ∧ (b = false → Wl E rd md ops Q rest (a.put o.dst (.tup [])) H)
    | none => False

theorem opok_mono {o : Oper} {K K' : AAct → List AO → Prop} (h : OpOk E N rd o a H K Q) (k : ∀ a H, K a H → K' a H) : OpOk E N rd o a H K' Q := by
  intro g0 g w a' hd hl hr ha
  have := h g0 g w a' hd hl hr ha
  refine ⟨this.1, ?_⟩
  have put : ∀ {a2 : Act} {w2 : World}, APut E g0 K a2 w2 → APut E g0 K' a2 w2 := fun ⟨A, H2, g2, hk, r⟩ => ⟨A, H2, g2, k _ _ hk, r⟩
  have h := this.2
  revert h
  generalize (o.semAt (fenceOf g0 rd).round a'.eval).run E.P w = r
  intro h
  cases r with
  | ok nx w2 =>
    cases nx <;> first | exact put h | exact h.elim | skip
    · exact ⟨h.1, CallsIn.mono h.2 fun e w' hh => by cases e <;> first | exact put hh | exact hh⟩
    · exact ⟨h.1, RoundIn.mono h.2 fun e w' hh => by cases e <;> first | exact put hh | exact hh⟩
    · exact ⟨h.1, RowsIn.mono h.2 fun v w' hh => put hh⟩
  | halt hh w2 => cases hh <;> exact h

theorem wl_sound {ops : Array Oper} : ∀ (l : List Oper) (k : Nat), (∀ i, ops[k + i]? = l[i]?) → ∀ a H, Wl E rd md ops Q l a H → WPo E N rd ops Q ((List.range l.length).map (k + ·)) a H := by
  intro l
  induction l with
  | nil => intro k _ a H h; exact wpo_nil h
  | cons o rest ih =>
    intro k hk a H h
    have ho : ops[k]? = some o := by have := hk 0; simpa using this
    have hrest : ∀ i, ops[k + 1 + i]? = rest[i]? := fun i => by have := hk (i + 1); rw [show k + 1 + i = k + (i + 1) by omega, this]; rfl
    have hlist : (List.range (o :: rest).length).map (k + ·) = k :: (List.range rest.length).map (k + 1 + ·) := by
      rw [List.length_cons, List.range_succ_eq_map, List.map_cons, List.map_map]
      congr 1
      apply List.map_congr_left
      intro x _
      simp only [Function.comp]; omega
    rw [hlist]
    simp only [Wl] at h
    split at h
    · rename_i b hb
      exact wpo_cons ho hb (fun e => opok_mono (wop_sound (h.1 e)) (fun a H hh => ih (k + 1) hrest a H hh)) (fun e => ih (k + 1) hrest _ _ (h.2 e))
    · exact h.elim

theorem wpc_region {id : Nat} {ops : Array Oper} (h : Wl E rd md ops Q ops.toList a H) : WPc E N rd (.region id ops false) Q a H := by
  have := wl_sound (N := N) ops.toList 0 (fun i => by simp) a H h
  intro g0 g w a' hd hl hr ha
  refine wpV_of_wpIn (wpIn_region ?_)
  have := this g0 g w a' hd hl hr ha
  simp only [Array.length_toList, Nat.zero_add, List.map_id'] at this
  exact this

/-- Whatever order is drawn. -/
def ADraw (E : Env) (N : Nat) (rd : Option Nat) (ops : Array Oper) (Q : APost) (a : AAct) (H : List AO) : Prop := ∀ t, WPo E N rd ops Q (Region.linearise .any ops t) a H

theorem wpc_draw {id : Nat} {ops : Array Oper} (h : ADraw E N rd ops Q a H) : WPc E N rd (.region id ops true) Q a H := by
  intro g0 g w a' hd hl hr ha
  refine wpV_of_wpIn (wpIn_region_draw fun t => ?_)
  rw [E.mixed]
  exact h t g0 g w.drew a' hd hl hr.drew ha

/-- Whatever the first view fits, the second fits. -/
def Shift (E : Env) (N : Nat) (ts : List AV) (ds : List ADef) (H : List AO) (ts2 : List AV) (H2 : List AO) : Prop :=
  ∀ g0 g w a', Dom g0 N → GLe g0 g → E.Rep g H w → ARel g ⟨ts, ds⟩ a' → ∃ g', GLe g0 g' ∧ E.Rep g' H2 w ∧ ARel g' ⟨ts2, ds⟩ a'

theorem Shift.refl {ts : List AV} {ds : List ADef} : Shift E N ts ds H ts H := fun g0 g w a' hd hl hr ha => ⟨g, hl, hr, ha⟩

theorem WPc.shift {c : Code} {ts ts2 : List AV} {ds : List ADef} {H2 : List AO} (h : Shift E N ts ds H ts2 H2) (k : WPc E N rd c Q ⟨ts2, ds⟩ H2) : WPc E N rd c Q ⟨ts, ds⟩ H := by
  intro g0 g w a' hd hl hr ha
  obtain ⟨g', h1, h2, h3⟩ := h g0 g w a' hd hl hr ha
  exact k g0 g' w a' hd h1 h2 h3

/-- What code must achieve, computed; loops and ranges over functions stand as they are. -/
def W (E : Env) (N : Nat) (rd : Option Nat) (md : Nat → Nat) : Code → APost → AAct → List AO → Prop
  | .skip, Q, a, H => Q .normal a H
  | .label _, Q, a, H => Q .normal a H
  | .region _ ops draw, Q, a, H => match draw with
    | false => Wl E rd md ops Q ops.toList a H
    | true => ADraw E N rd ops Q a H
  | .seq x y, Q, a, H => W E N rd md x (AX.then (fun a H => ∃ ts2 H2, Shift E N a.tmps a.defers H ts2 H2 ∧ W E N rd md y Q ⟨ts2, a.defers⟩ H2) Q) a H
  | .cond c x y, Q, a, H => match a.ev E.gl c with
    | .bool t => (t = true → W E N rd md x Q a H) ∧ (t = false → W E N rd md y Q a H)
    | _ => False
  | .block id c, Q, a, H => W E N rd md c (AX.inBlock id Q) a H
  | .exit id, Q, a, H => Q (.exit id) a H
  | .goto l, Q, a, H => Q (.goto l) a H
  | .ret, Q, a, H => Q .ret a H
  | .loop c, Q, a, H => WPc E N rd (.loop c) Q a H
  | .rangeFunc f ps asg c, Q, a, H => WPc E N rd (.rangeFunc f ps asg c) Q a H
  | .scope c, Q, a, H => WPc E N rd (.scope c) Q a H
  | .refuse _, _, _, _ => False

theorem W_sound : ∀ (c : Code) (Q : APost) (a : AAct) (H : List AO), W E N rd md c Q a H → WPc E N rd c Q a H := by
  intro c
  induction c with
  | skip => intro Q a H h; exact wpc_skip h
  | label l => intro Q a H h; exact wpc_label h
  | region id ops draw =>
    intro Q a H h
    cases draw with
    | false => exact wpc_region h
    | true => exact wpc_draw h
  | seq x y ihx ihy =>
    intro Q a H h
    refine wpc_seq (WPc.mono (ihx _ _ _ h) fun e a H q => ?_)
    cases e <;> first | exact q | skip
    obtain ⟨ts2, H2, q1, q2⟩ := q
    exact WPc.shift q1 (ihy _ _ _ q2)
  | cond c x y ihx ihy =>
    intro Q a H h
    simp only [W] at h
    split at h
    · rename_i t ht
      exact wpc_cond ht (fun e => ihx _ _ _ (h.1 e)) (fun e => ihy _ _ _ (h.2 e))
    · exact h.elim
  | block id c ih => intro Q a H h; exact wpc_block (ih _ _ _ h)
  | exit id => intro Q a H h; exact wpc_exit h
  | goto l => intro Q a H h; exact wpc_goto h
  | ret => intro Q a H h; exact wpc_ret h
  | loop c ih => intro Q a H h; exact h
  | rangeFunc f ps asg c _ _ => intro Q a H h; exact h
  | scope c ih => intro Q a H h; exact h
  | refuse why => intro Q a H h; exact h.elim

end Go.Ab

/- The abstract view, 14: what lies behind is let go; results; deferred calls; functions. -/
set_option linter.unusedVariables false
set_option linter.unusedSimpArgs false
namespace Go.Ab
open Go Go.RowKit

variable {E : Env} {N : Nat} {rd : Option Nat} {md : Nat → Nat} {g g0 : Ghost} {H : List AO} {w w' : World} {a : AAct} {a' : Act} {Q : APost}

/-! ### Numbers below a bound -/
mutual
def AV.within (n : Nat) : AV → Bool
  | .ref id _ => decide (id < n)
  | .row xs => belowL n xs
  | .sl _ xs tok => belowL n xs && (match tok with | .at t _ => decide (t < n) | _ => true)
  | .msl id _ _ => decide (id < n)
  | .vsl id _ => decide (id < n)
  | .eref id _ _ => decide (id < n)
  | .map id => decide (id < n)
  | .fn _ xs ys => belowL n xs && belowL n ys
  | .yield id => decide (id < n)
  | .iface _ v => v.within n
  | .agg xs => belowL n xs
  | .tup xs => belowL n xs
  | _ => true
def belowL (n : Nat) : List AV → Bool
  | [] => true
  | x :: xs => x.within n && belowL n xs
end

theorem belowL_get {n : Nat} : ∀ {xs : List AV}, belowL n xs = true → ∀ i, (xs.getD i .top).within n = true := by
  intro xs
  induction xs with
  | nil => intro _ i; rfl
  | cons x xs ih =>
    intro h i
    simp only [belowL, Bool.and_eq_true] at h
    cases i with
    | zero => exact h.1
    | succ i => simpa using ih h.2 i

theorem belowL_of {n : Nat} : ∀ {xs : List AV}, (∀ i, (xs.getD i .top).within n = true) → belowL n xs = true := by
  intro xs
  induction xs with
  | nil => intro _; rfl
  | cons x xs ih =>
    intro h
    simp only [belowL, Bool.and_eq_true]
    exact ⟨h 0, ih fun i => by simpa using h (i + 1)⟩

def AO.within (n : Nat) : AO → Bool
  | .cells xs => belowL n xs
  | .vec _ _ xs => belowL n xs
  | .loop _ _ _ tmps _ _ _ d => belowL n tmps && decide (d < n)
  | .map es _ => es.all fun e => e.1.within n && e.2.within n
  | _ => true

/-- All that the objects lead to lies below n. -/
def Fit (n : Nat) (H : List AO) : Prop := ∀ o ∈ H, o.within n = true

def Ghost.cut (g : Ghost) (n : Nat) : Ghost := { g with phi := g.phi.take n, tok := fun t e => if t < n then g.tok t e else none }

theorem cut_phi {n id b : Nat} (h : g.phi[id]? = some b) (hi : id < n) : (g.cut n).phi[id]? = some b := by
  show (g.phi.take n)[id]? = some b
  rw [List.getElem?_take, if_pos hi]; exact h

theorem cut_tok {n t e : Nat} {ti : TI} (h : g.tok t e = some ti) (hi : t < n) : (g.cut n).tok t e = some ti := by
  show (if t < n then g.tok t e else none) = some ti
  rw [if_pos hi]; exact h

theorem VRel.cut {n : Nat} {v : AV} {c : Value} (h : VRel g v c) : v.within n = true → VRel (g.cut n) v c := by
  induction h with
  | top v => intro _; exact .top v
  | bool b => intro _; exact .bool b
  | int k n => intro _; exact .int k n
  | str s b h => intro _; exact .str s b h
  | nilp => intro _; exact .nilp
  | ref id off b e => intro h; simp only [AV.within, decide_eq_true_eq] at h; exact .ref id off b (cut_phi e h)
  | row xs b o vs hk hv ih => intro h; exact .row xs b o vs hk fun i => ih i (belowL_get h i)
  | nsl tok e =>
    intro h
    refine .nsl tok ?_
    cases tok with
    | ro => trivial
    | full => trivial
    | «at» t e' =>
      simp only [AV.within, belowL, Bool.true_and, decide_eq_true_eq] at h
      obtain ⟨ti, h1, h2⟩ := e
      exact ⟨ti, cut_tok h1 h, h2⟩
  | sl m xs tok b o cap vs hn hk hv ht ih =>
    intro h
    simp only [AV.within, Bool.and_eq_true] at h
    refine .sl m xs tok b o cap vs hn hk (fun i => ih i (belowL_get h.1 i)) ?_
    cases tok with
    | ro => trivial
    | full => exact ht
    | «at» t e =>
      obtain ⟨ti, h1, h2⟩ := ht
      have := h.2
      simp only [decide_eq_true_eq] at this
      exact ⟨ti, cut_tok h1 this, h2⟩
  | msl id off m b off' cap e hn ho => intro h; simp only [AV.within, decide_eq_true_eq] at h; exact .msl id off m b off' cap (cut_phi e h) hn ho
  | vsl id m ti ht h0 hn hs => intro h; simp only [AV.within, decide_eq_true_eq] at h; exact .vsl id m ti (cut_tok ht h) h0 hn hs
  | eref id m off ti ht => intro h; simp only [AV.within, decide_eq_true_eq] at h; exact .eref id m off ti (cut_tok ht h)
  | vslN id ti ht hs => intro h; simp only [AV.within, decide_eq_true_eq] at h; exact .vslN id ti (cut_tok ht h) hs
  | vslZ id ti b o ht hs => intro h; simp only [AV.within, decide_eq_true_eq] at h; exact .vslZ id ti b o (cut_tok ht h) hs
  | map id b e => intro h; simp only [AV.within, decide_eq_true_eq] at h; exact .map id b (cut_phi e h)
  | nilmap => intro _; exact .nilmap
  | fn f first cap fs cs hl hf hm hc ih1 ih2 =>
    intro h
    simp only [AV.within, Bool.and_eq_true] at h
    exact .fn f first cap fs cs hl (fun i => ih1 i (belowL_get h.1 i)) hm (fun i => ih2 i (belowL_get h.2 i))
  | yield id b e => intro h; simp only [AV.within, decide_eq_true_eq] at h; exact .yield id b (cut_phi e h)
  | nilfn => intro _; exact .nilfn
  | iface t v c _ ih => intro h; exact .iface t v c (ih h)
  | nili => intro _; exact .nili
  | agg xs cs hl _ ih => intro h; exact .agg xs cs hl fun i => ih i (belowL_get h i)
  | tup xs cs hl _ ih => intro h; exact .tup xs cs hl fun i => ih i (belowL_get h i)

theorem VRel.within {n : Nat} {v : AV} {c : Value} (h : VRel g v c) (hp : g.phi.length ≤ n) (ht : ∀ t e ti, g.tok t e = some ti → t < n) : v.within n = true := by
  have lt : ∀ {id b : Nat}, g.phi[id]? = some b → id < n := fun h => Nat.lt_of_lt_of_le (List.getElem?_eq_some_iff.1 h).1 hp
  induction h with
  | ref id off b e => simp [AV.within, lt e]
  | row xs b o vs hk hv ih => exact belowL_of ih
  | nsl tok e =>
    simp only [AV.within, belowL, Bool.true_and]
    cases tok with
    | ro => rfl
    | full => rfl
    | «at» t e' => obtain ⟨ti, h1, h2⟩ := e; simp [ht _ _ _ h1]
  | sl m xs tok b o cap vs hn hk hv htk ih =>
    simp only [AV.within, Bool.and_eq_true]
    refine ⟨belowL_of ih, ?_⟩
    cases tok with
    | ro => rfl
    | full => rfl
    | «at» t e => obtain ⟨ti, h1, h2⟩ := htk; simp [ht _ _ _ h1]
  | msl id off m b off' cap e hn ho => simp [AV.within, lt e]
  | vsl id m ti h1 h0 hn hs => simp [AV.within, ht _ _ _ h1]
  | eref id m off ti h1 => simp [AV.within, ht _ _ _ h1]
  | vslN id ti h1 hs => simp [AV.within, ht _ _ _ h1]
  | vslZ id ti b o h1 hs => simp [AV.within, ht _ _ _ h1]
  | map id b e => simp [AV.within, lt e]
  | fn f first cap fs cs hl hf hm hc ih1 ih2 => simp only [AV.within, Bool.and_eq_true]; exact ⟨belowL_of ih1, belowL_of ih2⟩
  | yield id b e => simp [AV.within, lt e]
  | iface t v c _ ih => exact ih
  | agg xs cs hl _ ih => exact belowL_of ih
  | tup xs cs hl _ ih => exact belowL_of ih
  | _ => rfl

theorem Rep.fit {n0 : Nat} {w0 : World} {gl : Nat → List AV} (hr : Rep n0 w0 gl g H w) : Fit H.length H := by
  have ht : ∀ t e ti, g.tok t e = some ti → t < H.length := by
    intro t e ti h
    rcases Nat.lt_or_ge t H.length with h' | h'
    · exact h'
    · rw [hr.beyond t e h'] at h; simp at h
  have hp : g.phi.length ≤ H.length := by rw [hr.len]; exact Nat.le_refl _
  intro o ho
  obtain ⟨i, hi, rfl⟩ := List.getElem_of_mem ho
  have h := hr.objs i H[i] (List.getElem?_eq_getElem hi)
  cases hx : H[i] <;> rw [hx] at h <;> try rfl
  · obtain ⟨b, cs, T, fz, h1, h2, h3, h4, h5, _⟩ := h
    exact belowL_of fun k => (h5 k).within hp ht
  · rename_i sz n xs
    obtain ⟨ti, h1, _, h2, h3, h4, h5⟩ := h
    rcases h5 with h5 | ⟨cs, T, fz, _, _, _, h6, _⟩
    · have : xs = [] := by
        have hn : n = 0 := by omega
        subst hn; simp at h3; exact h3
      subst this; rfl
    · exact belowL_of fun k => (h6 k).within hp ht
  · obtain ⟨b, cs, db, h1, h2, h3, h4, h5⟩ := h
    simp only [AO.within, Bool.and_eq_true]
    exact ⟨belowL_of fun k => (h4.2 k).within hp ht, by have := (List.getElem?_eq_some_iff.1 h3).1; simp; omega⟩
  · rename_i es clock
    obtain ⟨b, ms, h1, h2, h3, h4, h5⟩ := h
    simp only [AO.within, List.all_eq_true]
    intro e he
    obtain ⟨k, hk, rfl⟩ := List.getElem_of_mem he
    have := h5 k ms[k] (Array.getElem?_eq_getElem (by omega))
    rw [List.getD_eq_getElem?_getD, List.getElem?_eq_getElem hk] at this
    simp only [Option.getD_some] at this
    rw [Bool.and_eq_true]
    exact ⟨this.1.within hp ht, this.2.1.within hp ht⟩

theorem own_cut {H2 l : List AO} {i : Nat} (hi : i < H2.length) : own (g.cut H2.length) H2 i = own g (H2 ++ l) i := by
  unfold own
  rw [List.getElem?_append_left hi]
  have hp : (g.cut H2.length).phi[i]? = g.phi[i]? := by show (g.phi.take _)[i]? = _; rw [List.getElem?_take, if_pos hi]
  cases hH : H2[i]? with
  | none => rfl
  | some x =>
    cases x <;> first | rfl | exact hp | skip
    all_goals
      show (match (if i < H2.length then g.tok i _ else none) with | some ti => _ | none => _) = _
      rw [if_pos hi]; rfl

/-- What lies behind is let go. -/
theorem Rep.drop {n0 : Nat} {w0 : World} {gl : Nat → List AV} {H2 l : List AO} (hr : Rep n0 w0 gl g (H2 ++ l) w) (hf : Fit H2.length H2) (hgl : ∀ i, belowL H2.length (gl i) = true) : Rep n0 w0 gl (g.cut H2.length) H2 w := by
  refine ⟨hr.below, hr.n0le, hr.know, ?_, fun t e h => ?_, fun i o h => ?_, fun i j b hi hj => ?_, fun i => (hr.glob i).cut (hgl i)⟩
  · show (g.phi.take _).length = _
    have := hr.len
    simp at this
    simp; omega
  · show (if t < H2.length then g.tok t e else none) = none
    rw [if_neg (by omega)]
  · have hi : i < H2.length := (List.getElem?_eq_some_iff.1 h).1
    have ho := hr.objs i o (by rw [List.getElem?_append_left hi]; exact h)
    have hfo := hf o (List.mem_of_getElem? h)
    cases o with
    | dead => trivial
    | cells xs =>
      obtain ⟨b, cs, T, fz, h1, h2, h3, h4, h5, h6, h7⟩ := ho
      exact ⟨b, cs, T, fz, cut_phi h1 hi, h2, h3, h4, fun k => (h5 k).cut (belowL_get hfo k), h6, h7⟩
    | vec sz n xs =>
      obtain ⟨ti, h1, h2', h2, h3, h4, h5⟩ := ho
      refine ⟨ti, cut_tok h1 hi, fun e' he => ?_, h2, h3, h4, ?_⟩
      · show (if i < H2.length then g.tok i e' else none) = none
        rw [if_pos hi]; exact h2' e' he
      rcases h5 with h5 | ⟨cs, T, fz, h6, h7, h8, h9, h10⟩
      · exact .inl h5
      · exact .inr ⟨cs, T, fz, h6, h7, h8, fun k => (h9 k).cut (belowL_get hfo k), h10⟩
    | tail sz e =>
      obtain ⟨ti, h1, h2, h3⟩ := ho
      refine ⟨ti, cut_tok h1 hi, fun e' he => ?_, h3⟩
      show (if i < H2.length then g.tok i e' else none) = none
      rw [if_pos hi]; exact h2 e' he
    | iter s pos => obtain ⟨b, t, h1, h2⟩ := ho; exact ⟨b, t, cut_phi h1 hi, h2⟩
    | loop st pe f tmps ps asg body d =>
      simp only [AO.within, Bool.and_eq_true, decide_eq_true_eq] at hfo
      obtain ⟨b, cs, db, h1, h2, h3, h4, h5⟩ := ho
      exact ⟨b, cs, db, cut_phi h1 hi, h2, cut_phi h3 hfo.2, ⟨h4.1, fun k => (h4.2 k).cut (belowL_get hfo.1 k)⟩, h5⟩
    | defr => obtain ⟨b, h1, h2⟩ := ho; exact ⟨b, cut_phi h1 hi, h2⟩
    | map es c =>
      obtain ⟨b, ms, h1, h2, h3, h4, h5⟩ := ho
      simp only [AO.within, List.all_eq_true, Bool.and_eq_true] at hfo
      refine ⟨b, ms, cut_phi h1 hi, h2, h3, h4, fun k m hm => ?_⟩
      have hk : k < es.length := by have := (Array.getElem?_eq_some_iff.1 hm).1; omega
      have hb := hfo es[k] (List.getElem_mem hk)
      have := h5 k m hm
      rw [List.getD_eq_getElem?_getD, List.getElem?_eq_getElem hk] at this ⊢
      exact ⟨this.1.cut hb.1, this.2.1.cut hb.2, this.2.2⟩
  · have hil : i < H2.length := by
      unfold own at hi
      cases hH : H2[i]? with
      | none => rw [hH] at hi; simp at hi
      | some x => exact (List.getElem?_eq_some_iff.1 hH).1
    have hjl : j < H2.length := by
      unfold own at hj
      cases hH : H2[j]? with
      | none => rw [hH] at hj; simp at hj
      | some x => exact (List.getElem?_eq_some_iff.1 hH).1
    rw [own_cut (l := l) hil] at hi
    rw [own_cut (l := l) hjl] at hj
    exact hr.apart i j b hi hj

theorem GLe.cut (h : GLe g0 g) {n : Nat} (hd : Dom g0 N) (hn : N ≤ n) : GLe g0 (g.cut n) := by
  refine ⟨h.K, fun i b e => cut_phi (h.phi i b e) ?_, fun t e ti he => cut_tok (h.tok t e ti he) ?_⟩
  · have := (List.getElem?_eq_some_iff.1 e).1
    have := hd.1
    omega
  · rcases Nat.lt_or_ge t n with h' | h'
    · exact h'
    · rw [hd.2 t e (by omega)] at he; simp at he

theorem Rep.dom {n0 : Nat} {w0 : World} {gl : Nat → List AV} (hr : Rep n0 w0 gl g H w) : Dom g H.length := ⟨hr.len, hr.beyond⟩

end Go.Ab

/- The abstract view, 15: results; deferred calls; functions. -/
set_option linter.unusedVariables false
set_option linter.unusedSimpArgs false
namespace Go.Ab
open Go Go.RowKit

variable {E : Env} {N : Nat} {rd : Option Nat} {md : Nat → Nat} {g g0 : Ghost} {H : List AO} {w w' : World} {a : AAct} {a' : Act} {Q : APost}

/-! ### Results -/
def evResult (E : Env) (ts : List AV) (H : List AO) : ResultVar → Option AV
  | .tmp t => some (ts.getD t .top)
  | .cell p t => match E.ty t with
    | some i => (readCells H i.size (ts.getD p .top)).map (mkVal i)
    | none => none

def evResultsL (E : Env) (ts : List AV) (H : List AO) : List ResultVar → Option (List AV)
  | [] => some []
  | r :: rs => match evResult E ts H r, evResultsL E ts H rs with
    | some v, some vs => some (v :: vs)
    | _, _ => none

def evResults (E : Env) (fn : Func) (ts : List AV) (H : List AO) : Option AV :=
  match evResultsL E ts H fn.results.toList with
  | some [v] => some v
  | some vs => some (.tup vs)
  | none => none

def resF (cs : Array Value) : ResultVar → Sem Value
  | .tmp t => pure (cs.getD t undef)
  | .cell a t => do loadVar t (← asAddr (cs.getD a undef))

theorem results_eq (fn : Func) (cs : Array Value) : results fn cs = (do let vs ← fn.results.mapM (resF cs); pure (if h : vs.size = 1 then vs[0] else .tuple vs)) := by
  unfold results
  congr 1

theorem result_run (hr : E.Rep g H w) {ts : List AV} {cs : Array Value} (ht : VRels g ts cs) {r : ResultVar} {v : AV} (h : evResult E ts H r = some v) :
    ∃ c, (resF cs r).run E.P w = .ok c w ∧ VRel g v c := by
  cases r with
  | tmp t => simp only [evResult] at h; injection h with h; subst h; exact ⟨_, rfl, ht.2 t⟩
  | cell p t =>
    simp only [evResult] at h
    split at h
    · rename_i i hi
      cases hrd : readCells H i.size (ts.getD p .top) with
      | none => rw [hrd] at h; simp at h
      | some xs =>
        rw [hrd] at h; simp only [Option.map_some] at h; injection h with h; subst h
        obtain ⟨u, h1, h2⟩ := load_sound hr hi hrd (ht.2 p)
        obtain ⟨b, o, vs, hc, _⟩ := readCells_rel hr hrd (ht.2 p)
        refine ⟨u, ?_, h2⟩
        rw [hc] at h1
        simp only [resF, hc]
        simpa [Instr.loadAt, Instr.sureAddr, asAddr] using h1
    · simp at h

theorem results_run (hr : E.Rep g H w) {fn : Func} {ts : List AV} {cs : Array Value} (ht : VRels g ts cs) {v : AV} (h : evResults E fn ts H = some v) : ∃ c, (results fn cs).run E.P w = .ok c w ∧ VRel g v c := by
  have key : ∀ (rs : List ResultVar) (vs : List AV), evResultsL E ts H rs = some vs → ∃ us : List Value, (rs.mapM (resF cs)).run E.P w = .ok us w ∧ us.length = vs.length ∧ ∀ i, VRel g (vs.getD i .top) (us.getD i undef) := by
    intro rs
    induction rs with
    | nil => intro vs h; simp only [evResultsL] at h; injection h with h; subst h; exact ⟨[], rfl, rfl, fun i => .top _⟩
    | cons r rs ih =>
      intro vs h
      simp only [evResultsL] at h
      split at h
      · rename_i x xs hx hxs
        injection h with h; subst h
        obtain ⟨c, h1, h2⟩ := result_run hr ht hx
        obtain ⟨us, h3, h4, h5⟩ := ih xs hxs
        refine ⟨c :: us, ?_, by simp [h4], fun i => ?_⟩
        · simp only [List.mapM_cons, Sem.run_bind, h1, Result.andThen_ok, h3, Sem.run_pure]
        · cases i with
          | zero => exact h2
          | succ i => simpa using h5 i
      · simp at h
  unfold evResults at h
  rw [results_eq, Sem.run_bind, Array.mapM_eq_mapM_toList, Sem.run_map]
  split at h
  · rename_i x hx
    injection h with h; subst h
    obtain ⟨us, h1, h2, h3⟩ := key _ _ hx
    rw [h1]
    match us, h2 with
    | [u], _ => exact ⟨u, by simp, h3 0⟩
  · rename_i vs hne hx
    injection h with h; subst h
    obtain ⟨us, h1, h2, h3⟩ := key _ _ hx
    rw [h1]
    have hl : us.length ≠ 1 := by
      intro e
      rw [h2] at e
      match vs, e with
      | [v], _ => exact hne v rfl
    refine ⟨.tuple us.toArray, by simp [hl], .tup _ _ (by simp [h2]) fun i => ?_⟩
    have := h3 i
    simpa [List.getD_eq_getElem?_getD, Array.getD_eq_getD_getElem?] using this
  · simp at h

/-! ### Ways out, with what lies behind let go -/
def chWithin (n : Nat) (ch : List APanic) : Bool := ch.all fun p => p.v.within n

def AE.within (n : Nat) : AE → Bool
  | .ret v => v.within n
  | .panic ch => chWithin n ch

/-- An ending over an abstract heap of which the end may be let go. -/
def Out (N : Nat) (R : AE → List AO → Prop) (x : AE) (H : List AO) : Prop :=
  ∃ y, (∀ g e, ERel g x e → ERel g y e) ∧ (R y H ∨ ∃ H2 l, H = H2 ++ l ∧ N ≤ H2.length ∧ Fit H2.length H2 ∧ y.within H2.length = true ∧ R y H2)

theorem PRels.cut {n : Nat} {ch : List APanic} {cs : List PanicEntry} (h : PRels g ch cs) : chWithin n ch = true → PRels (g.cut n) ch cs := by
  induction h with
  | nil => intro _; exact .nil
  | cons hv _ ih =>
    intro h
    simp only [chWithin, List.all_cons, Bool.and_eq_true] at h
    exact .cons (hv.cut h.1) (ih h.2)

theorem ERel.cut {n : Nat} {x : AE} {e : Ending} (h : ERel g x e) (hx : x.within n = true) : ERel (g.cut n) x e := by
  cases h with
  | ret hv => exact .ret (hv.cut hx)
  | panic hp => exact .panic (hp.cut hx)

theorem glob_within (hr : E.Rep g H w) (n : Nat) (hn : H.length ≤ n) (i : Nat) : belowL n (E.gl i) = true := by
  have := (hr.glob i).within (n := n) (by rw [hr.len]; exact hn) (fun t e ti h => by
    rcases Nat.lt_or_ge t n with h' | h'
    · exact h'
    · rw [hr.beyond t e (by omega)] at h; simp at h)
  simpa [AV.within] using this

theorem out_econc {R : AE → List AO → Prop} (hd : Dom g0 N) (hgl : ∀ n, N ≤ n → ∀ i, belowL n (E.gl i) = true) {x : AE} (ho : Out N R x H) (hl : GLe g0 g) (hr : E.Rep g H w) {e : Ending} (he : ERel g x e) : EConc E g0 R e w := by
  obtain ⟨y, hy, hR | ⟨H2, l, rfl, hn, hf, hx, hR⟩⟩ := ho
  · exact ⟨y, H, g, hR, hl, hr, hy _ _ he⟩
  exact ⟨y, H2, g.cut H2.length, hR, hl.cut hd hn, Rep.drop hr hf (hgl _ hn), (hy _ _ he).cut hx⟩

/-! ### Deferred calls -/
inductive AMode where
  | returning
  | panicking (ch : List APanic)

inductive MRel (g : Ghost) : AMode → FrameMode → Prop
  | returning : MRel g .returning .returning
  | panicking {ch : List APanic} {cs : List PanicEntry} (h : PRels g ch cs) : MRel g (.panicking ch) (.panicking cs)

theorem MRel.mono {g g' : Ghost} (h : GLe g g') {u : AMode} {v : FrameMode} (r : MRel g u v) : MRel g' u v := by
  cases r with
  | returning => exact .returning
  | panicking hp => exact .panicking (hp.mono h)

def asettle : AMode → AMode
  | .panicking (⟨_, true⟩ :: _) => .returning
  | u => u

def araised (u : AMode) (ch : List APanic) : AMode :=
  match u with
  | .panicking old => .panicking (ch ++ old)
  | .returning => .panicking ch

/-- recover: what it hands back, and the mode of the frame below. -/
def arecover : AMode → AV × AMode
  | .panicking (⟨v, false⟩ :: older) => (v, .panicking (⟨v, true⟩ :: older))
  | u => (.nili, u)

theorem PRels.goexit {ch : List APanic} {cs : List PanicEntry} (h : PRels g ch cs) : cs.dropWhile (!·.goexit) = [] := by
  induction h with
  | nil => rfl
  | cons _ _ ih => simpa using ih

theorem settle_rel {u : AMode} {v : FrameMode} (h : MRel g u v) : MRel g (asettle u) (settle v) := by
  cases h with
  | returning => exact .returning
  | panicking hp =>
    cases hp with
    | nil => exact .panicking .nil
    | cons hv hs =>
      rename_i p v ps qs
      obtain ⟨pv, pr⟩ := p
      cases pr with
      | false => exact .panicking (.cons hv hs)
      | true =>
        have : settle (.panicking ({ v, recovered := true } :: qs)) = .returning := by simp only [settle, hs.goexit]
        simp only [asettle]
        rw [this]; exact .returning

theorem PRels.append {c1 c2 : List APanic} {d1 d2 : List PanicEntry} (h : PRels g c1 d1) (k : PRels g c2 d2) : PRels g (c1 ++ c2) (d1 ++ d2) := by
  induction h with
  | nil => exact k
  | cons hv _ ih => exact .cons hv ih

theorem raised_rel {u : AMode} {v : FrameMode} (h : MRel g u v) {ch : List APanic} {cs : List PanicEntry} (hp : PRels g ch cs) : MRel g (araised u ch) (raised v cs) := by
  cases h with
  | returning => exact .panicking hp
  | panicking ho => exact .panicking (hp.append ho)

theorem DRels.nil_inv {ys : List Deferred} (h : DRels g [] ys) : ys = [] := by cases h; rfl

/-- A deferred call goes well: u: the mode of the frame below. -/
def ACallD (E : Env) (f : FuncId) (args : List AV) (u : AMode) (H : List AO) (R : AE → AMode → List AO → Prop) : Prop :=
  ∀ g w cs v, E.Rep g H w → VRels g args cs → MRel g u v → (callFunc f cs).run E.P w = .ok (.enter f cs) w ∧
    CallsDIn Fence.wide 0 E.P f cs v w (fun e v2 w2 => ∃ x u2 H2 g2, R x u2 H2 ∧ GLe g g2 ∧ E.Rep g2 H2 w2 ∧ ERel g2 x e ∧ MRel g2 u2 v2)

theorem ACallD.mono {f : FuncId} {args : List AV} {u : AMode} {R R' : AE → AMode → List AO → Prop} (h : ACallD E f args u H R) (k : ∀ x u H, R x u H → R' x u H) : ACallD E f args u H R' := by
  intro g w cs v hr hv hu
  obtain ⟨h1, h2⟩ := h g w cs v hr hv hu
  exact ⟨h1, CallsDIn.mono h2 fun e v2 w2 ⟨x, u2, H2, g2, q, r⟩ => ⟨x, u2, H2, g2, k _ _ _ q, r⟩⟩

/-- The deferred calls of a function that is left. -/
def ALeave (E : Env) (N : Nat) (fn : Func) (R : AE → List AO → Prop) (ts : List AV) : List ADef → AMode → List AO → Prop
  | [], .returning, H => match evResults E fn ts H with
    | some v => Out N R (.ret v) H
    | none => False
  | [], .panicking ch, H => Out N R (.panic ch) H
  | .mark id :: ds, u, H => H[id]? = some .defr ∧ ALeave E N fn R ts ds u (H.set id .dead)
  | .call f args cap :: ds, u, H => ACallD E f (args ++ cap) u H fun x u2 H2 => match x with
    | .ret _ => ALeave E N fn R ts ds (asettle u2) H2
    | .panic ch => ALeave E N fn R ts ds (araised u2 ch) H2

theorem Rep.kill_defr (hr : E.Rep g H w) {id b : Nat} (hH : H[id]? = some .defr) (hb : g.phi[id]? = some b) : E.Rep g (H.set id .dead) (w.putObj b (.deferred none)) := by
  obtain ⟨b', h1, h2, h3⟩ := hr.objs _ _ hH
  rw [hb] at h1; injection h1 with h1; subst h1
  have hown : own g H id = some b := by unfold own; rw [hH]; exact hb
  have hid : id < H.length := (List.getElem?_eq_some_iff.1 hH).1
  have hold : ∀ k, k ≠ b → (w.putObj b (.deferred none)).heap[k]? = w.heap[k]? := fun k hk => World.putObj_heap_other hk
  have hdead : own g (H.set id .dead) id = none := by unfold own; rw [List.getElem?_set_self hid]
  refine ⟨⟨hr.below.os, hr.below.tape, hr.below.output, by simp [World.putObj]; exact hr.below.size, fun k hk => (hold k (by omega)).trans (hr.below.block k hk)⟩, hr.n0le, fun b' o v h => ?_, by simp; exact hr.len, fun t e ht => hr.beyond t e (by simpa using ht), fun i o h => ?_, fun i j b' hi hj => ?_, hr.glob⟩
  · have hc := hr.know b' o v h
    have hne : b' ≠ b := by rintro rfl; simp [World.cell?, h3] at hc
    simpa [World.cell?, hold b' hne] using hc
  · by_cases e : id = i
    · subst e
      rw [List.getElem?_set_self hid] at h
      injection h with h; subst h; trivial
    · rw [List.getElem?_set_ne e] at h
      refine ORep.frame h (hr.objs i o h) (GLe.refl g) (fun b' hb' => hold b' ?_) (fun _ _ _ h => h) (fun _ h => h)
      rintro rfl
      exact e (hr.apart _ _ _ hown hb')
  · have hi' : i ≠ id := by rintro rfl; rw [hdead] at hi; simp at hi
    have hj' : j ≠ id := by rintro rfl; rw [hdead] at hj; simp at hj
    rw [own_set_other hi'.symm] at hi
    rw [own_set_other hj'.symm] at hj
    exact hr.apart i j b' hi hj

theorem leave_sound {fn : Func} {R : AE → List AO → Prop} (hd : Dom g0 N) (hgl : ∀ n, N ≤ n → ∀ i, belowL n (E.gl i) = true) {ts : List AV} {tmps : Array Value} : ∀ (ds : List ADef) (u : AMode) (H : List AO), ALeave E N fn R ts ds u H →
    ∀ g w v dds, GLe g0 g → E.Rep g H w → VRels g ts tmps → MRel g u v → DRels g ds dds → LeavesInM Fence.wide 0 E.P fn tmps (EConc E g0 R) dds v w := by
  intro ds
  induction ds with
  | nil =>
    intro u H h g w v dds hl hr ht hu hds
    cases hds
    cases hu with
    | returning =>
      simp only [ALeave] at h
      split at h
      · rename_i x hx
        obtain ⟨c, h1, h2⟩ := results_run hr ht hx
        exact ⟨c, h1, out_econc hd hgl h hl hr (.ret h2)⟩
      · exact h.elim
    | panicking hp => exact out_econc hd hgl h hl hr (.panic hp)
  | cons d ds ih =>
    intro u H h g w v dds hl hr ht hu hds
    cases hds with
    | cons hd1 hs =>
      have hv : v ≠ .run := by cases hu <;> simp
      refine ⟨hv, ?_⟩
      cases hd1 with
      | mark id b hb =>
        obtain ⟨hH, hrest⟩ := h
        left
        obtain ⟨b', h1, h2, h3⟩ := hr.objs _ _ hH
        rw [hb] at h1; injection h1 with h1; subst h1
        exact ⟨b, _, rfl, run_takeDeferred h3, ih u _ hrest g _ v _ hl (Rep.kill_defr hr hH hb) ht hu hs⟩
      | call f args cap as cs h1 h2 =>
        right
        obtain ⟨e1, e2⟩ := h g w (as ++ cs) v hr (rels_append h1 h2) hu
        refine ⟨fun h => by simp [Fence.wide] at h, .func f, cs, f, as ++ cs, rfl, ?_, fun _ _ => trivial, CallsDIn.mono e2 ?_⟩
        · simp only [invoke]; exact e1
        · rintro e v2 w2 ⟨x, u2, H2, g2, hx, hl2, hr2, he, hu2⟩
          cases he with
          | ret hv => exact ih _ _ hx g2 w2 _ _ (hl.trans hl2) hr2 (ht.mono hl2) (settle_rel hu2) (hs.mono hl2)
          | panic hp => exact ih _ _ hx g2 w2 _ _ (hl.trans hl2) hr2 (ht.mono hl2) (raised_rel hu2 hp) (hs.mono hl2)

/-- What a function's body must achieve. -/
def FPost (E : Env) (N : Nat) (fn : Func) (R : AE → List AO → Prop) : APost
  | .normal, a, H | .ret, a, H => ALeave E N fn R a.tmps a.defers .returning H
  | .panic ch, a, H => ALeave E N fn R a.tmps a.defers (.panicking ch) H
  | _, _, _ => False

theorem enter_tmps {args : List AV} {cs : Array Value} (h : VRels g args cs) (n : Nat) : VRels g (args ++ List.replicate (n - args.length) .top) (cs ++ Array.replicate (n - cs.size) undef) := by
  refine rels_append h ⟨by simp [h.1], fun i => ?_⟩
  have : (List.replicate (n - args.length) AV.top).getD i .top = .top := by
    rw [List.getD_eq_getElem?_getD, List.getElem?_replicate]
    split <;> rfl
  rw [this]; exact .top _

theorem callFunc_enter {P : Program} {f : FuncId} {fn : Func} {c : Code} (hf : P.funcs[f]? = some fn) (hn : (fn.name == "runtime.NumGoroutine") = false) (hb : fn.body = some c) (cs : Array Value) (w : World) : (callFunc f cs).run P w = .ok (.enter f cs) w := by
  have hn' : ¬ fn.name = "runtime.NumGoroutine" := by simpa using hn
  simp [callFunc, hf, hn', hb]

/-- A call of a function with a body goes well. -/
def AEnter (E : Env) (f : FuncId) (args : List AV) (H : List AO) (R : AE → List AO → Prop) : Prop :=
  ∀ g w cs, E.Rep g H w → VRels g args cs → (callFunc f cs).run E.P w = .ok (.enter f cs) w ∧ CallsIn Fence.wide 0 E.P f cs w (EConc E g R)

theorem AEnter.call {f : FuncId} {args : List AV} {R : AE → List AO → Prop} (h : AEnter E f args H R) : ACall E f args H R := fun g w cs hr hv => .inr (h g w cs hr hv)

theorem AEnter.mono {f : FuncId} {args : List AV} {R R' : AE → List AO → Prop} (h : AEnter E f args H R) (k : ∀ x H, R x H → R' x H) : AEnter E f args H R' := fun g w cs hr hv =>
  ⟨(h g w cs hr hv).1, CallsIn.mono (h g w cs hr hv).2 fun e w' hh => hh.mono k⟩

/-- **A function's contract, from its body.** -/
theorem AEnter.of_body {f : FuncId} {fn : Func} {c : Code} {args : List AV} {R : AE → List AO → Prop} (md : Nat → Nat) (hf : E.P.funcs[f]? = some fn) (hn : (fn.name == "runtime.NumGoroutine") = false) (hb : fn.body = some c)
    (h : Fit H.length H → W E H.length none md c (FPost E H.length fn R) ⟨args ++ List.replicate (fn.ntmps - args.length) .top, []⟩ H) : AEnter E f args H R := by
  intro g w cs hr hv
  refine ⟨callFunc_enter hf hn hb cs w, ?_⟩
  refine callsIn_of_wpV hf hb ?_
  have hw := W_sound c _ _ _ (h hr.fit)
  refine wpV_mono (hw g g w { tmps := cs ++ Array.replicate (fn.ntmps - cs.size) undef, defers := [] } hr.dom (GLe.refl g) hr ⟨enter_tmps hv _, .nil⟩) ?_
  rintro e a2 w2 ⟨x, A, H2, g2, hq, hl, hr2, ha, hx⟩
  have hgl : ∀ n, H.length ≤ n → ∀ i, belowL n (E.gl i) = true := fun n hn i => glob_within hr n hn i
  cases hx with
  | normal => exact leave_sound hr.dom hgl _ _ _ hq g2 w2 _ _ hl hr2 ha.1 .returning ha.2
  | ret => exact leave_sound hr.dom hgl _ _ _ hq g2 w2 _ _ hl hr2 ha.1 .returning ha.2
  | panic hp => exact leave_sound hr.dom hgl _ _ _ hq g2 w2 _ _ hl hr2 ha.1 (.panicking hp) ha.2
  | exit id => exact hq.elim
  | goto l => exact hq.elim

/-! ### A deferred function that recovers first -/
/-- What a deferred function's body must achieve. -/
def DPost (E : Env) (N : Nat) (fn : Func) (u : AMode) (R : AE → AMode → List AO → Prop) : APost
  | .normal, a, H | .ret, a, H => a.defers = [] ∧ match evResults E fn a.tmps H with
    | some v => Out N (fun x H => R x u H) (.ret v) H
    | none => False
  | .panic ch, a, H => a.defers = [] ∧ Out N (fun x H => R x u H) (.panic ch) H
  | _, _, _ => False

def uWithin (n : Nat) : AMode → Bool
  | .returning => true
  | .panicking ch => chWithin n ch

theorem MRel.cut {n : Nat} {u : AMode} {v : FrameMode} (h : MRel g u v) (hu : uWithin n u = true) : MRel (g.cut n) u v := by
  cases h with
  | returning => exact .returning
  | panicking hp => exact .panicking (hp.cut hu)

theorem MRel.within {n : Nat} {u : AMode} {v : FrameMode} (h : MRel g u v) (hp : g.phi.length ≤ n) (ht : ∀ t e ti, g.tok t e = some ti → t < n) : uWithin n u = true := by
  cases h with
  | returning => rfl
  | panicking h =>
    simp only [uWithin, chWithin]
    induction h with
    | nil => rfl
    | cons hv _ ih => simp only [List.all_cons, Bool.and_eq_true]; exact ⟨hv.within hp ht, ih⟩

/-- The operations behind recover in its region: computing ones alone. -/
def runPure (E : Env) (H : List AO) : List Oper → AAct → Option AAct
  | [], a => some a
  | o :: rest, a => match o.guard, evPure E a H o with
    | none, some v => runPure E H rest (a.put o.dst v)
    | _, _ => none

theorem recover_rel {u : AMode} {v : FrameMode} (h : MRel g u v) (c : Frame) (hc : c.mode = v) (cs : List Frame) :
    (∃ x v2, recoverD (c :: cs) = some (x, { c with mode := v2 } :: cs) ∧ VRel g (arecover u).1 x ∧ MRel g (arecover u).2 v2) ∨ (recoverD (c :: cs) = none ∧ arecover u = (.nili, u)) := by
  subst hc
  cases hm : c.mode with
  | run => rw [hm] at h; cases h
  | returning => rw [hm] at h; cases h; exact .inr ⟨by simp [recoverD, hm], rfl⟩
  | panicking qs =>
    rw [hm] at h
    cases h with
    | panicking hp =>
      cases hp with
      | nil => exact .inr ⟨by simp [recoverD, hm], rfl⟩
      | cons hv hs =>
        rename_i p v ps qs
        obtain ⟨pv, pr⟩ := p
        cases pr with
        | true => exact .inr ⟨by simp [recoverD, hm], rfl⟩
        | false => exact .inl ⟨v, _, by simp only [recoverD, hm], hv, .panicking (.cons (p := ⟨pv, true⟩) hv hs)⟩

theorem runPure_sound {ops : Array Oper} {Q2 : Exit → Act → List Frame → World → Prop} {cs : List Frame} (hr : E.Rep g H w) : ∀ (l : List Oper) (k : Nat), (∀ i, ops[k + i]? = l[i]?) → ∀ (a : AAct) (a' : Act) (a2 : AAct), ARel g a a' → runPure E H l a = some a2 →
    (∀ a2', ARel g a2 a2' → Q2 .normal a2' cs w) → wpOpsSIn Fence.wide 0 E.P ops Q2 ((List.range l.length).map (k + ·)) a' cs w := by
  intro l
  induction l with
  | nil => intro k _ a a' a2 ha h hq; simp only [runPure] at h; injection h with h; subst h; exact hq _ ha
  | cons o rest ih =>
    intro k hk a a' a2 ha h hq
    have ho : ops[k]? = some o := by have := hk 0; simpa using this
    have hrest : ∀ i, ops[k + 1 + i]? = rest[i]? := fun i => by have := hk (i + 1); rw [show k + 1 + i = k + (i + 1) by omega, this]; rfl
    have hlist : (List.range (o :: rest).length).map (k + ·) = k :: (List.range rest.length).map (k + 1 + ·) := by
      rw [List.length_cons, List.range_succ_eq_map, List.map_cons, List.map_map]
      congr 1
      apply List.map_congr_left
      intro x _
      simp only [Function.comp]; omega
    rw [hlist]
    simp only [runPure] at h
    split at h
    · rename_i v hg hv
      obtain ⟨c, h1, h2⟩ := evPure_sound hr ha hv
      simp only [wpOpsSIn, ho]
      refine ⟨fun _ _ => trivial, ?_⟩
      have hw : Region.wanted o (yielded ops a'.tmps) = true := by simp [Region.wanted, hg]
      rw [if_pos hw, h1]
      exact ih (k + 1) hrest _ _ _ (ha.put _ h2) h hq
    · simp at h

/-- **A deferred function whose first operation is recover.** -/
theorem ACallD.of_recover {f : FuncId} {fn : Func} {id : Nat} {ops : Array Oper} {c2 : Code} {args : List AV} {u : AMode} {R : AE → AMode → List AO → Prop} (md : Nat → Nat) (hf : E.P.funcs[f]? = some fn) (hn : (fn.name == "runtime.NumGoroutine") = false)
    (hb : fn.body = some (.seq (.region id ops false) c2)) {o : Oper} {rest : List Oper} (hops : ops.toList = o :: rest) {d : Option Tmp} {at_ : Array TypeId} (ho : o.op = .call { callee := .builtin .recover, args := #[], argTypes := at_ }) (hg : o.guard = none) {a2 : AAct}
    (hrun : runPure E H rest (AAct.put ⟨args ++ List.replicate (fn.ntmps - args.length) .top, []⟩ o.dst (arecover u).1) = some a2)
    (h : Fit H.length H → uWithin H.length (arecover u).2 = true → W E H.length none md c2 (DPost E H.length fn (arecover u).2 R) a2 H) : ACallD E f args u H R := by
  intro g w cs v hr hv hu
  refine ⟨callFunc_enter hf hn hb cs w, ?_⟩
  refine callsDIn_of_wpSV hf hb fun c₀ fs hc => ?_
  have hgl : ∀ n, H.length ≤ n → ∀ i, belowL n (E.gl i) = true := fun n hn i => glob_within hr n hn i
  have htok : ∀ t e ti, g.tok t e = some ti → t < H.length := by
    intro t e ti h
    rcases Nat.lt_or_ge t H.length with h' | h'
    · exact h'
    · rw [hr.beyond t e h'] at h; simp at h
  -- what is asked behind recover
  have main : ∀ (v2 : FrameMode) (x : Value), VRel g (arecover u).1 x → MRel g (arecover u).2 v2 → ∀ fs2, fs2 = { c₀ with mode := v2 } :: fs →
      wpOpsSIn Fence.wide 0 E.P ops (Exit.thenS (wpSV E.P c2 (bodyPostS E.P fn c₀ fs (fun e v2 w2 => ∃ x u2 H2 g2, R x u2 H2 ∧ GLe g g2 ∧ E.Rep g2 H2 w2 ∧ ERel g2 x e ∧ MRel g2 u2 v2))) (bodyPostS E.P fn c₀ fs (fun e v2 w2 => ∃ x u2 H2 g2, R x u2 H2 ∧ GLe g g2 ∧ E.Rep g2 H2 w2 ∧ ERel g2 x e ∧ MRel g2 u2 v2))) ((List.range rest.length).map (1 + ·))
        (Act.put { tmps := cs ++ Array.replicate (fn.ntmps - cs.size) undef, defers := [] } o.dst x) fs2 w := by
    rintro v2 x hx hu2 fs2 rfl
    have hk : ∀ i, ops[1 + i]? = rest[i]? := fun i => by
      have : ops[1 + i]? = ops.toList[1 + i]? := by simp
      rw [this, hops, Nat.add_comm]; rfl
    refine runPure_sound (E := E) hr rest 1 hk _ _ a2 (ARel.put (a := ⟨args ++ List.replicate (fn.ntmps - args.length) .top, []⟩) (a' := { tmps := cs ++ Array.replicate (fn.ntmps - cs.size) undef, defers := [] }) ⟨enter_tmps hv _, .nil⟩ _ hx) hrun fun a2' ha2 => ?_
    have huw := hu2.within (n := H.length) (by rw [hr.len]; exact Nat.le_refl _) htok
    have hw := W_sound c2 _ _ _ (h hr.fit huw)
    refine wpSV_of_wpV (wpV_mono (hw g g w a2' hr.dom (GLe.refl g) hr ha2) ?_)
    rintro e a3 w3 ⟨y, A, H3, g3, hq, hl3, hr3, ha3, hy⟩
    have fin : ∀ {z : AE} {e' : Ending}, Out H.length (fun x H => R x (arecover u).2 H) z H3 → ERel g3 z e' → ∃ x u2 H2 g2, R x u2 H2 ∧ GLe g g2 ∧ E.Rep g2 H2 w3 ∧ ERel g2 x e' ∧ MRel g2 u2 v2 := by
      intro z e' hz he
      obtain ⟨y, hy4, hR4 | ⟨H4, l, rfl, hn4, hf4, hx4, hR4⟩⟩ := hz
      · exact ⟨y, _, H3, g3, hR4, hl3, hr3, hy4 _ _ he, hu2.mono hl3⟩
      have hle := hl3.cut (n := H4.length) hr.dom hn4
      exact ⟨y, _, H4, g3.cut H4.length, hR4, hle, Rep.drop hr3 hf4 (hgl _ hn4), (hy4 _ _ he).cut hx4, hu2.mono hle⟩
    cases hy with
    | normal =>
      obtain ⟨hd, hq⟩ := hq
      split at hq
      · rename_i rv hrv
        obtain ⟨c, r1, r2⟩ := results_run hr3 ha3.1 hrv
        have hd' : a3.defers = [] := by have := ha3.2; rw [hd] at this; exact this.nil_inv
        exact ⟨hd', v2, rfl, c, r1, fin hq (.ret r2)⟩
      · exact hq.elim
    | ret =>
      obtain ⟨hd, hq⟩ := hq
      split at hq
      · rename_i rv hrv
        obtain ⟨c, r1, r2⟩ := results_run hr3 ha3.1 hrv
        have hd' : a3.defers = [] := by have := ha3.2; rw [hd] at this; exact this.nil_inv
        exact ⟨hd', v2, rfl, c, r1, fin hq (.ret r2)⟩
      · exact hq.elim
    | panic hp =>
      obtain ⟨hd, hq⟩ := hq
      have hd' : a3.defers = [] := by have := ha3.2; rw [hd] at this; exact this.nil_inv
      exact ⟨hd', v2, rfl, fin hq (.panic hp)⟩
    | exit id => exact hq.elim
    | goto l => exact hq.elim
  refine wpSV_seq (wpSIn_region ?_)
  have hsize : ops.size = rest.length + 1 := by
    have : ops.size = ops.toList.length := by simp
    rw [this, hops]; rfl
  have hlist : List.range ops.size = 0 :: (List.range rest.length).map (1 + ·) := by
    rw [hsize, List.range_succ_eq_map]
    congr 1
    apply List.map_congr_left
    intro x _
    omega
  rw [hlist]
  have ho0 : ops[0]? = some o := by
    have : ops[0]? = ops.toList[0]? := by simp
    rw [this, hops]; rfl
  simp only [wpOpsSIn, ho0]
  refine ⟨fun _ _ => trivial, ?_⟩
  have hw : ∀ y, Region.wanted o y = true := by intro y; simp [Region.wanted, hg]
  rw [if_pos (hw _)]
  have hrec : ∀ ρ, (execOp ρ o).run E.P w = .ok .recover w := by
    intro ρ
    unfold execOp
    rw [ho]
    simp [resolve, invoke, builtin]
  rw [hrec]
  rcases recover_rel hu c₀ hc fs with ⟨x, v2, h1, h2, h3⟩ | ⟨h1, h2⟩
  · simp only [h1]
    exact main v2 x h2 h3 _ rfl
  · simp only [h1]
    have hu' : MRel g (arecover u).2 v := by rw [h2]; exact hu
    have hx' : VRel g (arecover u).1 .nilIface := by rw [h2]; exact .nili
    refine main v _ hx' hu' _ ?_
    subst hc; rfl

end Go.Ab

/- The abstract view, 16: ranges over functions. -/
set_option linter.unusedVariables false
set_option linter.unusedSimpArgs false
namespace Go.Ab
open Go Go.RowKit

variable {E : Env} {N : Nat} {rd : Option Nat} {md : Nat → Nat} {g g0 : Ghost} {H : List AO} {w w' : World} {a : AAct} {a' : Act} {Q : APost}

theorem new_obj (hr : E.Rep g H w) {ob : Obj} (hg : Grew w ob w') : (g.push w.heap.size).phi[H.length]? = some w.heap.size := by
  show (g.phi ++ [w.heap.size])[H.length]? = _
  rw [← hr.len, List.getElem?_append_right (Nat.le_refl _), Nat.sub_self]; rfl

/-- A record's block is written. -/
theorem Rep.put_loop (hr : E.Rep g H w) {l b : Nat} {st st2 : LoopState} {pe pe2 : Option Code} {fn : FuncId} {ts : List AV} {ps : Array Tmp} {asg body : Code} {d : Nat} (hH : H[l]? = some (.loop st pe fn ts ps asg body d)) (hb : g.phi[l]? = some b) :
    ∃ cs db, w.heap[b]? = some (.loop { state := st, pending := pe, fn := fn, tmps := cs, params := ps, assign := asg, body := body, defers := db }) ∧ VRels g ts cs ∧ g.phi[d]? = some db ∧
      E.Rep g (H.set l (.loop st2 pe2 fn ts ps asg body d)) (w.putObj b (.loop { state := st2, pending := pe2, fn := fn, tmps := cs, params := ps, assign := asg, body := body, defers := db })) ∧
      E.Rep g (H.set l .dead) (w.putObj b (.loop { state := st2, pending := pe2, fn := fn, tmps := cs, params := ps, assign := asg, body := body, defers := db })) := by
  obtain ⟨b', cs, db, h1, h2, h3, h4, h5⟩ := hr.objs _ _ hH
  rw [hb] at h1; injection h1 with h1; subst h1
  have hown : own g H l = some b := by unfold own; rw [hH]; exact hb
  have hid : l < H.length := (List.getElem?_eq_some_iff.1 hH).1
  have hblt : b < w.heap.size := (Array.getElem?_eq_some_iff.1 h5).1
  refine ⟨cs, db, h5, h4, h3, ?_, ?_⟩
  · refine Rep.put hr hH hb hown (fun H' hh => by unfold own; rw [hh]; exact hb) (fun c T fz => by rw [h5]; simp) rfl rfl rfl rfl ⟨b, cs, db, hb, h2, h3, h4, World.putObj_heap_same hblt⟩
  · have hold : ∀ (X : Obj) k, k ≠ b → (w.putObj b X).heap[k]? = w.heap[k]? := fun X k hk => World.putObj_heap_other hk
    have hdead : own g (H.set l .dead) l = none := by unfold own; rw [List.getElem?_set_self hid]
    refine ⟨⟨hr.below.os, hr.below.tape, hr.below.output, by simp [World.putObj]; exact hr.below.size, fun k hk => (hold _ k (by omega)).trans (hr.below.block k hk)⟩, hr.n0le, fun b' o v h => ?_, by simp; exact hr.len, fun t e ht => hr.beyond t e (by simpa using ht), fun i o h => ?_, fun i j b' hi hj => ?_, hr.glob⟩
    · have hc := hr.know b' o v h
      have hne : b' ≠ b := by rintro rfl; simp [World.cell?, h5] at hc
      simpa [World.cell?, hold _ b' hne] using hc
    · by_cases e : l = i
      · subst e
        rw [List.getElem?_set_self hid] at h
        injection h with h; subst h; trivial
      · rw [List.getElem?_set_ne e] at h
        refine ORep.frame h (hr.objs i o h) (GLe.refl g) (fun b' hb' => hold _ b' ?_) (fun _ _ _ h => h) (fun _ h => h)
        rintro rfl
        exact e (hr.apart _ _ _ hown hb')
    · have hi' : i ≠ l := by rintro rfl; rw [hdead] at hi; simp at hi
      have hj' : j ≠ l := by rintro rfl; rw [hdead] at hj; simp at hj
      rw [own_set_other hi'.symm] at hi
      rw [own_set_other hj'.symm] at hj
      exact hr.apart i j b' hi hj

/-- The temporaries with which a round begins. -/
def roundTmps (ts : List AV) (ps : Array Tmp) (args : List AV) : List AV := (ps.toList.zip args).foldl (fun ts p => ts.set p.1 p.2) ts

theorem roundTmps_rel {ts args : List AV} {cs as : Array Value} {ps : Array Tmp} (ht : VRels g ts cs) (ha : VRels g args as) (hn : args.length = ps.size) : VRels g (roundTmps ts ps args) ((ps.zip as).foldl (fun tmps (t, a) => tmps.setIfInBounds t a) cs) := by
  have key : ∀ (l : List Tmp) (args : List AV) (as : List Value), as.length = args.length → (∀ i, VRel g (args.getD i .top) (as.getD i undef)) → ∀ ts cs, VRels g ts cs → VRels g ((l.zip args).foldl (fun ts p => ts.set p.1 p.2) ts) ((l.zip as).foldl (fun tmps (p : Tmp × Value) => tmps.setIfInBounds p.1 p.2) cs) := by
    intro l
    induction l with
    | nil => intro args as _ _ ts cs h; exact h
    | cons t l ih =>
      intro args as hl hv ts cs h
      cases args with
      | nil => cases as with
        | nil => exact h
        | cons => simp at hl
      | cons x args => cases as with
        | nil => simp at hl
        | cons y as =>
          simp only [List.zip_cons_cons, List.foldl_cons]
          exact ih args as (by simpa using hl) (fun i => by simpa using hv (i + 1)) _ _ (h.set t (by simpa using hv 0))
  have := key ps.toList args as.toList (by simpa using ha.1) (fun i => by have := ha.2 i; simpa [Array.getD_eq_getD_getElem?, List.getD_eq_getElem?_getD] using this) ts cs ht
  unfold roundTmps
  rw [← Array.foldl_toList, Array.toList_zip]
  exact this

/-- What a round's body must achieve. -/
def RPost (N : Nat) (l : Nat) (fn : FuncId) (ts : List AV) (ps : Array Tmp) (asg body : Code) (d : Nat) (R : AE → List AO → Prop) : APost
  | .normal, _, H => (∃ pe, H[l]? = some (.loop .busy pe fn ts ps asg body d)) ∧ Out N R (.ret (.bool true)) (H.set l (.loop .ready none fn ts ps asg body d))
  | .ret, _, H => (∃ pe, H[l]? = some (.loop .busy pe fn ts ps asg body d)) ∧ Out N R (.ret (.bool false)) (H.set l (.loop .done (some .ret) fn ts ps asg body d))
  | .exit id, _, H => (∃ pe, H[l]? = some (.loop .busy pe fn ts ps asg body d)) ∧ Out N R (.ret (.bool false)) (H.set l (.loop .done (some (.exit id)) fn ts ps asg body d))
  | .goto t, _, H => (∃ pe, H[l]? = some (.loop .busy pe fn ts ps asg body d)) ∧ Out N R (.ret (.bool false)) (H.set l (.loop .done (some (.goto t)) fn ts ps asg body d))
  | .panic ch, a, H => a.defers = [] ∧ Out N R (.panic ch) H

/-- **A round, from its body.** -/
theorem ARound.of_body {l : Nat} {args : List AV} {R : AE → List AO → Prop} (md : Nat → Nat) {pe : Option Code} {fn : FuncId} {ts : List AV} {ps : Array Tmp} {asg body : Code} {d : Nat} (hH : H[l]? = some (.loop .ready pe fn ts ps asg body d)) (hv : (E.P.funcs[fn]?).isSome = true) (hn : args.length = ps.size)
    (h : Fit H.length H → W E H.length (some l) md asg (AX.then (fun a1 H1 => H1[l]? = some (.loop .ready pe fn ts ps asg body d) ∧ W E H.length (some l) md body (RPost H.length l fn ts ps asg body d R) a1 (H1.set l (.loop .busy pe fn ts ps asg body d))) (fun _ _ _ => False)) ⟨roundTmps ts ps args, []⟩ H) :
    ARound E l args H R := by
  intro g w b cs hr ha hb
  have hgl : ∀ n, H.length ≤ n → ∀ i, belowL n (E.gl i) = true := fun n hn i => glob_within hr n hn i
  obtain ⟨tc, db, h5, h4, h3, _, _⟩ := Rep.put_loop hr (st2 := .busy) (pe2 := pe) hH hb
  have hl : l < H.length := (List.getElem?_eq_some_iff.1 hH).1
  have hrho : rho g (some l) = some b := by
    show some (g.phi.getD l 0) = some b
    rw [List.getD_eq_getElem?_getD, hb]; rfl
  refine ⟨fn, _, asg, body, w, run_yield h5 (by rw [ha.1]; exact hn), roundIn_of_wpV hv ?_⟩
  have hw := W_sound asg _ _ _ (h hr.fit)
  have hw1 := hw g g w { tmps := (ps.zip cs).foldl (fun tmps (t, a) => tmps.setIfInBounds t a) tc, defers := [] } hr.dom (GLe.refl g) hr ⟨roundTmps_rel h4 ha hn, .nil⟩
  rw [hrho] at hw1
  refine wpV_mono hw1 ?_
  rintro e a1 w1 ⟨x, A1, H1, g1, hq, hl1, hr1, ha1, hx⟩
  cases hx <;> first | exact hq.elim | skip
  obtain ⟨hH1, hbody⟩ := hq
  have hb1 := hl1.phi _ _ hb
  obtain ⟨tc1, db1, k5, k4, k3, k6, _⟩ := Rep.put_loop hr1 (st2 := .busy) (pe2 := pe) hH1 hb1
  refine ⟨_, run_beginRound k5 rfl, ?_⟩
  have hw2 := W_sound body _ _ _ hbody g g1 _ a1 hr.dom hl1 k6 ha1
  rw [hrho] at hw2
  refine wpV_mono hw2 ?_
  rintro e a2 w2 ⟨y, A2, H2, g2, hq2, hl2, hr2, ha2, hy⟩
  have hb2 := hl2.phi _ _ hb
  have fin : ∀ {st2 : LoopState} {jump : Option Code} {bo : Bool}, (∃ pe, H2[l]? = some (.loop .busy pe fn ts ps asg body d)) → st2 = (if jump.isNone then .ready else .done) → bo = jump.isNone → Out H.length R (.ret (.bool bo)) (H2.set l (.loop st2 jump fn ts ps asg body d)) →
      ∃ v w', (Instr.endRound b jump).run E.P w2 = .ok v w' ∧ EConc E g R (.returned v) w' := by
    rintro st2 jump bo ⟨pe2, hH2⟩ rfl rfl ho
    obtain ⟨tc2, db2, m5, m4, m3, m6, _⟩ := Rep.put_loop hr2 (st2 := if jump.isNone then .ready else .done) (pe2 := jump) hH2 hb2
    refine ⟨_, _, run_endRound jump m5, out_econc hr.dom hgl ho hl2 m6 (.ret (.bool _))⟩
  cases hy with
  | normal => exact fin (jump := none) hq2.1 rfl rfl hq2.2
  | ret => exact fin (jump := some .ret) hq2.1 rfl rfl hq2.2
  | exit id => exact fin (jump := some (.exit id)) hq2.1 rfl rfl hq2.2
  | goto t => exact fin (jump := some (.goto t)) hq2.1 rfl rfl hq2.2
  | panic hp =>
    have hd' : a2.defers = [] := by have := ha2.2; rw [hq2.1] at this; exact this.nil_inv
    exact ⟨hd', out_econc hr.dom hgl hq2.2 hl2 hr2 (.panic hp)⟩

/-- What is asked behind a function that was ranged over. -/
def RangeEnd (E : Env) (N : Nat) (rd : Option Nat) (Q : APost) (a : AAct) (l : Nat) (fn : FuncId) (ts : List AV) (ps : Array Tmp) (asg body : Code) (d : Nat) : AE → List AO → Prop
  | .ret _, H => ∃ st pe, H[l]? = some (.loop st pe fn ts ps asg body d) ∧ st ≠ .busy ∧ match pe with
    | none => Q .normal a (H.set l .dead)
    | some c => WPc E N rd c Q a (H.set l .dead)
  | .panic ch, H => Q (.panic ch) a H

theorem range_end {f : Operand} {ps : Array Tmp} {asg body : Code} {l b d : Nat} {fn : FuncId} {ts : List AV} (hd : Dom g0 N) (hl : GLe g0 g) {g1 : Ghost} (le : GLe g g1) (hb : g1.phi[l]? = some b) {a2' : Act} (ha : ARel g1 a a2') {e : Ending} {w2 : World}
    (h : EConc E g1 (RangeEnd E N rd Q a l fn ts ps asg body d) e w2) : rangePostV (rho g0 rd) E.P b (Conc E g0 Q) a2' e w2 := by
  obtain ⟨x, H2, g2, hx, hl2, hr2, he⟩ := h
  have hb2 := hl2.phi _ _ hb
  have le2 := hl.trans (le.trans hl2)
  cases he with
  | ret hv =>
    obtain ⟨st, pe, hH, hst, hq⟩ := hx
    obtain ⟨cs, db, h5, h4, h3, _, h6⟩ := Rep.put_loop hr2 (st2 := .exhausted) (pe2 := pe) hH hb2
    refine ⟨pe, _, run_endLoop h5 hst, ?_⟩
    cases pe with
    | none => exact ⟨.normal, a, _, g2, hq, le2, h6, ha.mono hl2, .normal⟩
    | some c => exact hq g0 g2 _ a2' hd le2 h6 (ha.mono hl2)
  | panic hp => exact ⟨.panic _, a, H2, g2, hx, le2, hr2, ha.mono hl2, .panic hp⟩

/-- A range over a function value of the program. -/
theorem wpV_rangeFn {P : Program} {ρ : Option Nat} {f : Operand} {ps : Array Tmp} {asg body : Code} {Q : Exit → Act → World → Prop} {a : Act} {w : World} {fid : FuncId} {fs cs : Array Value} (hu : a.eval f = .func (.func fid) fs cs)
    (h : ∀ fn, (P.funcs[fn]?).isSome = true → ∃ (l : Nat) (mark : List Deferred) (w₁ : World),
      (Instr.enterLoop fn a.tmps ps asg body ρ).run P w = .ok (l, mark) w₁ ∧
      (callFunc fid (fs ++ #[.func (.yield l) #[] #[]] ++ cs)).run P w₁ = .ok (.enter fid (fs ++ #[.func (.yield l) #[] #[]] ++ cs)) w₁ ∧
      CallsIn Fence.wide 0 P fid (fs ++ #[.func (.yield l) #[] #[]] ++ cs) w₁ (rangePostV ρ P l Q { a with defers := mark ++ a.defers })) :
    wpV ρ P (.rangeFunc f ps asg body) Q a w := by
  refine wpV_rangeFunc fun fn hfn => ?_
  obtain ⟨l, mark, w₁, h1, h2, h3⟩ := h fn hfn
  refine ⟨l, mark, w₁, { target := .fn (.func fid) cs, args := fs ++ #[.func (.yield l) #[] #[]] }, w₁, fid, _, w₁, h1, ?_, ?_, h3⟩
  · have e : a.eval (.const (.func (.yield l) #[] #[])) = .func (.yield l) #[] #[] := rfl
    simp only [resolve, rangeCall, hu, Deferred.ofValue, List.map_toArray, List.map_cons, List.map_nil, e, Sem.run_pure]
  · exact h2

/-- **A range over a function, outermost.** -/
theorem wpc_rangeFunc {f : Operand} {ps : Array Tmp} {asg body : Code} {fid : FuncId} {first cap : List AV} (hf : a.ev E.gl f = .fn fid first cap)
    (h : ∀ fn, (E.P.funcs[fn]?).isSome = true → AEnter E fid (first ++ [.yield (H.length + 1)] ++ cap) (H ++ [.defr, .loop .ready none fn a.tmps ps asg body H.length])
      (RangeEnd E N none Q { a with defers := .mark H.length :: a.defers } (H.length + 1) fn a.tmps ps asg body H.length)) : WPc E N none (.rangeFunc f ps asg body) Q a H := by
  intro g0 g w a' hd hl hr ha
  have hv := ev_rel hr ha f
  rw [hf] at hv
  generalize hu : a'.eval f = u at hv
  cases hv with
  | fn _ _ _ fs cs hl1 hf1 hm1 hc1 =>
    refine wpV_rangeFn hu fun fn hfn => ?_
    -- the two blocks
    have hg1 := Grew.alloc w (.deferred (some []))
    have hp1 := new_obj hr hg1
    have hr1 : E.Rep (g.push w.heap.size) (H ++ [.defr]) (w.alloc (.deferred (some []))) := hr.alloc hg1 .defr (by simp) ⟨w.heap.size, hp1, Nat.le_trans hr.n0le hr.below.size, hg1.new⟩
    have le1 := g.push_le w.heap.size
    have hg2 := Grew.alloc (w.alloc (.deferred (some []))) (.loop { state := .ready, pending := none, fn := fn, tmps := a'.tmps, params := ps, assign := asg, body := body, defers := w.heap.size })
    have hp2 := new_obj hr1 hg2
    rw [World.size_alloc] at hp2
    have hlen : (H ++ [AO.defr]).length = H.length + 1 := by simp
    rw [hlen] at hp2
    have le2 := (g.push w.heap.size).push_le (w.alloc (.deferred (some []))).heap.size
    have hr2 := hr1.alloc hg2 (.loop .ready none fn a.tmps ps asg body H.length) (by simp)
      ⟨w.heap.size + 1, a'.tmps, w.heap.size, by rw [hlen, World.size_alloc]; exact hp2, by have := hr.n0le; have := hr.below.size; omega, le2.phi _ _ hp1, (ha.1.mono le1).mono le2, by have := hg2.new; rwa [World.size_alloc] at this⟩
    rw [World.size_alloc] at hr2 le2
    rw [List.append_assoc] at hr2
    have le := le1.trans le2
    have hargs : VRels ((g.push w.heap.size).push (w.heap.size + 1)) (first ++ [.yield (H.length + 1)] ++ cap) (fs ++ #[.func (.yield (w.heap.size + 1)) #[] #[]] ++ cs) :=
      rels_append (rels_append ⟨hl1, fun i => (hf1 i).mono le⟩ ⟨rfl, fun i => match i with | 0 => .yield _ _ hp2 | _ + 1 => .top _⟩) ⟨hm1, fun i => (hc1 i).mono le⟩
    obtain ⟨h1, h2⟩ := h fn hfn _ _ _ hr2 hargs
    have ha2 : ARel ((g.push w.heap.size).push (w.heap.size + 1)) { a with defers := .mark H.length :: a.defers } { a' with defers := [{ target := .collected w.heap.size, args := #[] }] ++ a'.defers } :=
      ⟨ha.1.mono le, .cons (.mark _ _ (le2.phi _ _ hp1)) (ha.2.mono le)⟩
    have hE := run_enterLoop_outer (P := E.P) (w := w) fn a'.tmps ps asg body
    generalize hW : (w.alloc (.deferred (some []))).alloc (.loop { state := .ready, pending := none, fn := fn, tmps := a'.tmps, params := ps, assign := asg, body := body, defers := w.heap.size }) = W at *
    exact ⟨_, _, W, hE, h1, CallsIn.mono h2 fun e w2 hh => range_end (f := f) hd hl le hp2 ha2 hh⟩

/-- **A range over a function within a round.** -/
theorem wpc_rangeFunc_in {f : Operand} {ps : Array Tmp} {asg body : Code} {fid : FuncId} {first cap : List AV} {l : Nat} (hlN : l < N) {st : LoopState} {pe : Option Code} {fn0 : FuncId} {ts0 : List AV} {ps0 : Array Tmp} {asg0 body0 : Code} {d : Nat} (hH : H[l]? = some (.loop st pe fn0 ts0 ps0 asg0 body0 d))
    (hf : a.ev E.gl f = .fn fid first cap)
    (h : ∀ fn, (E.P.funcs[fn]?).isSome = true → AEnter E fid (first ++ [.yield H.length] ++ cap) (H ++ [.loop .ready none fn a.tmps ps asg body d])
      (RangeEnd E N (some l) Q a H.length fn a.tmps ps asg body d)) : WPc E N (some l) (.rangeFunc f ps asg body) Q a H := by
  intro g0 g w a' hd hl hr ha
  have hv := ev_rel hr ha f
  rw [hf] at hv
  obtain ⟨b0, tc0, db0, q1, q2, q3, q4, q5⟩ := hr.objs _ _ hH
  have hrho : rho g0 (some l) = some b0 := by
    show some (g0.phi.getD l 0) = some b0
    have : l < g0.phi.length := by rw [hd.1]; exact hlN
    have e := List.getElem?_eq_getElem this
    have e2 := hl.phi _ _ e
    rw [q1] at e2; injection e2 with e2
    rw [List.getD_eq_getElem?_getD, e, e2]; rfl
  generalize hu : a'.eval f = u at hv
  cases hv with
  | fn _ _ _ fs cs hl1 hf1 hm1 hc1 =>
    rw [hrho]
    refine wpV_rangeFn hu fun fn hfn => ?_
    have hg1 := Grew.alloc w (.loop { state := .ready, pending := none, fn := fn, tmps := a'.tmps, params := ps, assign := asg, body := body, defers := db0 })
    have hp1 := new_obj hr hg1
    have le := g.push_le w.heap.size
    have hr1 := hr.alloc hg1 (.loop .ready none fn a.tmps ps asg body d) (by simp) ⟨w.heap.size, a'.tmps, db0, hp1, Nat.le_trans hr.n0le hr.below.size, le.phi _ _ q3, ha.1.mono le, hg1.new⟩
    have hargs : VRels (g.push w.heap.size) (first ++ [.yield H.length] ++ cap) (fs ++ #[.func (.yield w.heap.size) #[] #[]] ++ cs) :=
      rels_append (rels_append ⟨hl1, fun i => (hf1 i).mono le⟩ ⟨rfl, fun i => match i with | 0 => .yield _ _ hp1 | _ + 1 => .top _⟩) ⟨hm1, fun i => (hc1 i).mono le⟩
    obtain ⟨h1, h2⟩ := h fn hfn _ _ _ hr1 hargs
    have hE := run_enterLoop_inner (P := E.P) q5 fn a'.tmps ps asg body
    generalize hW : w.alloc (.loop { state := .ready, pending := none, fn := fn, tmps := a'.tmps, params := ps, assign := asg, body := body, defers := db0 }) = W at *
    refine ⟨_, _, W, hE, h1, CallsIn.mono h2 fun e w2 hh => ?_⟩
    have := range_end (f := f) (rd := some l) hd hl le hp1 (ha.mono le) hh
    rw [hrho] at this
    exact this

end Go.Ab

/- The abstract view, 17: a program's own table of types, and the rules by which a proof steps through code. -/
set_option linter.unusedVariables false
set_option linter.unusedSimpArgs false
namespace Go.Ab
open Go Go.RowKit

/-! ### The table of types -/
def utOf : TypeDesc → Option UT
  | .bool => some .bool
  | .int k => some (.int k)
  | .string => some .str
  | .pointer _ => some .ptr
  | .slice e => some (.sl e)
  | .array n e => some (.arr n e)
  | .struct fs => if fs.toList.all (fun f => f.name != "_") then some (.struct (fs.toList.map fun f => (f.offset, f.type))) else none
  | .map k e => some (.map k e)
  | .interface ms => some (.iface ms.isEmpty)
  | .func _ _ _ => some .func
  | _ => some .other

theorem utOf_rel {P : Program} {d : TypeDesc} {u : UT} (h : utOf d = some u) : URel P u d := by
  cases d
  case struct fs =>
    simp only [utOf] at h
    split at h
    · rename_i hf
      injection h with h; subst h
      refine ⟨fs, rfl, by simp, fun i f hi => ?_, fun f hm e => ?_⟩
      · rw [← Array.getElem?_toList] at hi; simp only [List.getElem?_map, hi, Option.map_some]
      · have := List.all_eq_true.1 hf f (by simpa using hm); simp [e] at this
    · simp at h
  case interface ms =>
    simp only [utOf] at h
    injection h with h; subst h
    exact ⟨_, rfl, fun h => by simpa using h⟩
  all_goals
    simp only [utOf] at h
    injection h with h; subst h
    first
      | rfl
      | exact ⟨_, rfl⟩
      | exact ⟨_, _, _, rfl⟩
      | trivial

def isAggV : Value → Bool
  | .agg _ => true
  | _ => false

def tyOf (P : Program) (t : TypeId) : Option TyI :=
  match P.info? t, P.underlying t with
  | some inf, some d => match inf.zero, utOf d with
    | some z, some u =>
      let i : TyI := ⟨u, inf.size, inf.bytes, z.cells.toList.map constAV⟩
      if z.cells.size = inf.size ∧ (i.isAgg == isAggV z) ∧ (i.isAgg || inf.size == 1) then some i else none
    | _, _ => none
  | _, _ => none

theorem tyOf_ok {P : Program} {t : TypeId} {i : TyI} (h : tyOf P t = some i) : TyOk P t i := by
  unfold tyOf at h
  split at h
  · rename_i inf d hi hd
    split at h
    · rename_i z u hz hu
      simp only at h
      split at h
      · rename_i hc
        injection h with h
        obtain ⟨h1, h2, h3⟩ := hc
        rw [h] at h2 h3
        have e1 : i.size = inf.size := by rw [← h]
        have e2 : i.bytes = inf.bytes := by rw [← h]
        have e3 : i.zero = z.cells.toList.map constAV := by rw [← h]
        have e4 : i.u = u := by rw [← h]
        refine ⟨⟨z, inf, hi, hz, e1.symm, e2.symm, by rw [h1, e1], by rw [e3]; simp [h1, e1], fun ha => ?_, fun ha => ?_, fun g k => ?_⟩, d, hd, by rw [e4]; exact utOf_rel hu⟩
        · rw [ha] at h2
          cases z <;> simp [isAggV] at h2
          exact ⟨_, rfl⟩
        · rw [ha] at h2 h3
          refine ⟨?_, by simpa [e1] using h3⟩
          cases z <;> simp [isAggV] at h2 <;> rfl
        · rw [e3]
          simp only [List.getD_eq_getElem?_getD, List.getElem?_map, Array.getD_eq_getD_getElem?, Array.getElem?_toList]
          cases z.cells[k]? with
          | none => exact .top _
          | some v => exact constAV_rel g v
      · simp at h
    · simp at h
  · simp at h

def envOf (P : Program) (h : P.follows .mixedOrders = true) (n0 : Nat) (w0 : World) (gl : Nat → List AV) : Env :=
  { P := P, ty := tyOf P, ok := fun _ _ h => tyOf_ok h, mixed := h, n0 := n0, w0 := w0, gl := gl }

/-- A function's contract, from its body: the temporaries named. -/
theorem AEnter.go {E : Env} {H : List AO} {f : FuncId} {fn : Func} {c : Code} {args ts : List AV} {R : AE → List AO → Prop} (md : Nat → Nat) (hf : E.P.funcs[f]? = some fn) (hn : (fn.name == "runtime.NumGoroutine") = false) (hb : fn.body = some c)
    (hts : args ++ List.replicate (fn.ntmps - args.length) .top = ts) (h : Fit H.length H → W E H.length none md c (FPost E H.length fn R) ⟨ts, []⟩ H) : AEnter E f args H R :=
  AEnter.of_body md hf hn hb (by rw [hts]; exact h)

/-! ### Stepping -/
variable {E : Env} {N : Nat} {rd : Option Nat} {md : Nat → Nat} {Q : APost} {a : AAct} {H : List AO}

theorem w_skip (h : Q .normal a H) : W E N rd md .skip Q a H := h
theorem w_label {l : Nat} (h : Q .normal a H) : W E N rd md (.label l) Q a H := h
theorem w_exit {id : Nat} (h : Q (.exit id) a H) : W E N rd md (.exit id) Q a H := h
theorem w_goto {l : Nat} (h : Q (.goto l) a H) : W E N rd md (.goto l) Q a H := h
theorem w_ret (h : Q .ret a H) : W E N rd md .ret Q a H := h
/-- What is asked behind the first of two pieces. -/
def WSeq (E : Env) (N : Nat) (rd : Option Nat) (md : Nat → Nat) (y : Code) (Q : APost) : APost := AX.then (fun a H => ∃ ts2 H2, Shift E N a.tmps a.defers H ts2 H2 ∧ W E N rd md y Q ⟨ts2, a.defers⟩ H2) Q
theorem w_seq {x y : Code} (h : W E N rd md x (WSeq E N rd md y Q) a H) : W E N rd md (.seq x y) Q a H := h
theorem wseq_normal {y : Code} (h : W E N rd md y Q a H) : WSeq E N rd md y Q .normal a H := ⟨a.tmps, H, .refl, h⟩
theorem wseq_shift {y : Code} {ts ts2 : List AV} {ds : List ADef} {H2 : List AO} (hs : Shift E N ts ds H ts2 H2) (h : W E N rd md y Q ⟨ts2, ds⟩ H2) : WSeq E N rd md y Q .normal ⟨ts, ds⟩ H := ⟨ts2, H2, hs, h⟩
theorem wseq_exit {y : Code} {id : Nat} (h : Q (.exit id) a H) : WSeq E N rd md y Q (.exit id) a H := h
theorem wseq_goto {y : Code} {l : Nat} (h : Q (.goto l) a H) : WSeq E N rd md y Q (.goto l) a H := h
theorem wseq_ret {y : Code} (h : Q .ret a H) : WSeq E N rd md y Q .ret a H := h
theorem wseq_panic {y : Code} {ch : List APanic} (h : Q (.panic ch) a H) : WSeq E N rd md y Q (.panic ch) a H := h
theorem w_block {id : Nat} {c : Code} (h : W E N rd md c (AX.inBlock id Q) a H) : W E N rd md (.block id c) Q a H := h
theorem w_region {id : Nat} {l : List Oper} (h : Wl E rd md l.toArray Q l a H) : W E N rd md (.region id l.toArray false) Q a H := h
theorem w_loop {c : Code} (h : WPc E N rd (.loop c) Q a H) : W E N rd md (.loop c) Q a H := h
theorem w_cond {c : Operand} {x y : Code} {t : Bool} (hc : a.ev E.gl c = .bool t) (h1 : t = true → W E N rd md x Q a H) (h2 : t = false → W E N rd md y Q a H) : W E N rd md (.cond c x y) Q a H := by
  simp only [W, hc]; exact ⟨h1, h2⟩
theorem w_cond_t {c : Operand} {x y : Code} (hc : a.ev E.gl c = .bool true) (h1 : W E N rd md x Q a H) : W E N rd md (.cond c x y) Q a H := by
  simp only [W, hc]; exact ⟨fun _ => h1, fun h => by simp at h⟩
theorem w_cond_f {c : Operand} {x y : Code} (hc : a.ev E.gl c = .bool false) (h1 : W E N rd md y Q a H) : W E N rd md (.cond c x y) Q a H := by
  simp only [W, hc]; exact ⟨fun h => by simp at h, fun _ => h1⟩

theorem then_normal {next : AAct → List AO → Prop} (h : next a H) : AX.then next Q .normal a H := h
theorem then_exit {next : AAct → List AO → Prop} {id : Nat} (h : Q (.exit id) a H) : AX.then next Q (.exit id) a H := h
theorem then_goto {next : AAct → List AO → Prop} {l : Nat} (h : Q (.goto l) a H) : AX.then next Q (.goto l) a H := h
theorem then_ret {next : AAct → List AO → Prop} (h : Q .ret a H) : AX.then next Q .ret a H := h
theorem then_panic {next : AAct → List AO → Prop} {ch : List APanic} (h : Q (.panic ch) a H) : AX.then next Q (.panic ch) a H := h
theorem inBlock_normal {id : Nat} (h : Q .normal a H) : AX.inBlock id Q .normal a H := h
theorem inBlock_goto {id l : Nat} (h : Q (.goto l) a H) : AX.inBlock id Q (.goto l) a H := h
theorem inBlock_ret {id : Nat} (h : Q .ret a H) : AX.inBlock id Q .ret a H := h
theorem inBlock_panic {id : Nat} {ch : List APanic} (h : Q (.panic ch) a H) : AX.inBlock id Q (.panic ch) a H := h
theorem inBlock_eq {id : Nat} (h : Q .normal a H) : AX.inBlock id Q (.exit id) a H := by simp only [AX.inBlock, if_pos]; exact h
theorem inBlock_ne {id k : Nat} (hk : (k == id) = false) (h : Q (.exit k) a H) : AX.inBlock id Q (.exit k) a H := by
  have : ¬ k = id := by simpa using hk
  simp only [AX.inBlock, if_neg this]; exact h

theorem wl_nil {ops : Array Oper} (h : Q .normal a H) : Wl E rd md ops Q [] a H := h
theorem wl_plain {ops : Array Oper} {o : Oper} {rest : List Oper} (hg : o.guard = none) (h : Wop E rd md o a H (fun a H => Wl E rd md ops Q rest a H) Q) : Wl E rd md ops Q (o :: rest) a H := by
  have : guardOk ops a o = some true := by simp [guardOk, hg]
  simp only [Wl, this]; exact ⟨fun _ => h, fun h => by simp at h⟩
theorem wl_guard {ops : Array Oper} {o : Oper} {rest : List Oper} {b : Bool} (hg : guardOk ops a o = some b) (h1 : b = true → Wop E rd md o a H (fun a H => Wl E rd md ops Q rest a H) Q) (h2 : b = false → Wl E rd md ops Q rest (a.put o.dst (.tup [])) H) : Wl E rd md ops Q (o :: rest) a H := by
  simp only [Wl, hg]; exact ⟨h1, h2⟩
theorem AAct.set_self {a : AAct} {d : Tmp} {b : Bool} (hv : a.tmps.getD d .top = .bool b) : (⟨a.tmps.set d (.bool b), a.defers⟩ : AAct) = a := by
  obtain ⟨ts, ds⟩ := a
  simp only at hv ⊢
  congr 1
  apply List.ext_getElem?
  intro i
  by_cases e : d = i
  · subst e
    rw [List.getElem?_set_self']
    rw [List.getD_eq_getElem?_getD] at hv
    cases h : ts[d]? with
    | none => rw [h] at hv; simp at hv
    | some u => rw [h] at hv; simp at hv; simp [hv]
  · rw [List.getElem?_set_ne e]
/-- A guard that is not known: two ways. -/
theorem wl_split {ops : Array Oper} {o : Oper} {rest : List Oper} {j : Nat} {want : Bool} (hg : o.guard = some (j, want)) {d : Tmp} (hd : (ops[j]?).bind (·.dst) = some d) {b : Bool} {ts0 : List AV} {ds : List ADef} (hv : ts0.getD d .top = .bool b) {ts1 ts2 : List AV} (hs1 : ts0.set d (.bool true) = ts1) (hs2 : ts0.set d (.bool false) = ts2)
    (h1 : b = true → Wl E rd md ops Q (o :: rest) ⟨ts1, ds⟩ H) (h2 : b = false → Wl E rd md ops Q (o :: rest) ⟨ts2, ds⟩ H) : Wl E rd md ops Q (o :: rest) ⟨ts0, ds⟩ H := by
  have : (⟨ts0.set d (.bool b), ds⟩ : AAct) = ⟨ts0, ds⟩ := AAct.set_self (a := ⟨ts0, ds⟩) hv
  cases b with
  | true => rw [← this, hs1]; exact h1 rfl
  | false => rw [← this, hs2]; exact h2 rfl
theorem wl_guard_t {ops : Array Oper} {o : Oper} {rest : List Oper} (hg : guardOk ops a o = some true) (h1 : Wop E rd md o a H (fun a H => Wl E rd md ops Q rest a H) Q) : Wl E rd md ops Q (o :: rest) a H := wl_guard hg (fun _ => h1) (fun h => by simp at h)
theorem wl_guard_f {ops : Array Oper} {o : Oper} {rest : List Oper} {ts0 : List AV} {ds : List ADef} (hg : guardOk ops ⟨ts0, ds⟩ o = some false) {d : Tmp} (hd : o.dst = some d) {ts : List AV} (hs : ts0.set d (.tup []) = ts) (h2 : Wl E rd md ops Q rest ⟨ts, ds⟩ H) : Wl E rd md ops Q (o :: rest) ⟨ts0, ds⟩ H := by
  refine wl_guard hg (fun h => by simp at h) fun _ => ?_
  rw [hd]; subst hs; exact h2

theorem wl_put {ops : Array Oper} {rest : List Oper} {x : Option Tmp} {d : Tmp} (hd : x = some d) {ts : List AV} (hs : a.tmps.set d (.tup []) = ts) (h2 : Wl E rd md ops Q rest ⟨ts, a.defers⟩ H) : Wl E rd md ops Q rest (a.put x (.tup [])) H := by
  rw [hd]; subst hs; exact h2

def pureOp : Op → Bool
  | .call c => match c.callee with | .builtin .append => false | .builtin .copy => false | .builtin _ => true | _ => false
  | .defer _ | .panic _ | .alloc _ | .box _ _ | .build _ _ | .buildSlice _ _ _ | .makeSlice _ _ _ | .store _ _ _ | .range _ _ | .next _ _ => false
  | _ => true

def heapOp : Op → Bool
  | .alloc _ | .box _ _ | .build _ _ | .buildSlice _ _ _ | .makeSlice _ _ _ | .store _ _ _ | .range _ _ | .next _ _ => true
  | .call c => match c.callee with | .builtin .copy => true | _ => false
  | _ => false

theorem wop_pure {o : Oper} {K : AAct → List AO → Prop} (hp : pureOp o.op = true) {v : AV} (hv : evPure E a H o = some v) (h : K (a.put o.dst v) H) : Wop E rd md o a H K Q := by
  unfold Wop
  cases hop : o.op <;> rw [hop] at hp <;> simp only [pureOp] at hp <;> try (simp at hp; done)
  case call c =>
    simp only
    cases hc : c.callee with
    | value f => rw [hc] at hp; simp at hp
    | invoke x y => rw [hc] at hp; simp at hp
    | builtin b =>
      rw [hc] at hp
      simp only
      cases b <;> first | (simp at hp; done) | (simp only [hv]; exact h)
  all_goals (simp only [hv]; exact h)

theorem wop_heap {o : Oper} {K : AAct → List AO → Prop} (hp : heapOp o.op = true) {v : AV} {H' : List AO} (hv : evHeap E md a H o = some (v, H')) (h : K (a.put o.dst v) H') : Wop E rd md o a H K Q := by
  unfold Wop
  cases hop : o.op <;> rw [hop] at hp <;> simp only [heapOp] at hp <;> try (simp at hp; done)
  case call c =>
    simp only
    cases hc : c.callee with
    | value f => rw [hc] at hp; simp at hp
    | invoke x y => rw [hc] at hp; simp at hp
    | builtin b =>
      rw [hc] at hp
      simp only
      cases b <;> first | (simp at hp; done) | (simp only [hv]; exact h)
  all_goals (simp only [hv]; exact h)

theorem wop_convert {o : Oper} {K : AAct → List AO → Prop} {s d : TypeId} {x : Operand} (hp : o.op = .convert s d x) {v : AV} {H' : List AO} (h0 : evPure E a H o = none) (hv : evHeap E md a H o = some (v, H')) (h : K (a.put o.dst v) H') : Wop E rd md o a H K Q := by
  unfold Wop
  rw [hp]; simp only [h0, hv]; exact h

theorem wop_append {o : Oper} {K : AAct → List AO → Prop} {c : Call} (ho : o.op = .call c) (hc : c.callee = .builtin .append) {x y : Operand} {t t2 : TypeId} (hx : c.args = [x, y].toArray) (ht : c.argTypes = [t, t2].toArray) {i2 : TyI} (ht2 : E.ty t2 = some i2) (hi2 : (match i2.u with | .int _ => false | _ => true) = true)
    {v : AV} {H' : List AO} (hv : evAppend E H t (a.ev E.gl x) (a.ev E.gl y) = some (v, H')) (h : K (a.put o.dst v) H') : Wop E rd md o a H K Q := by
  unfold Wop
  rw [ho]
  simp only [hc, hx, ht, ht2]
  cases hi : i2.u <;> rw [hi] at hi2 <;> first | (simp at hi2; done) | (simp only [hv]; exact h)

theorem wop_call {o : Oper} {K : AAct → List AO → Prop} {c : Call} (ho : o.op = .call c) {f : Operand} (hc : c.callee = .value f) {fid : FuncId} {first cap : List AV} (hf : a.ev E.gl f = .fn fid first cap) {args : List AV} (ha : first ++ evCallArgs a E.gl c ++ cap = args)
    (h : ACall E fid args H (onEnd o a K Q)) : Wop E rd md o a H K Q := by
  unfold Wop
  rw [ho]
  simp only [hc, hf, ha]; exact h

theorem wop_yield {o : Oper} {K : AAct → List AO → Prop} {c : Call} (ho : o.op = .call c) {f : Operand} (hc : c.callee = .value f) {l : Nat} (hf : a.ev E.gl f = .yield l) {args : List AV} (ha : evCallArgs a E.gl c = args)
    (h : ARound E l args H (onEnd o a K Q)) : Wop E rd md o a H K Q := by
  unfold Wop
  rw [ho]
  simp only [hc, hf, ha]; exact h

theorem wop_defer {o : Oper} {K : AAct → List AO → Prop} {c : Call} (ho : o.op = .defer c) {f : Operand} (hc : c.callee = .value f) {fid : FuncId} {first cap : List AV} (hf : a.ev E.gl f = .fn fid first cap) {args : List AV} (ha : first ++ evCallArgs a E.gl c = args)
    (h : K ({ a with defers := .call fid args cap :: a.defers }.put o.dst .top) H) : Wop E none md o a H K Q := by
  unfold Wop
  rw [ho]
  simp only [hc, hf, ha]; exact h

theorem wop_panic {o : Oper} {K : AAct → List AO → Prop} {x : Operand} (ho : o.op = .panic x) {t : TypeId} {v : AV} (hx : a.ev E.gl x = .iface t v) (h : Q (.panic [{ v := .iface t v }]) a H) : Wop E rd md o a H K Q := by
  unfold Wop
  rw [ho]
  simp only [hx]; exact h

/-- An operation of one outcome: what stands in the temporaries afterwards is named. -/
theorem wl_pure {ops : Array Oper} {o : Oper} {rest : List Oper} {ts0 : List AV} {ds : List ADef} (hg : o.guard = none) (hp : pureOp o.op = true) {d : Tmp} (hd : o.dst = some d) {v : AV} (hv : evPure E ⟨ts0, ds⟩ H o = some v) {ts : List AV} (hs : ts0.set d v = ts) (h : Wl E rd md ops Q rest ⟨ts, ds⟩ H) : Wl E rd md ops Q (o :: rest) ⟨ts0, ds⟩ H := by
  refine wl_plain hg (wop_pure hp hv ?_)
  rw [hd]; subst hs; exact h
theorem wop_pure' {o : Oper} {K : AAct → List AO → Prop} {ts0 : List AV} {ds : List ADef} (hp : pureOp o.op = true) {d : Tmp} (hd : o.dst = some d) {v : AV} (hv : evPure E ⟨ts0, ds⟩ H o = some v) {ts : List AV} (hs : ts0.set d v = ts) (h : K ⟨ts, ds⟩ H) : Wop E rd md o ⟨ts0, ds⟩ H K Q := by
  refine wop_pure hp hv ?_
  rw [hd]; subst hs; exact h
theorem wop_heap' {o : Oper} {K : AAct → List AO → Prop} {ts0 : List AV} {ds : List ADef} (hp : heapOp o.op = true) {d : Tmp} (hd : o.dst = some d) {v : AV} {H' : List AO} (hv : evHeap E md ⟨ts0, ds⟩ H o = some (v, H')) {ts : List AV} (hs : ts0.set d v = ts) (h : K ⟨ts, ds⟩ H') : Wop E rd md o ⟨ts0, ds⟩ H K Q := by
  refine wop_heap hp hv ?_
  rw [hd]; subst hs; exact h
theorem wop_heap0 {o : Oper} {K : AAct → List AO → Prop} {ts0 : List AV} {ds : List ADef} (hp : heapOp o.op = true) (hd : o.dst = none) {v : AV} {H' : List AO} (hv : evHeap E md ⟨ts0, ds⟩ H o = some (v, H')) (h : K ⟨ts0, ds⟩ H') : Wop E rd md o ⟨ts0, ds⟩ H K Q := by
  refine wop_heap hp hv ?_
  rw [hd]; exact h
theorem wop_convert' {o : Oper} {K : AAct → List AO → Prop} {s t : TypeId} {x : Operand} {ts0 : List AV} {ds : List ADef} (hp : o.op = .convert s t x) {d : Tmp} (hd : o.dst = some d) {v : AV} {H' : List AO} (h0 : evPure E ⟨ts0, ds⟩ H o = none) (hv : evHeap E md ⟨ts0, ds⟩ H o = some (v, H')) {ts : List AV} (hs : ts0.set d v = ts) (h : K ⟨ts, ds⟩ H') : Wop E rd md o ⟨ts0, ds⟩ H K Q := by
  refine wop_convert hp h0 hv ?_
  rw [hd]; subst hs; exact h
theorem onEnd_ret {o : Oper} {K : AAct → List AO → Prop} {ts0 : List AV} {ds : List ADef} {d : Tmp} (hd : o.dst = some d) {v : AV} {ts : List AV} (hs : ts0.set d v = ts) (h : K ⟨ts, ds⟩ H) : onEnd o ⟨ts0, ds⟩ K Q (.ret v) H := by
  show K ((⟨ts0, ds⟩ : AAct).put o.dst v) H
  rw [hd]; subst hs; exact h
theorem onEnd_panic {o : Oper} {K : AAct → List AO → Prop} {ch : List APanic} (h : Q (.panic ch) a H) : onEnd o a K Q (.panic ch) H := h


/-! ### Leaving -/
theorem Out.now {N : Nat} {R : AE → List AO → Prop} {x : AE} {H : List AO} (h : R x H) : Out N R x H := ⟨x, fun _ _ h => h, .inl h⟩
theorem Out.of {N : Nat} {R : AE → List AO → Prop} {x : AE} {H : List AO} (hN : N ≤ H.length) (hf : Fit H.length H) (hx : x.within H.length = true) (h : R x H) : Out N R x H := .now h
theorem Out.junk {R : AE → List AO → Prop} {x : AE} {H : List AO} (l : List AO) (hf : Fit H.length H) (hx : x.within H.length = true) (h : R x H) : Out H.length R x (H ++ l) := ⟨x, fun _ _ h => h, .inr ⟨H, l, rfl, Nat.le_refl _, hf, hx, h⟩⟩
theorem Out.drop {N : Nat} {R : AE → List AO → Prop} {x : AE} {H : List AO} (l : List AO) (hN : N ≤ H.length) (hf : Fit H.length H) (hx : x.within H.length = true) (h : R x H) : Out N R x (H ++ l) := ⟨x, fun _ _ h => h, .inr ⟨H, l, rfl, hN, hf, hx, h⟩⟩
/-- Less may be said of what is handed back. -/
theorem Out.weak {N : Nat} {R : AE → List AO → Prop} {a b : AV} {H : List AO} (h : ∀ g c, VRel g a c → VRel g b c) (o : Out N R (.ret b) H) : Out N R (.ret a) H := by
  obtain ⟨y, h6, h1⟩ := o
  refine ⟨y, fun g e he => h6 g e ?_, h1⟩
  cases he with
  | ret hv => exact .ret (h g _ hv)
theorem sl_ro {n : Nat} {xs : List AV} {tok : Tok} (g : Ghost) (c : Value) (h : VRel g (.sl n xs tok) c) : VRel g (.sl n xs .ro) c := by
  cases h with
  | nsl _ _ => exact .nsl _ trivial
  | sl _ _ _ b o cap vs hn hk hv ht => exact .sl _ _ _ b o cap vs hn hk hv trivial
theorem fpost_ret {fn : Func} {R : AE → List AO → Prop} {ts : List AV} {v : AV} (hv : evResults E fn ts H = some v) (h : Out N R (.ret v) H) : FPost E N fn R .ret ⟨ts, []⟩ H := by
  simp only [FPost, ALeave, hv]; exact h
theorem fpost_normal {fn : Func} {R : AE → List AO → Prop} {ts : List AV} {v : AV} (hv : evResults E fn ts H = some v) (h : Out N R (.ret v) H) : FPost E N fn R .normal ⟨ts, []⟩ H := by
  simp only [FPost, ALeave, hv]; exact h
theorem fpost_panic {fn : Func} {R : AE → List AO → Prop} {ts : List AV} {ch : List APanic} (h : Out N R (.panic ch) H) : FPost E N fn R (.panic ch) ⟨ts, []⟩ H := h

end Go.Ab

/- The abstract view, 18: regions whose order is drawn, where no operation changes memory as it is seen: each operation is looked at in the state that is sure wherever it is drawn. -/
set_option linter.unusedVariables false
set_option linter.unusedSimpArgs false
namespace Go.Ab
open Go Go.RowKit

variable {E : Env} {N : Nat} {rd : Option Nat} {md : Nat → Nat} {Q : APost} {a b : AAct} {H : List AO} {g g0 : Ghost} {w : World} {a' : Act}

def edgesOf (o : Oper) : List Nat := (o.after.toList.filter (Region.binds .any)).map (·.on)
def dstOf (ops : Array Oper) (i : Nat) : Option Tmp := (ops[i]?).bind (·.dst)

/-- What is sure of the temporaries when an operation is drawn: 0: what they held before; 1: nothing; j + 2: what operation j gave. -/
def okK (ops : Array Oper) (i : Nat) (o : Oper) (ks : List Nat) : Bool :=
  (List.range ks.length).all fun t => match ks.getD t 1 with
    | 0 => (List.range ops.size).all fun j => dstOf ops j != some t || j == i || ((ops[j]?).map (fun o => (edgesOf o).contains i)).getD false
    | 1 => true
    | j + 2 => (edgesOf o).contains j && dstOf ops j == some t

def applyK : List Nat → List AV → List AV → List AV
  | k :: ks, t :: ts, vals => (match k with | 0 => t | 1 => .top | j + 2 => vals.getD j .top) :: applyK ks ts vals
  | _, _, _ => []

/-- A region's build: each operation waits for earlier ones alone, no two have one temporary. -/
def okR (ops : Array Oper) (n : Nat) : Bool :=
  (List.range ops.size).all fun i => match ops[i]? with
    | none => false
    | some o => (edgesOf o).all (fun j => decide (j < i)) && (match o.dst with | some d => decide (d < n) | none => true) &&
      (List.range ops.size).all fun j => j == i || o.dst.isNone || dstOf ops j != o.dst

def QD (Q : APost) (b : AAct) : APost
  | .panic ch, _, H' => ∀ ts, fgt ts b.tmps → Q (.panic ch) ⟨ts, b.defers⟩ H'
  | _, _, _ => False

/-- One operation, in the state that is sure. -/
def DOp (E : Env) (rd : Option Nat) (md : Nat → Nat) (ops : Array Oper) (Q : APost) (o : Oper) (b : AAct) (H : List AO) (v : AV) : Prop :=
  match guardOk ops b o with
  | some true => Wop E rd md o b H (fun a' H' => a' = b.put o.dst v ∧ H' = H) (QD Q b)
  | some false => v = .tup []
  | none => False

/-- The operations from number i on. -/
def DAll (E : Env) (rd : Option Nat) (md : Nat → Nat) (ops : Array Oper) (Q : APost) (ts0 : List AV) (ds : List ADef) (H : List AO) (vals : List AV) : Nat → List Oper → List (List Nat) → Prop
  | _, [], _ => True
  | i, o :: os, ks :: kss => okK ops i o ks = true ∧ ks.length = ts0.length ∧ DOp E rd md ops Q o ⟨applyK ks ts0 vals, ds⟩ H (vals.getD i .top) ∧ DAll E rd md ops Q ts0 ds H vals (i + 1) os kss
  | _, _ :: _, [] => False

def finL : List Oper → List AV → List AV → List AV
  | o :: os, v :: vs, ts => finL os vs (match o.dst with | some t => ts.set t v | none => ts)
  | _, _, ts => ts

theorem dall_at {ops : Array Oper} {ts0 : List AV} {ds : List ADef} {vals : List AV} : ∀ (l : List Oper) (kss : List (List Nat)) (k : Nat), (∀ i, ops[k + i]? = l[i]?) → DAll E rd md ops Q ts0 ds H vals k l kss → ∀ i o, l[i]? = some o →
    ∃ ks, okK ops (k + i) o ks = true ∧ ks.length = ts0.length ∧ DOp E rd md ops Q o ⟨applyK ks ts0 vals, ds⟩ H (vals.getD (k + i) .top) := by
  intro l
  induction l with
  | nil => intro kss k _ _ i o h; simp at h
  | cons o' rest ih =>
    intro kss k hk h i o hi
    cases kss with
    | nil => exact h.elim
    | cons ks kss =>
      obtain ⟨h1, h2, h3, h4⟩ := h
      cases i with
      | zero => simp at hi; subst hi; exact ⟨ks, h1, h2, h3⟩
      | succ i =>
        have hrest : ∀ i, ops[k + 1 + i]? = rest[i]? := fun i => by have := hk (i + 1); rw [show k + 1 + i = k + (i + 1) by omega, this]; rfl
        have := ih kss (k + 1) hrest h4 i o (by simpa using hi)
        rwa [show k + 1 + i = k + (i + 1) by omega] at this

theorem applyK_get : ∀ (ks : List Nat) (ts vals : List AV), ks.length = ts.length → ∀ t, t < ts.length → (applyK ks ts vals).getD t .top = (match ks.getD t 1 with | 0 => ts.getD t .top | 1 => .top | j + 2 => vals.getD j .top) := by
  intro ks
  induction ks with
  | nil => intro ts vals h t ht; simp at h; omega
  | cons k ks ih =>
    intro ts vals h t ht
    cases ts with
    | nil => simp at ht
    | cons u ts =>
      cases t with
      | zero => simp only [applyK, List.getD_cons_zero]
      | succ t => simp only [applyK, List.getD_cons_succ]; exact ih ts vals (by simpa using h) t (by simpa using ht)

theorem applyK_len : ∀ (ks : List Nat) (ts vals : List AV), ks.length = ts.length → (applyK ks ts vals).length = ts.length := by
  intro ks
  induction ks with
  | nil => intro ts vals h; simp only [List.length_nil] at h; simp [applyK, ← h]
  | cons k ks ih =>
    intro ts vals h
    cases ts with
    | nil => simp at h
    | cons u ts => simp only [applyK, List.length_cons]; rw [ih ts vals (by simpa using h)]

theorem fgt_of : ∀ (xs ys : List AV), xs.length = ys.length → (∀ t, t < xs.length → ys.getD t .top = xs.getD t .top ∨ ys.getD t .top = .top) → fgt xs ys := by
  intro xs
  induction xs with
  | nil => intro ys h _; cases ys with
    | nil => trivial
    | cons => simp at h
  | cons x xs ih => intro ys h k; cases ys with
    | nil => simp at h
    | cons y ys => exact ⟨by simpa using k 0 (by simp), ih ys (by simpa using h) fun t ht => by simpa using k (t + 1) (by simpa using ht)⟩

/-- What holds when some are listed. -/
structure DInv (ops : Array Oper) (ts0 vals : List AV) (ds : List ADef) (listed : Array Bool) (a : AAct) : Prop where
  size : listed.size = ops.size
  down : ∀ i o, ops[i]? = some o → listed.getD i false = true → ∀ j ∈ edgesOf o, listed.getD j false = true
  len : a.tmps.length = ts0.length
  defers : a.defers = ds
  done : ∀ i t, listed.getD i false = true → dstOf ops i = some t → a.tmps.getD t .top = vals.getD i .top
  kept : ∀ t, (∀ i, listed.getD i false = true → dstOf ops i ≠ some t) → a.tmps.getD t .top = ts0.getD t .top

theorem wpIn_frame {F : Fence} {n : Nat} {P : Program} {o : Oper} {next next' : Act → World → Prop} {R R' : Exit → Act → World → Prop} (h : o.wpIn F n P a' w next R) (h1 : ∀ v w2, next (a'.put o.dst v) w2 → next' (a'.put o.dst v) w2)
    (hd : ∀ d v w2, next ({ a' with defers := d :: a'.defers }.put o.dst v) w2 → False)
    (h2 : ∀ ch w2, R (.panic ch) a' w2 → R' (.panic ch) a' w2) (h3 : LetsOut R → LetsOut R') : o.wpIn F n P a' w next' R' := by
  refine ⟨h.1, ?_⟩
  have h := h.2
  revert h
  generalize (o.semAt F.round a'.eval).run P w = r
  intro h
  cases r with
  | ok nx w2 =>
    cases nx <;> first | exact h1 _ _ h | exact h.elim | exact (hd _ _ _ h).elim | skip
    · exact ⟨h.1, CallsIn.mono h.2 fun e w' hh => by cases e <;> first | exact h1 _ _ hh | exact h2 _ _ hh | exact h3 hh⟩
    · exact ⟨h.1, RoundIn.mono h.2 fun e w' hh => by cases e <;> first | exact h1 _ _ hh | exact h2 _ _ hh | exact h3 hh⟩
    · exact ⟨h.1, RowsIn.mono h.2 fun v w' hh => h1 _ _ hh⟩
  | halt hh w2 => cases hh <;> first | exact h2 _ _ h | exact h.elim

theorem DRels.length {x : List ADef} {y : List Deferred} (h : DRels g x y) : x.length = y.length := by
  induction h with
  | nil => rfl
  | cons _ _ ih => simp [ih]

theorem AAct.put_defers (a : AAct) (d : Option Tmp) (v : AV) : (a.put d v).defers = a.defers := by cases d <;> rfl
theorem Act.put_defers' (a : Act) (d : Option Tmp) (v : Value) : (a.put d v).defers = a.defers := by cases d <;> rfl

theorem letsOut_conc {E : Env} {g : Ghost} {Q : APost} (h : LetsOut (Conc E g Q)) : False := by
  obtain ⟨a, w, x, A, H, g2, _, _, _, _, hx⟩ := h
  cases hx

/-- What the one operation gives, taken over to the state that is more. -/
theorem put_rel {g2 : Ghost} {o : Oper} {v : AV} {c : Value} (hfg : a.tmps.length = b.tmps.length) (ha : ARel g2 a a') (hb : ARel g2 (b.put o.dst v) (a'.put o.dst c)) : ARel g2 (a.put o.dst v) (a'.put o.dst c) := by
  cases hd : o.dst with
  | none => exact ha
  | some d =>
    rw [hd] at hb
    refine ⟨?_, ha.2⟩
    show VRels g2 (a.tmps.set d v) (a'.tmps.setIfInBounds d c)
    by_cases h : @LT.lt Nat _ d a.tmps.length
    · refine ha.1.set d ?_
      have := hb.1.2 d
      have e1 : (b.put (some d) v).tmps.getD d .top = v := by
        show (b.tmps.set d v).getD d .top = v
        rw [List.getD_eq_getElem?_getD, List.getElem?_set_self (by omega)]; rfl
      have e2 : (a'.put (some d) c).tmps.getD d undef = c := by
        show (a'.tmps.setIfInBounds d c).getD d undef = c
        rw [Array.getD_eq_getD_getElem?, Array.getElem?_setIfInBounds_self, if_pos (by rw [ha.1.1]; exact h)]; rfl
      rw [e1, e2] at this
      exact this
    · have e1 : a.tmps.set d v = a.tmps := List.set_eq_of_length_le (by omega)
      have e2 : a'.tmps.setIfInBounds d c = a'.tmps := by
        apply Array.ext_getElem?
        intro i
        rw [Array.getElem?_setIfInBounds]
        split
        · rename_i e; subst e; rw [if_neg (by rw [ha.1.1]; exact h), Array.getElem?_eq_none (by rw [ha.1.1]; omega)]
        · rfl
      rw [e1, e2]; exact ha.1

theorem rho_eq (hl : GLe g0 g) (hd : Dom g0 N) (hrd : ∀ l, rd = some l → l < N) : rho g rd = rho g0 rd := by
  cases rd with
  | none => rfl
  | some l =>
    have h := hrd l rfl
    rw [← hd.1] at h
    have e := List.getElem?_eq_getElem h
    show some (g.phi.getD l 0) = some (g0.phi.getD l 0)
    rw [List.getD_eq_getElem?_getD, List.getD_eq_getElem?_getD, e, hl.phi _ _ e]

/-- An operation that goes well in a state that is less, goes well. -/
theorem opok_more {o : Oper} {v : AV} (hrd : ∀ l, rd = some l → l < N) (h : Wop E rd md o b H (fun a' H' => a' = b.put o.dst v ∧ H' = H) (QD Q b)) (hf : fgt a.tmps b.tmps) (hdf : a.defers = b.defers) :
    OpOk E N rd o a H (fun a' H' => a' = a.put o.dst v ∧ H' = H) Q := by
  intro g0 g w a' hd hl hr ha
  have hb : ARel g b a' := ⟨fgt_rels _ _ hf _ ha.1, hdf ▸ ha.2⟩
  have hlen : a.tmps.length = b.tmps.length := by rw [← ha.1.1, hb.1.1]
  have := wop_sound (N := H.length) h g g w a' hr.dom (GLe.refl g) hr hb
  have hrho : fenceOf g rd = fenceOf g0 rd := by unfold fenceOf; rw [rho_eq hl hd hrd]
  rw [hrho] at this
  refine wpIn_frame this ?_ ?_ ?_ ?_
  · rintro c w2 ⟨A, H2, g2, ⟨rfl, rfl⟩, hl2, hr2, ha2⟩
    exact ⟨_, _, g2, ⟨rfl, rfl⟩, hl.trans hl2, hr2, put_rel hlen (ha.mono hl2) ha2⟩
  · rintro d c w2 ⟨A, H2, g2, ⟨rfl, rfl⟩, hl2, hr2, ha2⟩
    have h1 := ha2.2.length
    have h2 := hb.2.length
    rw [AAct.put_defers, Act.put_defers'] at h1
    simp only [List.length_cons] at h1
    omega
  · rintro ch w2 ⟨x, A, H2, g2, hq, hl2, hr2, ha2, hx⟩
    cases hx with
    | panic hp =>
      refine ⟨.panic _, a, H2, g2, ?_, hl.trans hl2, hr2, ha.mono hl2, .panic hp⟩
      have := hq a.tmps hf
      rw [← hdf] at this
      exact this
  · intro h; exact (letsOut_conc h).elim

theorem DInv.forget {ops : Array Oper} {ts0 vals : List AV} {ds : List ADef} {listed : Array Bool} (hi : DInv ops ts0 vals ds listed a) {i : Nat} {o : Oper} (ho : ops[i]? = some o) {ks : List Nat} (hk : okK ops i o ks = true) (hl : ks.length = ts0.length)
    (hun : listed.getD i false = false) (hready : ∀ j ∈ edgesOf o, listed.getD j false = true) : fgt a.tmps (applyK ks ts0 vals) := by
  refine fgt_of _ _ (by rw [hi.len, applyK_len _ _ _ hl]) fun t ht => ?_
  rw [hi.len] at ht
  rw [applyK_get _ _ _ hl t ht]
  have hkt : (match ks.getD t 1 with
    | 0 => (List.range ops.size).all fun j => dstOf ops j != some t || j == i || ((ops[j]?).map (fun o => (edgesOf o).contains i)).getD false
    | 1 => true
    | j + 2 => (edgesOf o).contains j && dstOf ops j == some t) = true := List.all_eq_true.1 hk t (List.mem_range.2 (by omega))
  split at hkt
  · rename_i e
    left
    refine (hi.kept t fun j hj hjd => ?_).symm
    have hjlt : j < ops.size := by
      by_cases h : j < ops.size
      · exact h
      · rw [← hi.size] at h; simp [Array.getD, h] at hj
    have := List.all_eq_true.1 hkt j (List.mem_range.2 hjlt)
    simp only [Bool.or_eq_true, bne_iff_ne, ne_eq, beq_iff_eq] at this
    rcases this with (h | h) | h
    · exact h hjd
    · subst h; rw [hj] at hun; simp at hun
    · cases ho2 : ops[j]? with
      | none => rw [ho2] at h; simp at h
      | some o2 =>
        rw [ho2] at h
        have := hi.down j o2 ho2 hj i (by simpa using h)
        rw [this] at hun; simp at hun
  · right; rfl
  · rename_i j e
    left
    simp only [Bool.and_eq_true, List.contains_eq_mem, decide_eq_true_eq, beq_iff_eq] at hkt
    exact (hi.done j t (hready j hkt.1) hkt.2).symm

theorem DInv.put {ops : Array Oper} {ts0 vals : List AV} {ds : List ADef} {listed : Array Bool} (hR : okR ops ts0.length = true) (hi : DInv ops ts0 vals ds listed a) {i : Nat} {o : Oper} (ho : ops[i]? = some o)
    (hready : ∀ j ∈ edgesOf o, listed.getD j false = true) : DInv ops ts0 vals ds (listed.setIfInBounds i true) (a.put o.dst (vals.getD i .top)) := by
  have hilt : i < ops.size := (Array.getElem?_eq_some_iff.1 ho).1
  have hset : ∀ k, (listed.setIfInBounds i true).getD k false = (if k = i then true else listed.getD k false) := by
    intro k
    rw [Array.getD_eq_getD_getElem?, Array.getD_eq_getD_getElem?, Array.getElem?_setIfInBounds]
    by_cases e : i = k
    · subst e; simp [hi.size, hilt]
    · rw [if_neg e, if_neg (fun h => e h.symm)]
  have hRi := List.all_eq_true.1 hR i (List.mem_range.2 hilt)
  rw [ho] at hRi
  simp only [Bool.and_eq_true] at hRi
  obtain ⟨⟨_, hdn⟩, hdd⟩ := hRi
  have hdi : dstOf ops i = o.dst := by simp [dstOf, ho]
  have other : ∀ j t, j ≠ i → dstOf ops j = some t → o.dst ≠ some t := by
    intro j t hj hjd e
    have hjlt : j < ops.size := by
      unfold dstOf at hjd
      cases h : ops[j]? with
      | none => rw [h] at hjd; simp at hjd
      | some o2 => exact (Array.getElem?_eq_some_iff.1 h).1
    have := List.all_eq_true.1 hdd j (List.mem_range.2 hjlt)
    simp only [Bool.or_eq_true, beq_iff_eq, bne_iff_ne, ne_eq, Option.isNone_iff_eq_none] at this
    rcases this with (h | h) | h
    · exact hj h
    · rw [h] at e; simp at e
    · exact h (by rw [hjd, e])
  have hget : ∀ (v : AV) (t : Nat), (a.put o.dst v).tmps.getD t .top = if o.dst = some t ∧ t < a.tmps.length then v else a.tmps.getD t .top := by
    intro v t
    cases hd : o.dst with
    | none => simp [AAct.put]
    | some d =>
      show (a.tmps.set d v).getD t .top = _
      rw [List.getD_eq_getElem?_getD, List.getD_eq_getElem?_getD, List.getElem?_set]
      by_cases e : d = t
      · subst e
        by_cases h : @LT.lt Nat _ d a.tmps.length
        · simp [h]
        · simp [h]
      · rw [if_neg e, if_neg (fun h => e (by simpa using h.1))]
  refine ⟨by simpa using hi.size, fun k o2 hk hl j hj => ?_, ?_, ?_, fun k t hl hd => ?_, fun t ht => ?_⟩
  · rw [hset] at hl ⊢
    by_cases e : j = i
    · rw [if_pos e]
    · rw [if_neg e]
      by_cases e2 : k = i
      · subst e2; rw [ho] at hk; injection hk with hk; subst hk; exact hready j hj
      · rw [if_neg e2] at hl; exact hi.down k o2 hk hl j hj
  · cases hd : o.dst with
    | none => exact hi.len
    | some d => show (a.tmps.set d _).length = _; rw [List.length_set]; exact hi.len
  · rw [AAct.put_defers]; exact hi.defers
  · rw [hset] at hl
    rw [hget]
    by_cases e : k = i
    · subst e
      rw [hdi] at hd
      rw [hd] at hdn
      simp only [decide_eq_true_eq] at hdn
      rw [if_pos ⟨hd, by rw [hi.len]; exact hdn⟩]
    · rw [if_neg e] at hl
      rw [if_neg (fun h => other k t e hd h.1)]
      exact hi.done k t hl hd
  · rw [hget, if_neg (fun h => ht i (by rw [hset, if_pos rfl]) (by rw [hdi]; exact h.1))]
    refine hi.kept t fun k hk => ht k ?_
    rw [hset]
    by_cases e : k = i
    · rw [if_pos e]
    · rw [if_neg e]; exact hk

def unlisted (ops : Array Oper) (listed : Array Bool) : Nat := ((List.range ops.size).filter fun i => !listed.getD i false).length

/-- Any order. -/
theorem drawn_sound {ops : Array Oper} {ts0 vals : List AV} {ds : List ADef} (hrd : ∀ l, rd = some l → l < N) (hR : okR ops ts0.length = true) (hD : ∀ i o, ops[i]? = some o →
      ∃ ks, okK ops i o ks = true ∧ ks.length = ts0.length ∧ DOp E rd md ops Q o ⟨applyK ks ts0 vals, ds⟩ H (vals.getD i .top))
    (hQ : ∀ a listed, DInv ops ts0 vals ds listed a → (∀ i, i < ops.size → listed.getD i false = true) → Q .normal a H) :
    ∀ (fuel t : Nat) (listed : Array Bool) (a : AAct), DInv ops ts0 vals ds listed a → unlisted ops listed ≤ fuel → WPo E N rd ops Q (Region.linearise.go .any ops fuel t listed []) a H := by
  have hsome : ∀ listed : Array Bool, listed.size = ops.size → Region.ready .any ops listed = [] → ∀ i, i < ops.size → listed.getD i false = true := by
    intro listed hs hnil i
    induction i using Nat.strongRecOn with
    | _ i ih =>
      intro hi
      have ho : ops[i]? = some ops[i] := Array.getElem?_eq_getElem hi
      have hRi := List.all_eq_true.1 hR i (List.mem_range.2 hi)
      rw [ho] at hRi
      simp only [Bool.and_eq_true] at hRi
      have hlow := List.all_eq_true.1 hRi.1.1
      by_cases h : listed.getD i false = true
      · exact h
      · exfalso
        have hmem : i ∈ Region.ready .any ops listed := by
          refine List.mem_filter.2 ⟨List.mem_range.2 hi, ?_⟩
          rw [ho]
          simp only [Option.map_some, Option.getD_some, Bool.and_eq_true, Bool.not_eq_true']
          refine ⟨?_, ?_⟩
          · have : listed.getD i true = listed.getD i false := by
              rw [Array.getD_eq_getD_getElem?, Array.getD_eq_getD_getElem?, Array.getElem?_eq_getElem (by omega)]; rfl
            rw [this]; simpa using h
          · rw [Array.all_eq_true']
            intro e he
            by_cases hb : Region.binds .any e = true
            · have hin : e.on ∈ edgesOf ops[i] := List.mem_map.2 ⟨e, List.mem_filter.2 ⟨by simpa using he, hb⟩, rfl⟩
              have hlt := hlow e.on hin
              simp only [decide_eq_true_eq] at hlt
              rw [ih e.on hlt (by omega)]; simp
            · simp [hb]
        rw [hnil] at hmem; simp at hmem
  intro fuel
  induction fuel with
  | zero =>
    intro t listed a hi hu
    have hall : ∀ i, i < ops.size → listed.getD i false = true := by
      intro i hlt
      by_cases h : listed.getD i false = true
      · exact h
      · have : i ∈ (List.range ops.size).filter fun i => !listed.getD i false := List.mem_filter.2 ⟨List.mem_range.2 hlt, by simpa using h⟩
        have := List.length_pos_of_mem this
        unfold unlisted at hu; omega
    exact wpo_nil (hQ a listed hi hall)
  | succ fuel ih =>
    intro t listed a hi hu
    simp only [Region.linearise.go]
    change WPo E N rd ops Q (match (Region.ready .any ops listed)[t % (Region.ready .any ops listed).length]? with
      | some i => Region.linearise.go .any ops fuel (t / (Region.ready .any ops listed).length) (listed.setIfInBounds i true) [i]
      | none => [].reverse) a H
    cases hrs : (Region.ready .any ops listed)[t % (Region.ready .any ops listed).length]? with
    | none =>
      have hnil : Region.ready .any ops listed = [] := by
        cases hr : Region.ready .any ops listed with
        | nil => rfl
        | cons x xs =>
          rw [hr] at hrs
          have hlt : t % (x :: xs).length < (x :: xs).length := Nat.mod_lt _ (by simp)
          rw [List.getElem?_eq_getElem hlt] at hrs
          simp at hrs
      exact wpo_nil (hQ a listed hi (hsome listed hi.size hnil))
    | some i =>
      have hmem := List.mem_of_getElem? hrs
      have hm := List.mem_filter.1 hmem
      have hilt := List.mem_range.1 hm.1
      have ho : ops[i]? = some ops[i] := Array.getElem?_eq_getElem hilt
      have hm2 := hm.2
      rw [ho] at hm2
      simp only [Option.map_some, Option.getD_some, Bool.and_eq_true, Bool.not_eq_true'] at hm2
      have hun : listed.getD i false = false := by
        have : listed.getD i true = listed.getD i false := by
          rw [Array.getD_eq_getD_getElem?, Array.getD_eq_getD_getElem?, Array.getElem?_eq_getElem (by rw [hi.size]; exact hilt)]; rfl
        rw [← this]; exact hm2.1
      have hready : ∀ j ∈ edgesOf ops[i], listed.getD j false = true := by
        intro j hj
        obtain ⟨e, he, rfl⟩ := List.mem_map.1 hj
        have he2 := List.mem_filter.1 he
        have := Array.all_eq_true'.1 hm2.2 e (by simpa using he2.1)
        rw [he2.2] at this
        simpa using this
      simp only []
      rw [linearise_go_acc, List.reverse_singleton, List.singleton_append]
      obtain ⟨ks, hk, hkl, hdop⟩ := hD i _ ho
      have hfg := hi.forget ho hk hkl hun hready
      have hi2 := hi.put hR ho hready
      have hu2 : unlisted ops (listed.setIfInBounds i true) ≤ fuel := by
        unfold unlisted at hu ⊢
        have hlt : ((List.range ops.size).filter fun k => !(listed.setIfInBounds i true).getD k false).length < ((List.range ops.size).filter fun k => !listed.getD k false).length := by
          have hsub : ((List.range ops.size).filter fun k => !(listed.setIfInBounds i true).getD k false) = ((List.range ops.size).filter fun k => !listed.getD k false).filter fun k => k != i := by
            rw [List.filter_filter]
            apply List.filter_congr
            intro k hk
            have hk := List.mem_range.1 hk
            rw [Array.getD_eq_getD_getElem?, Array.getD_eq_getD_getElem?, Array.getElem?_setIfInBounds]
            by_cases e : i = k
            · subst e; simp [hi.size, hk]
            · rw [if_neg e]
              have : (k != i) = true := by simpa using fun h => e h.symm
              rw [this]; simp
          rw [hsub]
          exact List.length_filter_lt_length_iff_exists.2 ⟨i, List.mem_filter.2 ⟨List.mem_range.2 hilt, by simpa using hun⟩, by simp⟩
        omega
      have hrest := ih (t / (Region.ready .any ops listed).length) _ _ hi2 hu2
      intro g0 g w a' hd hl hr ha
      simp only [wpOpsIn, ho]
      have hb : ARel g ⟨applyK ks ts0 vals, ds⟩ a' := ⟨fgt_rels _ _ hfg _ ha.1, hi.defers ▸ ha.2⟩
      unfold DOp at hdop
      split at hdop
      · rename_i hg
        rw [guard_sound hb hg, if_pos rfl]
        have := opok_more hrd hdop (a := a) hfg hi.defers g0 g w a' hd hl hr ha
        refine wpIn_frame this ?_ ?_ (fun _ _ h => h) (fun h => h)
        · rintro c w2 ⟨A, H2, g2, ⟨rfl, rfl⟩, hl2, hr2, ha2⟩
          exact hrest g0 g2 w2 _ hd hl2 hr2 ha2
        · rintro d c w2 ⟨A, H2, g2, ⟨rfl, rfl⟩, hl2, hr2, ha2⟩
          have h1 := ha2.2.length
          have h2 := ha.2.length
          rw [AAct.put_defers, Act.put_defers'] at h1
          simp only [List.length_cons] at h1
          omega
      · rename_i hg
        rw [guard_sound hb hg, if_neg (by simp)]
        refine ⟨fun f _ => fence_fn _ _ _, ?_⟩
        rw [hdop] at hrest
        exact hrest g0 g w _ hd hl hr (ha.put _ (undef_rel _))
      · exact hdop.elim

theorem finL_len : ∀ (l : List Oper) (vals ts : List AV), (finL l vals ts).length = ts.length := by
  intro l
  induction l with
  | nil => intro vals ts; rfl
  | cons o os ih =>
    intro vals ts
    cases vals with
    | nil => rfl
    | cons v vs =>
      simp only [finL]
      rw [ih]
      split <;> simp

theorem finL_out : ∀ (l : List Oper) (vals ts : List AV) (t : Nat), (∀ (i : Nat) (o : Oper), l[i]? = some o → o.dst ≠ some t) → (finL l vals ts).getD t .top = ts.getD t .top := by
  intro l
  induction l with
  | nil => intro vals ts t _; rfl
  | cons o os ih =>
    intro vals ts t h
    cases vals with
    | nil => rfl
    | cons v vs =>
      simp only [finL]
      rw [ih vs _ t (fun i o' hi => h (i + 1) o' (by simpa using hi))]
      have h0 := h 0 o rfl
      split
      · rename_i d hd
        rw [List.getD_eq_getElem?_getD, List.getD_eq_getElem?_getD, List.getElem?_set_ne]
        intro e; exact h0 (by rw [hd, e])
      · rfl

theorem finL_in : ∀ (l : List Oper) (vals ts : List AV) (i t : Nat) (o : Oper), vals.length = l.length → l[i]? = some o → o.dst = some t → t < ts.length → (∀ (j : Nat) (o' : Oper), j ≠ i → l[j]? = some o' → o'.dst ≠ some t) → (finL l vals ts).getD t .top = vals.getD i .top := by
  intro l
  induction l with
  | nil => intro vals ts i t o _ h; simp at h
  | cons o1 os ih =>
    intro vals ts i t o hlen hi hd ht hother
    cases vals with
    | nil => simp at hlen
    | cons v vs =>
      simp only [finL]
      cases i with
      | zero =>
        simp only [List.getElem?_cons_zero, Option.some.injEq] at hi
        subst hi
        rw [hd]
        rw [finL_out os vs _ t (fun j o' hj => hother (j + 1) o' (by omega) (by simpa using hj))]
        simp only [List.getD_cons_zero]
        rw [List.getD_eq_getElem?_getD, List.getElem?_set_self ht]; rfl
      | succ i =>
        simp only [List.getElem?_cons_succ] at hi
        simp only [List.getD_cons_succ]
        refine ih vs _ i t o (by simpa using hlen) hi hd ?_ fun j o' hj hjo => hother (j + 1) o' (by omega) (by simpa using hjo)
        split
        · rw [List.length_set]; exact ht
        · exact ht

/-- **A region whose order is drawn.** -/
theorem wdraw {id : Nat} {l : List Oper} {ts0 vals : List AV} {ds : List ADef} (kss : List (List Nat)) (hrd : ∀ l, rd = some l → l < N) (hR : okR l.toArray ts0.length = true) (hlen : vals.length = l.length)
    (hD : DAll E rd md l.toArray Q ts0 ds H vals 0 l kss) {fin : List AV} (hfin : finL l vals ts0 = fin) (hq : Q .normal ⟨fin, ds⟩ H) : W E N rd md (.region id l.toArray true) Q ⟨ts0, ds⟩ H := by
  intro t
  have hops : ∀ i : Nat, l.toArray[i]? = l[i]? := fun i => by simp
  have key := drawn_sound (E := E) (N := N) (rd := rd) (md := md) (Q := Q) (H := H) (ops := l.toArray) (ts0 := ts0) (vals := vals) (ds := ds) hrd hR ?_ ?_ l.toArray.size t (Array.replicate l.toArray.size false) ⟨ts0, ds⟩ ?_ ?_
  · exact key
  · intro i o hi
    rw [hops] at hi
    have := dall_at (E := E) (rd := rd) (md := md) (Q := Q) (H := H) (ops := l.toArray) l kss 0 (fun i => by simp) hD i o hi
    rwa [Nat.zero_add] at this
  · intro a listed hi hall
    have : a = ⟨fin, ds⟩ := by
      obtain ⟨ts, ds'⟩ := a
      have h1 : ds' = ds := hi.defers
      subst h1
      congr 1
      rw [← hfin]
      have hl : ts.length = ts0.length := hi.len
      apply List.ext_getElem?
      intro t
      by_cases ht : t < ts.length
      · have e1 : ts[t]? = some (ts.getD t .top) := by rw [List.getD_eq_getElem?_getD, List.getElem?_eq_getElem ht]; rfl
        have e2 : (finL l vals ts0)[t]? = some ((finL l vals ts0).getD t .top) := by
          have : t < (finL l vals ts0).length := by rw [finL_len]; omega
          rw [List.getD_eq_getElem?_getD, List.getElem?_eq_getElem this]; rfl
        rw [e1, e2]
        congr 1
        by_cases hex : ∃ (i : Nat) (o : Oper), l[i]? = some o ∧ o.dst = some t
        · obtain ⟨i, o, hi1, hd⟩ := hex
          have hilt : i < l.toArray.size := by simpa using (List.getElem?_eq_some_iff.1 hi1).1
          have hdi : dstOf l.toArray i = some t := by unfold dstOf; rw [hops, hi1]; exact hd
          have h1 := hi.done i t (hall i hilt) hdi
          have hRi := List.all_eq_true.1 hR i (List.mem_range.2 hilt)
          rw [hops, hi1] at hRi
          simp only [Bool.and_eq_true] at hRi
          have h2 := finL_in l vals ts0 i t o hlen hi1 hd (by omega) fun j o' hj hjo hjd => by
            have hjlt : j < l.toArray.size := by simpa using (List.getElem?_eq_some_iff.1 hjo).1
            have := List.all_eq_true.1 hRi.2 j (List.mem_range.2 hjlt)
            have hdj : dstOf l.toArray j = some t := by unfold dstOf; rw [hops, hjo]; exact hjd
            rw [hdj, hd] at this
            simp at this
            exact hj this
          exact h1.trans h2.symm
        · have h1 := hi.kept t fun i hl1 hd => by
            unfold dstOf at hd
            rw [hops] at hd
            cases ho : l[i]? with
            | none => rw [ho] at hd; simp at hd
            | some o => rw [ho] at hd; exact hex ⟨i, o, ho, hd⟩
          have h2 := finL_out l vals ts0 t fun i o hi1 hd => hex ⟨i, o, hi1, hd⟩
          exact h1.trans h2.symm
      · rw [List.getElem?_eq_none (by omega), List.getElem?_eq_none (by rw [finL_len]; omega)]
    rw [this]; exact hq
  · refine ⟨by simp, fun i o hi hl => ?_, rfl, rfl, fun i t hl => ?_, fun t _ => rfl⟩
    · exfalso; rw [Array.getD_eq_getD_getElem?, Array.getElem?_replicate] at hl; split at hl <;> simp at hl
    · exfalso; rw [Array.getD_eq_getD_getElem?, Array.getElem?_replicate] at hl; split at hl <;> simp at hl
  · unfold unlisted
    refine Nat.le_trans (List.length_filter_le _ _) ?_
    simp

theorem dall_nil {ops : Array Oper} {ts0 vals : List AV} {ds : List ADef} {i : Nat} {kss : List (List Nat)} : DAll E rd md ops Q ts0 ds H vals i [] kss := trivial
theorem dall_cons {ops : Array Oper} {ts0 vals : List AV} {ds : List ADef} {i : Nat} {o : Oper} {os : List Oper} {ks : List Nat} {kss : List (List Nat)} (h1 : okK ops i o ks = true) (h2 : ks.length = ts0.length) {b : List AV} (hb : applyK ks ts0 vals = b)
    (h3 : DOp E rd md ops Q o ⟨b, ds⟩ H (vals.getD i .top)) (h4 : DAll E rd md ops Q ts0 ds H vals (i + 1) os kss) : DAll E rd md ops Q ts0 ds H vals i (o :: os) (ks :: kss) := ⟨h1, h2, by rw [hb]; exact h3, h4⟩
theorem dop_pure {ops : Array Oper} {o : Oper} {v : AV} (hg : guardOk ops b o = some true) (hp : pureOp o.op = true) (hv : evPure E b H o = some v) : DOp E rd md ops Q o b H v := by
  simp only [DOp, hg]
  exact wop_pure hp hv ⟨rfl, rfl⟩
theorem dop_heap {ops : Array Oper} {o : Oper} {v : AV} (hg : guardOk ops b o = some true) (hp : heapOp o.op = true) (hv : evHeap E md b H o = some (v, H)) : DOp E rd md ops Q o b H v := by
  simp only [DOp, hg]
  exact wop_heap hp hv ⟨rfl, rfl⟩
theorem dop_convert {ops : Array Oper} {o : Oper} {v : AV} {s d : TypeId} {x : Operand} (hg : guardOk ops b o = some true) (hp : o.op = .convert s d x) (h0 : evPure E b H o = none) (hv : evHeap E md b H o = some (v, H)) : DOp E rd md ops Q o b H v := by
  simp only [DOp, hg]
  exact wop_convert hp h0 hv ⟨rfl, rfl⟩
theorem dop_off {ops : Array Oper} {o : Oper} (hg : guardOk ops b o = some false) : DOp E rd md ops Q o b H (.tup []) := by
  simp only [DOp, hg]
theorem dop_call {ops : Array Oper} {o : Oper} {v : AV} (hg : guardOk ops b o = some true) {c : Call} (ho : o.op = .call c) {f : Operand} (hc : c.callee = .value f) {fid : FuncId} {first cap : List AV} (hf : b.ev E.gl f = .fn fid first cap) {args : List AV} (ha : first ++ evCallArgs b E.gl c ++ cap = args)
    (h : ACall E fid args H (fun x H' => x = .ret v ∧ H' = H)) : DOp E rd md ops Q o b H v := by
  simp only [DOp, hg]
  refine wop_call ho hc hf ha (ACall.mono h ?_)
  rintro x H' ⟨rfl, rfl⟩
  exact ⟨rfl, rfl⟩

/-- A call that only answers. -/
theorem wop_ask {o : Oper} {K : AAct → List AO → Prop} {ts0 : List AV} {ds : List ADef} {c : Call} (ho : o.op = .call c) {f : Operand} (hc : c.callee = .value f) {fid : FuncId} {first cap : List AV} (hf : AAct.ev E.gl ⟨ts0, ds⟩ f = .fn fid first cap) {args : List AV} (ha : first ++ evCallArgs ⟨ts0, ds⟩ E.gl c ++ cap = args)
    {v : AV} (h : ACall E fid args H (fun x H' => x = .ret v ∧ H' = H)) {d : Tmp} (hd : o.dst = some d) {ts : List AV} (hs : ts0.set d v = ts) (hk : K ⟨ts, ds⟩ H) : Wop E rd md o ⟨ts0, ds⟩ H K Q := by
  refine wop_call ho hc hf ha (ACall.mono h ?_)
  rintro x H' ⟨rfl, rfl⟩
  exact onEnd_ret hd hs hk

end Go.Ab

/- The abstract view, 19: loops by a family of temporaries; numbers that are in range; small helps. -/
set_option linter.unusedVariables false
set_option linter.unusedSimpArgs false
namespace Go.Ab
open Go Go.RowKit

variable {E : Env} {N : Nat} {rd : Option Nat} {md : Nat → Nat} {Q : APost} {a b : AAct} {H : List AO}

/-- What is asked behind a round of a loop. -/
def WLoop {ι : Type} (st : ι → List AV) (ds : List ADef) (Hs : ι → List AO) (inv : ι → Prop) (μ : ι → Nat) (i : ι) (Q : APost) : APost :=
  AX.then (fun a' H' => ∃ j, inv j ∧ μ j < μ i ∧ fgt a'.tmps (st j) ∧ a'.defers = ds ∧ H' = Hs j) Q
theorem wloop_normal {ι : Type} {st : ι → List AV} {ds : List ADef} {Hs : ι → List AO} {inv : ι → Prop} {μ : ι → Nat} {i : ι} (j : ι) {ts : List AV} (h1 : inv j) (h2 : μ j < μ i) (h3 : fgt ts (st j)) (h4 : H = Hs j) : WLoop st ds Hs inv μ i Q .normal ⟨ts, ds⟩ H := ⟨j, h1, h2, h3, rfl, h4⟩
theorem wloop_exit {ι : Type} {st : ι → List AV} {ds : List ADef} {Hs : ι → List AO} {inv : ι → Prop} {μ : ι → Nat} {i : ι} {id : Nat} (h : Q (.exit id) a H) : WLoop st ds Hs inv μ i Q (.exit id) a H := h
theorem wloop_goto {ι : Type} {st : ι → List AV} {ds : List ADef} {Hs : ι → List AO} {inv : ι → Prop} {μ : ι → Nat} {i : ι} {l : Nat} (h : Q (.goto l) a H) : WLoop st ds Hs inv μ i Q (.goto l) a H := h
theorem wloop_ret {ι : Type} {st : ι → List AV} {ds : List ADef} {Hs : ι → List AO} {inv : ι → Prop} {μ : ι → Nat} {i : ι} (h : Q .ret a H) : WLoop st ds Hs inv μ i Q .ret a H := h
theorem wloop_panic {ι : Type} {st : ι → List AV} {ds : List ADef} {Hs : ι → List AO} {inv : ι → Prop} {μ : ι → Nat} {i : ι} {ch : List APanic} (h : Q (.panic ch) a H) : WLoop st ds Hs inv μ i Q (.panic ch) a H := h

theorem w_loop_by {c : Code} {ι : Type} {ts : List AV} {ds : List ADef} (st : ι → List AV) (Hs : ι → List AO) (inv : ι → Prop) (μ : ι → Nat) (i0 : ι) (h0 : inv i0) (h1 : fgt ts (st i0)) (h2 : H = Hs i0)
    (round : ∀ i, inv i → W E N rd md c (WLoop st ds Hs inv μ i Q) ⟨st i, ds⟩ (Hs i)) : W E N rd md (.loop c) Q ⟨ts, ds⟩ H := by
  refine wpc_loop (ι := { i : ι // inv i }) (fun i => (⟨st i.1, ds⟩, Hs i.1)) (fun i => μ i.1) ⟨i0, h0⟩ ⟨rfl, h1, h2⟩ ?_
  rintro ⟨i, hi⟩
  refine WPc.mono (W_sound c _ _ _ (round i hi)) ?_
  intro x a H hq
  cases x <;> first | exact hq | skip
  obtain ⟨j, h1, h2, h3, h4, h5⟩ := hq
  exact ⟨⟨j, h1⟩, h2, h4.symm, h3, h5⟩

theorem w_loop_at {c : Code} {ι : Type} {ts : List AV} {ds : List ADef} (st : ι → List AV) (inv : ι → Prop) (μ : ι → Nat) (i0 : ι) (h0 : inv i0) (h1 : fgt ts (st i0))
    (round : ∀ i, inv i → W E N rd md c (WLoop st ds (fun _ => H) inv μ i Q) ⟨st i, ds⟩ H) : W E N rd md (.loop c) Q ⟨ts, ds⟩ H :=
  w_loop_by st (fun _ => H) inv μ i0 h0 h1 rfl round

theorem wrap_in {k : IntKind} {n : Int} (h1 : k.min ≤ n) (h2 : n ≤ k.max) : k.wrap n = n := by
  cases k <;> simp only [IntKind.wrap, IntKind.min, IntKind.max, IntKind.signed, IntKind.bits] at * <;> simp_all <;> omega

theorem wrap_i64 {n : Int} (h1 : -9223372036854775808 ≤ n) (h2 : n ≤ 9223372036854775807) : IntKind.i64.wrap n = n := wrap_in h1 h2
theorem wrap_u64 {n : Int} (h1 : 0 ≤ n) (h2 : n ≤ 18446744073709551615) : IntKind.u64.wrap n = n := wrap_in h1 h2
theorem wrap_i32 {n : Int} (h1 : -2147483648 ≤ n) (h2 : n ≤ 2147483647) : IntKind.i32.wrap n = n := wrap_in h1 h2
theorem wrap_u32 {n : Int} (h1 : 0 ≤ n) (h2 : n ≤ 4294967295) : IntKind.u32.wrap n = n := wrap_in h1 h2
theorem wrap_u8 {n : Int} (h1 : 0 ≤ n) (h2 : n ≤ 255) : IntKind.u8.wrap n = n := wrap_in h1 h2

theorem toNat_sub1 (n : Nat) : ((n : Int) - 1).toNat = n - 1 := by omega
theorem toNat_add1 (n : Nat) : ((n : Int) + 1).toNat = n + 1 := by omega
theorem toNat_addN (a b : Nat) : ((a : Int) + (b : Int)).toNat = a + b := by omega
theorem toNat_subN (a b : Nat) : ((a : Int) - (b : Int)).toNat = a - b := by omega

theorem getE {α : Type} (H l : List α) (k : Nat) : (H ++ l)[H.length + k]? = l[k]? := by rw [List.getElem?_append_right (by omega)]; congr 1; omega
theorem getE0 {α : Type} (H l : List α) : (H ++ l)[H.length]? = l[0]? := getE H l 0
theorem setE {α : Type} (H l : List α) (k : Nat) (x : α) : (H ++ l).set (H.length + k) x = H ++ l.set k x := by rw [List.set_append_right _ _ (by omega)]; congr 2; omega
theorem setE0 {α : Type} (H l : List α) (x : α) : (H ++ l).set H.length x = H ++ l.set 0 x := setE H l 0 x

theorem fgt_nil : fgt [] [] := trivial
theorem fgt_top {x : AV} {xs ys : List AV} (h : fgt xs ys) : fgt (x :: xs) (.top :: ys) := ⟨.inr rfl, h⟩
theorem fgt_same {x y : AV} {xs ys : List AV} (e : y = x) (h : fgt xs ys) : fgt (x :: xs) (y :: ys) := ⟨.inl e, h⟩

/-- Truth of a sentence, as a bool. -/
noncomputable def tf (p : Prop) : Bool := @decide p (Classical.propDecidable p)
theorem tf_true {p : Prop} (h : p) : tf p = true := by unfold tf; exact @decide_eq_true _ (Classical.propDecidable p) h
theorem tf_false {p : Prop} (h : ¬ p) : tf p = false := by unfold tf; exact @decide_eq_false _ (Classical.propDecidable p) h
theorem tf_congr {p q : Prop} (h : p ↔ q) : tf p = tf q := by rw [propext h]
theorem tf_iff {p : Prop} : tf p = true ↔ p := by unfold tf; exact @decide_eq_true_iff _ (Classical.propDecidable p)
theorem tf_not_iff {p : Prop} : tf p = false ↔ ¬ p := by unfold tf; exact @decide_eq_false_iff_not _ (Classical.propDecidable p)
theorem tf_decide {p : Prop} [d : Decidable p] : decide p = tf p := by by_cases h : p <;> simp [h, tf_true, tf_false]
theorem not_tf {p : Prop} : (!tf p) = tf (¬ p) := by by_cases h : p <;> simp [h, tf_true, tf_false]

mutual
theorem within_mono {n m : Nat} (h : n ≤ m) : ∀ v : AV, v.within n = true → v.within m = true
  | .top, _ | .bool _, _ | .int _ _, _ | .str _, _ | .nilp, _ | .nilmap, _ | .nilfn, _ | .nili, _ => rfl
  | .ref id _, k => by simp only [AV.within, decide_eq_true_eq] at *; omega
  | .msl id _ _, k => by simp only [AV.within, decide_eq_true_eq] at *; omega
  | .eref id _ _, k => by simp only [AV.within, decide_eq_true_eq] at *; omega
  | .vsl id _, k => by simp only [AV.within, decide_eq_true_eq] at *; omega
  | .map id, k => by simp only [AV.within, decide_eq_true_eq] at *; omega
  | .yield id, k => by simp only [AV.within, decide_eq_true_eq] at *; omega
  | .row xs, k => by simp only [AV.within] at *; exact belowL_mono h xs k
  | .agg xs, k => by simp only [AV.within] at *; exact belowL_mono h xs k
  | .tup xs, k => by simp only [AV.within] at *; exact belowL_mono h xs k
  | .iface _ v, k => by simp only [AV.within] at *; exact within_mono h v k
  | .fn _ xs ys, k => by simp only [AV.within, Bool.and_eq_true] at *; exact ⟨belowL_mono h xs k.1, belowL_mono h ys k.2⟩
  | .sl _ xs tok, k => by
    simp only [AV.within, Bool.and_eq_true] at *
    refine ⟨belowL_mono h xs k.1, ?_⟩
    have := k.2
    split
    · simp only [decide_eq_true_eq] at *; omega
    · rfl
theorem belowL_mono {n m : Nat} (h : n ≤ m) : ∀ xs : List AV, belowL n xs = true → belowL m xs = true
  | [], _ => rfl
  | x :: xs, k => by simp only [belowL, Bool.and_eq_true] at *; exact ⟨within_mono h x k.1, belowL_mono h xs k.2⟩
end

theorem AO.within_mono {n m : Nat} (h : n ≤ m) {o : AO} (k : o.within n = true) : o.within m = true := by
  cases o <;> simp only [AO.within, Bool.and_eq_true, decide_eq_true_eq, List.all_eq_true] at * <;> first | trivial | exact belowL_mono h _ k | skip
  · exact ⟨belowL_mono h _ k.1, by omega⟩
  · exact fun e he => ⟨Go.Ab.within_mono h _ (k e he).1, Go.Ab.within_mono h _ (k e he).2⟩

theorem Fit.mono {n m : Nat} {H : List AO} (h : n ≤ m) (k : Fit n H) : Fit m H := fun o ho => AO.within_mono h (k o ho)
theorem Fit.append {n : Nat} {H l : List AO} (k : Fit n H) (k2 : Fit n l) : Fit n (H ++ l) := fun o ho => by
  rcases List.mem_append.1 ho with h | h
  · exact k o h
  · exact k2 o h
theorem fit_nil {n : Nat} : Fit n [] := fun o ho => by simp at ho
theorem fit_cons {n : Nat} {o : AO} {l : List AO} (h : o.within n = true) (k : Fit n l) : Fit n (o :: l) := fun o' ho => by
  rcases List.mem_cons.1 ho with h' | h'
  · subst h'; exact h
  · exact k o' h'
/-- A heap that grew. -/
theorem Out.ext {R : AE → List AO → Prop} {x : AE} {H : List AO} (l : List AO) {n : Nat} (hn : H.length + l.length = n) (hf : Fit H.length H) (hl : Fit n l) (hx : x.within n = true) (h : R x (H ++ l)) : Out H.length R x (H ++ l) := by
  have e : (H ++ l).length = n := by rw [List.length_append, hn]
  exact Out.of (by rw [e]; omega) (by rw [e]; exact Fit.append (Fit.mono (by omega) hf) hl) (by rw [e]; exact hx) h

end Go.Ab

/- The abstract view, 20: ranges over functions and their rounds, in the form in which proofs step. -/
set_option linter.unusedVariables false
set_option linter.unusedSimpArgs false
namespace Go.Ab
open Go Go.RowKit

variable {E : Env} {N : Nat} {rd : Option Nat} {md : Nat → Nat} {Q : APost} {a b : AAct} {H : List AO}

theorem w_rangeFunc {f : Operand} {ps : Array Tmp} {asg body : Code} {ts : List AV} {ds : List ADef} {fid : FuncId} {first cap : List AV} (hf : AAct.ev E.gl ⟨ts, ds⟩ f = .fn fid first cap) {n : Nat} (hn : H.length = n) {args : List AV} (ha : first ++ [.yield (n + 1)] ++ cap = args)
    {H2 : FuncId → List AO} (hH2 : ∀ fn, H ++ [.defr, .loop .ready none fn ts ps asg body n] = H2 fn)
    (h : ∀ fn, (E.P.funcs[fn]?).isSome = true → AEnter E fid args (H2 fn) (RangeEnd E N none Q ⟨ts, .mark n :: ds⟩ (n + 1) fn ts ps asg body n)) : W E N none md (.rangeFunc f ps asg body) Q ⟨ts, ds⟩ H := by
  subst hn
  refine wpc_rangeFunc hf fun fn hfn => ?_
  have := h fn hfn
  rw [← hH2, ← ha] at this
  exact this

theorem rangeEnd_none {ts : List AV} {ds : List ADef} {l d : Nat} {fn : FuncId} {ps : Array Tmp} {asg body : Code} {v : AV} {st : LoopState} (h1 : H[l]? = some (.loop st none fn ts ps asg body d)) (h2 : st ≠ .busy) {H2 : List AO} (hs : H.set l .dead = H2) {ts0 : List AV}
    (h : Q .normal ⟨ts0, ds⟩ H2) : RangeEnd E N rd Q ⟨ts0, ds⟩ l fn ts ps asg body d (.ret v) H := ⟨st, none, h1, h2, by subst hs; exact h⟩
theorem rangeEnd_some {ts : List AV} {ds : List ADef} {l d : Nat} {fn : FuncId} {ps : Array Tmp} {asg body : Code} {v : AV} {st : LoopState} {c : Code} (md : Nat → Nat) (h1 : H[l]? = some (.loop st (some c) fn ts ps asg body d)) (h2 : st ≠ .busy) {H2 : List AO} (hs : H.set l .dead = H2) {ts0 : List AV}
    (h : W E N rd md c Q ⟨ts0, ds⟩ H2) : RangeEnd E N rd Q ⟨ts0, ds⟩ l fn ts ps asg body d (.ret v) H := ⟨st, some c, h1, h2, by subst hs; exact W_sound c _ _ _ h⟩

/-- What is asked behind a round's assignment. -/
def WRound (E : Env) (N l : Nat) (md : Nat → Nat) (fn : FuncId) (ts : List AV) (ps : Array Tmp) (asg body : Code) (d : Nat) (pe : Option Code) (R : AE → List AO → Prop) : APost :=
  AX.then (fun a1 H1 => H1[l]? = some (.loop .ready pe fn ts ps asg body d) ∧ W E N (some l) md body (RPost N l fn ts ps asg body d R) a1 (H1.set l (.loop .busy pe fn ts ps asg body d))) (fun _ _ _ => False)
theorem wround_normal {l : Nat} {fn : FuncId} {ts : List AV} {ps : Array Tmp} {asg body : Code} {d : Nat} {pe : Option Code} {R : AE → List AO → Prop} (h1 : H[l]? = some (.loop .ready pe fn ts ps asg body d)) {H2 : List AO} (hs : H.set l (.loop .busy pe fn ts ps asg body d) = H2)
    (h : W E N (some l) md body (RPost N l fn ts ps asg body d R) a H2) : WRound E N l md fn ts ps asg body d pe R .normal a H := ⟨h1, by subst hs; exact h⟩

theorem ARound.go {l : Nat} {args : List AV} {R : AE → List AO → Prop} (md : Nat → Nat) {pe : Option Code} {fn : FuncId} {ts ts1 : List AV} {ps : Array Tmp} {asg body : Code} {d : Nat} (hH : H[l]? = some (.loop .ready pe fn ts ps asg body d)) (hv : (E.P.funcs[fn]?).isSome = true) (hn : args.length = ps.size)
    (hts : roundTmps ts ps args = ts1) (hN : H.length = N) (h : Fit H.length H → W E N (some l) md asg (WRound E N l md fn ts ps asg body d pe R) ⟨ts1, []⟩ H) : ARound E l args H R := by
  subst hN; subst hts
  exact ARound.of_body md hH hv hn h

theorem rpost_normal {l : Nat} {fn : FuncId} {ts : List AV} {ps : Array Tmp} {asg body : Code} {d : Nat} {pe : Option Code} {R : AE → List AO → Prop} (h1 : H[l]? = some (.loop .busy pe fn ts ps asg body d)) {H2 : List AO} (hs : H.set l (.loop .ready none fn ts ps asg body d) = H2)
    (h : Out N R (.ret (.bool true)) H2) : RPost N l fn ts ps asg body d R .normal a H := ⟨⟨pe, h1⟩, by subst hs; exact h⟩
theorem rpost_ret {l : Nat} {fn : FuncId} {ts : List AV} {ps : Array Tmp} {asg body : Code} {d : Nat} {pe : Option Code} {R : AE → List AO → Prop} (h1 : H[l]? = some (.loop .busy pe fn ts ps asg body d)) {H2 : List AO} (hs : H.set l (.loop .done (some .ret) fn ts ps asg body d) = H2)
    (h : Out N R (.ret (.bool false)) H2) : RPost N l fn ts ps asg body d R .ret a H := ⟨⟨pe, h1⟩, by subst hs; exact h⟩

/-- Leaving with marks of ranges among the deferred. -/
theorem fpost_ret_mark {fn : Func} {R : AE → List AO → Prop} {ts : List AV} {id : Nat} {v : AV} (h1 : H[id]? = some .defr) {H2 : List AO} (hs : H.set id .dead = H2) (hv : evResults E fn ts H2 = some v) (h : Out N R (.ret v) H2) : FPost E N fn R .ret ⟨ts, [.mark id]⟩ H := by
  subst hs
  simp only [FPost, ALeave, hv]; exact ⟨h1, h⟩
theorem fpost_normal_mark {fn : Func} {R : AE → List AO → Prop} {ts : List AV} {id : Nat} {v : AV} (h1 : H[id]? = some .defr) {H2 : List AO} (hs : H.set id .dead = H2) (hv : evResults E fn ts H2 = some v) (h : Out N R (.ret v) H2) : FPost E N fn R .normal ⟨ts, [.mark id]⟩ H := by
  subst hs
  simp only [FPost, ALeave, hv]; exact ⟨h1, h⟩

theorem wop_defer' {o : Oper} {K : AAct → List AO → Prop} {ts0 : List AV} {ds : List ADef} {c : Call} (ho : o.op = .defer c) {f : Operand} (hc : c.callee = .value f) {fid : FuncId} {first cap : List AV} (hf : AAct.ev E.gl ⟨ts0, ds⟩ f = .fn fid first cap) {args : List AV} (ha : first ++ evCallArgs ⟨ts0, ds⟩ E.gl c = args) (hd : o.dst = none)
    (h : K ⟨ts0, .call fid args cap :: ds⟩ H) : Wop E none md o ⟨ts0, ds⟩ H K Q := by
  refine wop_defer ho hc hf ha ?_
  rw [hd]; exact h
/-- Leaving a function that has one deferred call. -/
theorem fpost_ret_call {fn : Func} {R : AE → List AO → Prop} {ts : List AV} {f : FuncId} {args cap : List AV} (h : ACallD E f (args ++ cap) .returning H (fun x u2 H2 => match x with
    | .ret _ => ALeave E N fn R ts [] (asettle u2) H2
    | .panic ch => ALeave E N fn R ts [] (araised u2 ch) H2)) : FPost E N fn R .ret ⟨ts, [.call f args cap]⟩ H := h
theorem fpost_panic_call {fn : Func} {R : AE → List AO → Prop} {ts : List AV} {ch : List APanic} {f : FuncId} {args cap : List AV} (h : ACallD E f (args ++ cap) (.panicking ch) H (fun x u2 H2 => match x with
    | .ret _ => ALeave E N fn R ts [] (asettle u2) H2
    | .panic ch => ALeave E N fn R ts [] (araised u2 ch) H2)) : FPost E N fn R (.panic ch) ⟨ts, [.call f args cap]⟩ H := h
theorem aleave_ret {fn : Func} {R : AE → List AO → Prop} {ts : List AV} {v : AV} (hv : evResults E fn ts H = some v) (h : Out N R (.ret v) H) : ALeave E N fn R ts [] .returning H := by
  simp only [ALeave, hv]; exact h

theorem wop_append' {o : Oper} {K : AAct → List AO → Prop} {ts0 : List AV} {ds : List ADef} {c : Call} (ho : o.op = .call c) (hc : c.callee = .builtin .append) {x y : Operand} {t t2 : TypeId} (hx : c.args = [x, y].toArray) (ht : c.argTypes = [t, t2].toArray) {i2 : TyI} (ht2 : E.ty t2 = some i2) (hi2 : (match i2.u with | .int _ => false | _ => true) = true)
    {v : AV} {H' : List AO} (hv : evAppend E H t (AAct.ev E.gl ⟨ts0, ds⟩ x) (AAct.ev E.gl ⟨ts0, ds⟩ y) = some (v, H')) {d : Tmp} (hd : o.dst = some d) {ts : List AV} (hs : ts0.set d v = ts) (h : K ⟨ts, ds⟩ H') : Wop E rd md o ⟨ts0, ds⟩ H K Q := by
  refine wop_append ho hc hx ht ht2 hi2 hv ?_
  rw [hd]; subst hs; exact h

theorem belowL_strs (n : Nat) (xs : List (List UInt8)) : belowL n (xs.map .str) = true := by
  induction xs with
  | nil => rfl
  | cons x xs ih => simp only [List.map_cons, belowL, AV.within, ih, Bool.and_self]

theorem bytesAV_len (s : List UInt8) : (bytesAV s).length = s.length := by simp [bytesAV]
theorem bytesAV_one (s : List UInt8) : (bytesAV s).all AV.one = true := by
  induction s with
  | nil => rfl
  | cons b s ih => simp [bytesAV, byteAV, AV.one] at ih ⊢
theorem bytesAV_append (s t : List UInt8) : bytesAV (s ++ t) = bytesAV s ++ bytesAV t := by simp [bytesAV]
theorem unbytes_bytesAV (s : List UInt8) : unbytes (bytesAV s) = some s := by
  induction s with
  | nil => rfl
  | cons b s ih =>
    show unbytes (byteAV b :: bytesAV s) = _
    simp [byteAV, unbytes, ih]
theorem belowL_bytesAV (n : Nat) (s : List UInt8) : belowL n (bytesAV s) = true := by
  induction s with
  | nil => rfl
  | cons b s ih => exact (by simp [belowL, AV.within, byteAV, bytesAV] at *; exact ih)
theorem row1 {xs : List AV} {i : Nat} (h : i < xs.length) : (xs.drop i).take 1 = [xs.getD i .top] := by
  rw [List.drop_eq_getElem_cons h]
  simp only [List.take_succ_cons, List.take_zero, List.getD_eq_getElem?_getD, List.getElem?_eq_getElem h, Option.getD_some]

/-- A row of strings. -/
theorem rowStr1 {to : List (List UInt8)} {i : Nat} (h : i < to.length) : ((to.map AV.str).drop i).take 1 = [.str (to.getD i [])] := by
  rw [List.drop_eq_getElem_cons (by simpa using h)]
  simp [List.getD_eq_getElem?_getD, h]

theorem dpost_ret {fn : Func} {u : AMode} {R : AE → AMode → List AO → Prop} {ts : List AV} {v : AV} (hv : evResults E fn ts H = some v) (h : Out N (fun x H => R x u H) (.ret v) H) : DPost E N fn u R .ret ⟨ts, []⟩ H := by
  simp only [DPost, hv]; exact ⟨trivial, h⟩
theorem dpost_normal {fn : Func} {u : AMode} {R : AE → AMode → List AO → Prop} {ts : List AV} {v : AV} (hv : evResults E fn ts H = some v) (h : Out N (fun x H => R x u H) (.ret v) H) : DPost E N fn u R .normal ⟨ts, []⟩ H := by
  simp only [DPost, hv]; exact ⟨trivial, h⟩

end Go.Ab
