/- The abstract view, 13: what it is for code to go well, computed over the text; calls, deferred calls, panics; functions. -/
import Derived.Test.YtlcbdgklbjocnaaDoorAb12
set_option linter.unusedVariables false
set_option linter.unusedSimpArgs false
namespace Go.Ab
open Go Go.RowKit

variable {E : Env} {N : Nat} {rd : Option Nat} {md : Nat → Nat} {g g0 : Ghost} {H : List AO} {w w' : World} {a : AAct} {a' : Act} {Q : APost}

def APut (E : Env) (g0 : Ghost) (K : AAct → List AO → Prop) : Act → World → Prop :=
  fun a2 w2 => ∃ A H2 g2, K A H2 ∧ GLe g0 g2 ∧ E.Rep g2 H2 w2 ∧ ARel g2 A a2

/-- One operation goes well. -/
def OpOk (E : Env) (N : Nat) (rd : Option Nat) (o : Oper) (a : AAct) (H : List AO) (K : AAct → List AO → Prop) (Q : APost) : Prop :=
  ∀ g0 g w a', Dom g0 N → GLe g0 g → E.Rep g H w → ARel g a a' → o.wpIn (fenceOf g0 rd) 0 E.P a' w (APut E g0 K) (Conc E g0 Q)

theorem fence_fn (g0 : Ghost) (rd : Option Nat) (f : FuncId) : (fenceOf g0 rd).fn f := by trivial
theorem fence_depth (g0 : Ghost) (rd : Option Nat) : (fenceOf g0 rd).depth = none := rfl

theorem callsIn_fence {g0 : Ghost} {rd : Option Nat} {f : FuncId} {args : Array Value} {w : World} {R : Ending → World → Prop} (h : CallsIn Fence.wide 0 E.P f args w R) : CallsIn (fenceOf g0 rd) 0 E.P f args w R := h

/-- A round of a loop over a function, by the number of its record. -/
def ARound (E : Env) (l : Nat) (args : List AV) (H : List AO) (R : AE → List AO → Prop) : Prop :=
  ∀ g w b cs, E.Rep g H w → VRels g args cs → g.phi[l]? = some b →
    ∃ f tmps assign body w2, (Instr.yield b cs).run E.P w = .ok (.round b f tmps assign body) w2 ∧ RoundIn Fence.wide 0 E.P b f tmps assign body w2 (EConc E g R)

theorem ARound.mono {l : Nat} {args : List AV} {R R' : AE → List AO → Prop} (h : ARound E l args H R) (k : ∀ x H, R x H → R' x H) : ARound E l args H R' := by
  intro g w b cs hr hv hb
  obtain ⟨f, tmps, assign, body, w2, h1, h2⟩ := h g w b cs hr hv hb
  exact ⟨f, tmps, assign, body, w2, h1, h2.mono fun e w' hh => hh.mono k⟩

/-- What becomes of a call's ending. -/
def onEnd (o : Oper) (a : AAct) (K : AAct → List AO → Prop) (Q : APost) : AE → List AO → Prop
  | .ret v, H => K (a.put o.dst v) H
  | .panic ch, H => Q (.panic ch) a H

def evCallArgs (a : AAct) (gl : Nat → List AV) (c : Call) : List AV := c.args.toList.map (a.ev gl)

/-- What an operation must achieve, computed. -/
def Wop (E : Env) (rd : Option Nat) (md : Nat → Nat) (o : Oper) (a : AAct) (H : List AO) (K : AAct → List AO → Prop) (Q : APost) : Prop :=
  match o.op with
  | .call c => match c.callee with
    | .value f => match a.ev E.gl f with
      | .fn fid first cap => ACall E fid (first ++ evCallArgs a E.gl c ++ cap) H (onEnd o a K Q)
      | .yield l => ARound E l (evCallArgs a E.gl c) H (onEnd o a K Q)
      | _ => False
    | .invoke _ _ => False
    | .builtin b => match b with
      | .append => match c.args.toList, c.argTypes.toList with
        | [x, y], [t, t2] => match E.ty t2 with
          | some i2 => match i2.u with
            | .int _ => False
            | _ => match evAppend E H t (a.ev E.gl x) (a.ev E.gl y) with
              | some (v, H') => K (a.put o.dst v) H'
              | none => False
          | none => False
        | _, _ => False
      | _ => match evPure E a H o with
        | some v => K (a.put o.dst v) H
        | none => False
  | .defer c => match rd, c.callee with
    | none, .value f => match a.ev E.gl f with
      | .fn fid first cap => K ({ a with defers := .call fid (first ++ evCallArgs a E.gl c) cap :: a.defers }.put o.dst .top) H
      | _ => False
    | _, _ => False
  | .panic x => match a.ev E.gl x with
    | .iface t v => Q (.panic [{ v := .iface t v }]) a H
    | _ => False
  | .alloc _ | .box _ _ | .build _ _ | .buildSlice _ _ _ | .store _ _ _ | .range _ _ | .next _ _ => match evHeap E md a H o with
    | some (v, H') => K (a.put o.dst v) H'
    | none => False
  | .convert _ _ _ => match evPure E a H o with
    | some v => K (a.put o.dst v) H
    | none => match evHeap E md a H o with
      | some (v, H') => K (a.put o.dst v) H'
      | none => False
  | _ => match evPure E a H o with
    | some v => K (a.put o.dst v) H
    | none => False

theorem opok_of_value {o : Oper} {K : AAct → List AO → Prop} (hnd : ∀ c, o.op ≠ .defer c) {v : AV} (hk : K (a.put o.dst v) H) (h : ∀ g w a', E.Rep g H w → ARel g a a' → NGives E.P g (execOp a'.eval o) w v) : OpOk E N rd o a H K Q := by
  intro g0 g w a' hd hl hr ha
  obtain ⟨c, h1, h2⟩ := h g w a' hr ha
  refine ⟨fun f _ => fence_fn _ _ _, ?_⟩
  rw [Oper.semAt_eq _ _ _ hnd, h1]
  exact ⟨_, H, g, hk, hl, hr, ha.put _ h2⟩

theorem opok_of_heap {o : Oper} {K : AAct → List AO → Prop} (hnd : ∀ c, o.op ≠ .defer c) {v : AV} {H' : List AO} (hk : K (a.put o.dst v) H') (h : ∀ g w a', E.Rep g H w → ARel g a a' → HGives E g (execOp a'.eval o) w v H') : OpOk E N rd o a H K Q := by
  intro g0 g w a' hd hl hr ha
  obtain ⟨nx, w', g', h1, h2, h3, h4⟩ := h g w a' hr ha
  refine ⟨fun f _ => fence_fn _ _ _, ?_⟩
  rw [Oper.semAt_eq _ _ _ hnd, h1]
  rcases h4 with ⟨c, rfl, hc⟩ | ⟨rfl, rfl⟩
  · exact ⟨_, H', g', hk, hl.trans h2, h3, (ha.mono h2).put _ hc⟩
  · exact ⟨_, H', g', hk, hl.trans h2, h3, (ha.mono h2).put _ (.top _)⟩

theorem rels_append {xs ys : List AV} {cs ds : Array Value} (h : VRels g xs cs) (k : VRels g ys ds) : VRels g (xs ++ ys) (cs ++ ds) := by
  refine ⟨by simp [h.1, k.1], fun i => ?_⟩
  have h2 := h.2; have k2 := k.2
  simp only [List.getD_eq_getElem?_getD, Array.getD_eq_getD_getElem?] at h2 k2 ⊢
  by_cases hi : i < xs.length
  · rw [List.getElem?_append_left hi, Array.getElem?_append_left (by rw [h.1]; exact hi)]; exact h2 i
  · rw [List.getElem?_append_right (by omega), Array.getElem?_append_right (by rw [h.1]; omega), h.1]; exact k2 _

/-- What is asked behind a call. -/
theorem upon_end {o : Oper} {K : AAct → List AO → Prop} (hl : GLe g0 g) (ha : ARel g a a') {e : Ending} {w' : World} (h : EConc E g (onEnd o a K Q) e w') :
    (match e, w' with
      | .returned v, w'' => APut E g0 K (a'.put o.dst v) w''
      | .panicked chain, w'' => Conc E g0 Q (.panic chain) a' w''
      | .outgrown, _ => LetsOut (Conc E g0 Q)) := by
  obtain ⟨x, H2, g2, hx, hl2, hr2, he⟩ := h
  cases he with
  | ret hv => exact ⟨_, H2, g2, hx, hl.trans hl2, hr2, (ha.mono hl2).put _ hv⟩
  | panic hp => exact ⟨.panic _, a, H2, g2, hx, hl.trans hl2, hr2, ha.mono hl2, .panic hp⟩

theorem opok_call {o : Oper} {K : AAct → List AO → Prop} {c : Call} {f : Operand} (ho : o.op = .call c) (hc : c.callee = .value f) {fid : FuncId} {first cap : List AV} (hf : a.ev E.gl f = .fn fid first cap)
    (h : ACall E fid (first ++ evCallArgs a E.gl c ++ cap) H (onEnd o a K Q)) : OpOk E N rd o a H K Q := by
  intro g0 g w a' hd hl hr ha
  have hv := ev_rel hr ha f
  rw [hf] at hv
  have hargs := rels_map hr ha c.args
  refine ⟨fun f _ => fence_fn _ _ _, ?_⟩
  rw [Oper.semAt_eq _ _ _ (by rw [ho]; simp)]
  have hrun : ∃ cs, VRels g (first ++ evCallArgs a E.gl c ++ cap) cs ∧ (execOp a'.eval o).run E.P w = (callFunc fid cs).run E.P w := by
    generalize hu : a'.eval f = u at hv
    cases hv with
    | fn _ _ _ fs cs hl1 hf1 hm1 hc1 =>
      refine ⟨fs ++ c.args.map a'.eval ++ cs, rels_append (rels_append ⟨hl1, hf1⟩ hargs) ⟨hm1, hc1⟩, ?_⟩
      unfold execOp
      rw [ho]
      simp only [resolve, hc, hu, Sem.run_bind, Deferred.ofValue, Sem.run_pure, Result.andThen_ok, invoke]
  obtain ⟨cs, hcs, hrun⟩ := hrun
  rw [hrun]
  rcases h g w cs hr hcs with ⟨v, w', h1, h2⟩ | ⟨h1, h2⟩
  · rw [h1]
    have := upon_end (Q := Q) (K := K) (o := o) hl ha h2
    exact this
  · rw [h1]
    show ((fenceOf g0 rd).depth.isSome = true → 1 ≤ 0) ∧ _
    refine ⟨fun h => by rw [fence_depth] at h; simp at h, ?_⟩
    refine CallsIn.mono (callsIn_fence h2) fun e w' hh => ?_
    have := upon_end (Q := Q) (K := K) (o := o) hl ha hh
    cases e <;> exact this

theorem roundIn_fence {g0 : Ghost} {rd : Option Nat} {l : Nat} {f : FuncId} {tmps : Array Value} {assign body : Code} {w : World} {R : Ending → World → Prop} (h : RoundIn Fence.wide 0 E.P l f tmps assign body w R) : RoundIn (fenceOf g0 rd) 0 E.P l f tmps assign body w R := h

theorem opok_yield {o : Oper} {K : AAct → List AO → Prop} {c : Call} {f : Operand} (ho : o.op = .call c) (hc : c.callee = .value f) {l : Nat} (hf : a.ev E.gl f = .yield l)
    (h : ARound E l (evCallArgs a E.gl c) H (onEnd o a K Q)) : OpOk E N rd o a H K Q := by
  intro g0 g w a' hd hl hr ha
  have hv := ev_rel hr ha f
  rw [hf] at hv
  have hargs := rels_map hr ha c.args
  refine ⟨fun f _ => fence_fn _ _ _, ?_⟩
  rw [Oper.semAt_eq _ _ _ (by rw [ho]; simp)]
  generalize hu : a'.eval f = u at hv
  cases hv with
  | yield _ b hb =>
    obtain ⟨f', tmps, assign, body, w2, h1, h2⟩ := h g w b _ hr hargs hb
    have hrun : (execOp a'.eval o).run E.P w = .ok (.round b f' tmps assign body) w2 := by
      unfold execOp
      rw [ho]
      simp only [resolve, hc, hu, Sem.run_bind, Deferred.ofValue, Sem.run_pure, Result.andThen_ok, invoke]
      simpa using h1
    rw [hrun]
    show ((fenceOf g0 rd).depth.isSome = true → 1 ≤ 0) ∧ _
    refine ⟨fun h => by rw [fence_depth] at h; simp at h, ?_⟩
    refine RoundIn.mono (roundIn_fence h2) fun e w' hh => ?_
    have := upon_end (Q := Q) (K := K) (o := o) hl ha hh
    cases e <;> exact this

theorem opok_append {o : Oper} {K : AAct → List AO → Prop} {c : Call} (ho : o.op = .call c) (hc : c.callee = .builtin .append) {x y : Operand} {t t2 : TypeId} (hx : c.args.toList = [x, y]) (ht : c.argTypes.toList = [t, t2]) {i2 : TyI} (ht2 : E.ty t2 = some i2) (hi2 : ∀ k, i2.u ≠ .int k)
    {v : AV} {H' : List AO} (h : evAppend E H t (a.ev E.gl x) (a.ev E.gl y) = some (v, H')) (hk : K (a.put o.dst v) H') : OpOk E N rd o a H K Q := by
  refine opok_of_heap (by rw [ho]; simp) hk fun g w a' hr ha => ?_
  obtain ⟨u, w', g', h1, h2, h3, h4⟩ := append_sound hr (ty := o.type) ht2 hi2 (ev_rel hr ha x) (ev_rel hr ha y) h
  refine ⟨.value u, w', g', ?_, h2, h3, .inl ⟨u, rfl, h4⟩⟩
  have toA : ∀ {α : Type} {xs : Array α} {l : List α}, xs.toList = l → xs = l.toArray := fun h => by subst h; simp
  unfold execOp
  rw [ho]
  simp only [resolve, hc, Sem.run_bind, Sem.run_pure, Result.andThen_ok, invoke, builtin, toA hx, toA ht]
  simp only [List.map_toArray, List.map_cons, List.map_nil]
  rw [h1]; rfl

theorem opok_defer {o : Oper} {K : AAct → List AO → Prop} {c : Call} {f : Operand} (ho : o.op = .defer c) (hc : c.callee = .value f) {fid : FuncId} {first cap : List AV} (hf : a.ev E.gl f = .fn fid first cap)
    (hk : K ({ a with defers := .call fid (first ++ evCallArgs a E.gl c) cap :: a.defers }.put o.dst .top) H) : OpOk E N none o a H K Q := by
  intro g0 g w a' hd hl hr ha
  have hv := ev_rel hr ha f
  rw [hf] at hv
  have hargs := rels_map hr ha c.args
  refine ⟨fun f _ => fence_fn _ _ _, ?_⟩
  show Oper.uponIn _ _ _ _ _ _ _ ((execOp a'.eval o).run E.P w)
  generalize hu : a'.eval f = u at hv
  cases hv with
  | fn _ _ _ fs cs hl1 hf1 hm1 hc1 =>
    have hrun : (execOp a'.eval o).run E.P w = .ok (.defer { target := .fn (.func fid) cs, args := fs ++ c.args.map a'.eval }) w := by
      unfold execOp
      rw [ho]
      simp only [resolve, hc, hu, Sem.run_bind, Deferred.ofValue, Sem.run_pure, Result.andThen_ok]
    rw [hrun]
    refine ⟨_, H, g, hk, hl, hr, ?_⟩
    refine ARel.put (a := { a with defers := .call fid (first ++ evCallArgs a E.gl c) cap :: a.defers }) (a' := { a' with defers := { target := .fn (.func fid) cs, args := fs ++ c.args.map a'.eval } :: a'.defers }) ⟨ha.1, ?_⟩ _ (.top _)
    exact .cons (.call _ _ _ _ _ (rels_append ⟨hl1, hf1⟩ hargs) ⟨hm1, hc1⟩) ha.2

theorem opok_panic {o : Oper} {K : AAct → List AO → Prop} {x : Operand} (ho : o.op = .panic x) {t : TypeId} {v : AV} (hx : a.ev E.gl x = .iface t v) (hq : Q (.panic [{ v := .iface t v }]) a H) : OpOk E N rd o a H K Q := by
  intro g0 g w a' hd hl hr ha
  have hv := ev_rel hr ha x
  rw [hx] at hv
  refine ⟨fun f _ => fence_fn _ _ _, ?_⟩
  rw [Oper.semAt_eq _ _ _ (by rw [ho]; simp)]
  generalize hu : a'.eval x = u at hv
  cases hv with
  | iface _ _ c hc =>
    have hrun : (execOp a'.eval o).run E.P w = .halt (.panic (.iface t c)) w := by
      unfold execOp
      rw [ho]
      simp only [hu, Instr.panic, Sem.run_bind, run_goPanic, Result.andThen_halt]
    rw [hrun]
    exact ⟨.panic _, a, H, g, hq, hl, hr, ha, .panic (.cons (.iface _ _ _ hc) .nil)⟩

theorem wop_sound {o : Oper} {K : AAct → List AO → Prop} (h : Wop E rd md o a H K Q) : OpOk E N rd o a H K Q := by
  have pureOk : (∀ c, o.op ≠ .defer c) → (match evPure E a H o with | some v => K (a.put o.dst v) H | none => False) → OpOk E N rd o a H K Q := by
    intro hnd h
    split at h
    · rename_i v hv; exact opok_of_value hnd h fun g w a' hr ha => evPure_sound hr ha hv
    · exact h.elim
  have heapOk : (∀ c, o.op ≠ .defer c) → (match evHeap E md a H o with | some (v, H') => K (a.put o.dst v) H' | none => False) → OpOk E N rd o a H K Q := by
    intro hnd h
    split at h
    · rename_i v H' hv; exact opok_of_heap hnd h fun g w a' hr ha => evHeap_sound hr ha hv
    · exact h.elim
  unfold Wop at h
  cases hop : o.op <;> rw [hop] at h <;> simp only at h
  case call c =>
    split at h
    · rename_i f hf
      split at h
      · rename_i fid first cap hfe; exact opok_call hop hf hfe h
      · rename_i l hfe; exact opok_yield hop hf hfe h
      · exact h.elim
    · exact h.elim
    · rename_i b hb
      split at h
      · split at h
        · rename_i x y t t2 hx ht
          split at h
          · rename_i i2 ht2
            split at h
            · exact h.elim
            · rename_i hni
              split at h
              · rename_i v H' he; exact opok_append hop hb hx ht ht2 (fun k e => hni k e) he h
              · exact h.elim
          · exact h.elim
        · exact h.elim
      · exact pureOk (by rw [hop]; simp) h
  case defer c =>
    split at h
    · rename_i f hc
      split at h
      · rename_i fid first cap hfe; exact opok_defer hop hc hfe h
      · exact h.elim
    · exact h.elim
  case panic x =>
    split at h
    · rename_i t v hx; exact opok_panic hop hx h
    · exact h.elim
  case convert s d x =>
    split at h
    · rename_i v hv; exact opok_of_value (by rw [hop]; simp) h fun g w a' hr ha => evPure_sound hr ha hv
    · exact heapOk (by rw [hop]; simp) h
  all_goals first
    | exact heapOk (by rw [hop]; simp) h
    | exact pureOk (by rw [hop]; simp) h

/-! ### Regions -/
def guardOk (ops : Array Oper) (a : AAct) (o : Oper) : Option Bool :=
  match o.guard with
  | none => some true
  | some (j, want) => match (ops[j]?).bind (·.dst) with
    | some d => match a.tmps.getD d .top with
      | .bool b => some (b == want)
      | .tup _ => some false
      | _ => none
    | none => none

theorem guard_sound {ops : Array Oper} {o : Oper} {b : Bool} (ha : ARel g a a') (h : guardOk ops a o = some b) : Region.wanted o (yielded ops a'.tmps) = b := by
  unfold guardOk at h
  unfold Region.wanted
  cases hg : o.guard with
  | none => rw [hg] at h; simp only at h ⊢; injection h
  | some p =>
    obtain ⟨j, want⟩ := p
    rw [hg] at h
    simp only at h ⊢
    split at h
    · rename_i d hd
      split at h
      · rename_i b' hb'
        injection h with h; subst h
        have hv := ha.1.2 d
        rw [hb', Array.getD_eq_getD_getElem?] at hv
        have : a'.tmps[d]? = some (.bool b') := by
          cases he : a'.tmps[d]? with
          | none => rw [he] at hv; exact absurd hv.bool_inv (by simp [undef])
          | some u => rw [he] at hv; simp only [Option.getD_some] at hv; rw [hv.bool_inv]
        unfold yielded
        rw [hd]
        simp only [Option.bind_some, this]
        cases b' <;> cases want <;> rfl
      · rename_i xs hxs
        injection h with h; subst h
        have hv := ha.1.2 d
        rw [hxs, Array.getD_eq_getD_getElem?] at hv
        unfold yielded
        rw [hd]
        simp only [Option.bind_some]
        cases he : a'.tmps[d]? with
        | none => rfl
        | some u =>
          rw [he] at hv
          simp only [Option.getD_some] at hv
          generalize u = u' at hv
          cases hv with
          | tup => rfl
      · simp at h
    · simp at h

theorem undef_rel (g : Ghost) : VRel g (.tup []) undef := .tup [] #[] rfl (fun i => by simp; exact .top _)

/-- A list of operations by their numbers goes well: one after the other. -/
theorem wpo_nil {ops : Array Oper} (h : Q .normal a H) : WPo E N rd ops Q [] a H := fun g0 g w a' hd hl hr ha => ⟨.normal, a, H, g, h, hl, hr, ha, .normal⟩

theorem wpo_cons {ops : Array Oper} {i : Nat} {l : List Nat} {o : Oper} (ho : ops[i]? = some o) {b : Bool} (hb : guardOk ops a o = some b) (h1 : b = true → OpOk E N rd o a H (WPo E N rd ops Q l) Q) (h2 : b = false → WPo E N rd ops Q l (a.put o.dst (.tup [])) H) :
    WPo E N rd ops Q (i :: l) a H := by
  intro g0 g w a' hd hl hr ha
  simp only [wpOpsIn, ho]
  rw [guard_sound ha hb]
  cases b with
  | true =>
    rw [if_pos rfl]
    have := h1 rfl g0 g w a' hd hl hr ha
    refine ⟨this.1, ?_⟩
    have mono : ∀ {r : Result Next}, o.uponIn (fenceOf g0 rd) 0 E.P a' (APut E g0 (WPo E N rd ops Q l)) (Conc E g0 Q) r → o.uponIn (fenceOf g0 rd) 0 E.P a' (wpOpsIn (fenceOf g0 rd) 0 E.P ops (Conc E g0 Q) l) (Conc E g0 Q) r := by
      have put : ∀ {a2 : Act} {w2 : World}, APut E g0 (WPo E N rd ops Q l) a2 w2 → wpOpsIn (fenceOf g0 rd) 0 E.P ops (Conc E g0 Q) l a2 w2 := fun ⟨A, H2, g2, hk, hl2, hr2, ha2⟩ => hk g0 g2 _ _ hd hl2 hr2 ha2
      intro r h
      cases r with
      | ok nx w2 =>
        cases nx <;> first | exact put h | exact h.elim | skip
        · exact ⟨h.1, CallsIn.mono h.2 fun e w' hh => by cases e <;> first | exact put hh | exact hh⟩
        · exact ⟨h.1, RoundIn.mono h.2 fun e w' hh => by cases e <;> first | exact put hh | exact hh⟩
        · exact ⟨h.1, RowsIn.mono h.2 fun v w' hh => put hh⟩
      | halt hh w2 => cases hh <;> exact h
    exact mono this.2
  | false =>
    rw [if_neg (by simp)]
    exact ⟨fun f _ => fence_fn _ _ _, h2 rfl g0 g w _ hd hl hr (ha.put _ (undef_rel _))⟩

/-- The operations of a region in the order of the text, computed. -/
def Wl (E : Env) (rd : Option Nat) (md : Nat → Nat) (ops : Array Oper) (Q : APost) : List Oper → AAct → List AO → Prop
  | [], a, H => Q .normal a H
  | o :: rest, a, H => match guardOk ops a o with
    | some b => (b = true → Wop E rd md o a H (Wl E rd md ops Q rest) Q) ∧ (b = false → Wl E rd md ops Q rest (a.put o.dst (.tup [])) H)
    | none => False

theorem opok_mono {o : Oper} {K K' : AAct → List AO → Prop} (h : OpOk E N rd o a H K Q) (k : ∀ a H, K a H → K' a H) : OpOk E N rd o a H K' Q := by
  intro g0 g w a' hd hl hr ha
  have := h g0 g w a' hd hl hr ha
  refine ⟨this.1, ?_⟩
  have put : ∀ {a2 : Act} {w2 : World}, APut E g0 K a2 w2 → APut E g0 K' a2 w2 := fun ⟨A, H2, g2, hk, r⟩ => ⟨A, H2, g2, k _ _ hk, r⟩
  have h := this.2
  revert h
  generalize (o.semAt (fenceOf g0 rd).round a'.eval).run E.P w = r
  intro h
  cases r with
  | ok nx w2 =>
    cases nx <;> first | exact put h | exact h.elim | skip
    · exact ⟨h.1, CallsIn.mono h.2 fun e w' hh => by cases e <;> first | exact put hh | exact hh⟩
    · exact ⟨h.1, RoundIn.mono h.2 fun e w' hh => by cases e <;> first | exact put hh | exact hh⟩
    · exact ⟨h.1, RowsIn.mono h.2 fun v w' hh => put hh⟩
  | halt hh w2 => cases hh <;> exact h

theorem wl_sound {ops : Array Oper} : ∀ (l : List Oper) (k : Nat), (∀ i, ops[k + i]? = l[i]?) → ∀ a H, Wl E rd md ops Q l a H → WPo E N rd ops Q ((List.range l.length).map (k + ·)) a H := by
  intro l
  induction l with
  | nil => intro k _ a H h; exact wpo_nil h
  | cons o rest ih =>
    intro k hk a H h
    have ho : ops[k]? = some o := by have := hk 0; simpa using this
    have hrest : ∀ i, ops[k + 1 + i]? = rest[i]? := fun i => by have := hk (i + 1); rw [show k + 1 + i = k + (i + 1) by omega, this]; rfl
    have hlist : (List.range (o :: rest).length).map (k + ·) = k :: (List.range rest.length).map (k + 1 + ·) := by
      rw [List.length_cons, List.range_succ_eq_map, List.map_cons, List.map_map]
      congr 1
      apply List.map_congr_left
      intro x _
      simp only [Function.comp]; omega
    rw [hlist]
    simp only [Wl] at h
    split at h
    · rename_i b hb
      exact wpo_cons ho hb (fun e => opok_mono (wop_sound (h.1 e)) (fun a H hh => ih (k + 1) hrest a H hh)) (fun e => ih (k + 1) hrest _ _ (h.2 e))
    · exact h.elim

theorem wpc_region {id : Nat} {ops : Array Oper} (h : Wl E rd md ops Q ops.toList a H) : WPc E N rd (.region id ops false) Q a H := by
  have := wl_sound (N := N) ops.toList 0 (fun i => by simp) a H h
  intro g0 g w a' hd hl hr ha
  refine wpV_of_wpIn (wpIn_region ?_)
  have := this g0 g w a' hd hl hr ha
  simp only [Array.length_toList, Nat.zero_add, List.map_id'] at this
  exact this

/-- Whatever order is drawn. -/
def ADraw (E : Env) (N : Nat) (rd : Option Nat) (ops : Array Oper) (Q : APost) (a : AAct) (H : List AO) : Prop := ∀ t, WPo E N rd ops Q (Region.linearise .any ops t) a H

theorem wpc_draw {id : Nat} {ops : Array Oper} (h : ADraw E N rd ops Q a H) : WPc E N rd (.region id ops true) Q a H := by
  intro g0 g w a' hd hl hr ha
  refine wpV_of_wpIn (wpIn_region_draw fun t => ?_)
  rw [E.mixed]
  exact h t g0 g w.drew a' hd hl hr.drew ha

/-- What code must achieve, computed; loops and ranges over functions stand as they are. -/
def W (E : Env) (N : Nat) (rd : Option Nat) (md : Nat → Nat) : Code → APost → AAct → List AO → Prop
  | .skip, Q, a, H => Q .normal a H
  | .label _, Q, a, H => Q .normal a H
  | .region _ ops draw, Q, a, H => match draw with
    | false => Wl E rd md ops Q ops.toList a H
    | true => ADraw E N rd ops Q a H
  | .seq x y, Q, a, H => W E N rd md x (AX.then (fun a H => W E N rd md y Q a H) Q) a H
  | .cond c x y, Q, a, H => match a.ev E.gl c with
    | .bool t => (t = true → W E N rd md x Q a H) ∧ (t = false → W E N rd md y Q a H)
    | _ => False
  | .block id c, Q, a, H => W E N rd md c (AX.inBlock id Q) a H
  | .exit id, Q, a, H => Q (.exit id) a H
  | .goto l, Q, a, H => Q (.goto l) a H
  | .ret, Q, a, H => Q .ret a H
  | .loop c, Q, a, H => WPc E N rd (.loop c) Q a H
  | .rangeFunc f ps asg c, Q, a, H => WPc E N rd (.rangeFunc f ps asg c) Q a H
  | .scope c, Q, a, H => WPc E N rd (.scope c) Q a H
  | .refuse _, _, _, _ => False

theorem W_sound : ∀ (c : Code) (Q : APost) (a : AAct) (H : List AO), W E N rd md c Q a H → WPc E N rd c Q a H := by
  intro c
  induction c with
  | skip => intro Q a H h; exact wpc_skip h
  | label l => intro Q a H h; exact wpc_label h
  | region id ops draw =>
    intro Q a H h
    cases draw with
    | false => exact wpc_region h
    | true => exact wpc_draw h
  | seq x y ihx ihy =>
    intro Q a H h
    refine wpc_seq (WPc.mono (ihx _ _ _ h) fun e a H q => ?_)
    cases e <;> first | exact ihy _ _ _ q | exact q
  | cond c x y ihx ihy =>
    intro Q a H h
    simp only [W] at h
    split at h
    · rename_i t ht
      exact wpc_cond ht (fun e => ihx _ _ _ (h.1 e)) (fun e => ihy _ _ _ (h.2 e))
    · exact h.elim
  | block id c ih => intro Q a H h; exact wpc_block (ih _ _ _ h)
  | exit id => intro Q a H h; exact wpc_exit h
  | goto l => intro Q a H h; exact wpc_goto h
  | ret => intro Q a H h; exact wpc_ret h
  | loop c ih => intro Q a H h; exact h
  | rangeFunc f ps asg c _ _ => intro Q a H h; exact h
  | scope c ih => intro Q a H h; exact h
  | refuse why => intro Q a H h; exact h.elim

end Go.Ab
