/- The abstract view, 16: ranges over functions. -/
import Derived.Test.YtlcbdgklbjocnaaDoorAb15
import Derived.RangeFuncNested
set_option linter.unusedVariables false
set_option linter.unusedSimpArgs false
namespace Go.Ab
open Go Go.RowKit

variable {E : Env} {N : Nat} {rd : Option Nat} {md : Nat → Nat} {g g0 : Ghost} {H : List AO} {w w' : World} {a : AAct} {a' : Act} {Q : APost}

theorem new_obj (hr : E.Rep g H w) {ob : Obj} (hg : Grew w ob w') : (g.push w.heap.size).phi[H.length]? = some w.heap.size := by
  show (g.phi ++ [w.heap.size])[H.length]? = _
  rw [← hr.len, List.getElem?_append_right (Nat.le_refl _), Nat.sub_self]; rfl

/-- A record's block is written. -/
theorem Rep.put_loop (hr : E.Rep g H w) {l b : Nat} {st st2 : LoopState} {pe pe2 : Option Code} {fn : FuncId} {ts : List AV} {ps : Array Tmp} {asg body : Code} {d : Nat} (hH : H[l]? = some (.loop st pe fn ts ps asg body d)) (hb : g.phi[l]? = some b) :
    ∃ cs db, w.heap[b]? = some (.loop { state := st, pending := pe, fn := fn, tmps := cs, params := ps, assign := asg, body := body, defers := db }) ∧ VRels g ts cs ∧ g.phi[d]? = some db ∧
      E.Rep g (H.set l (.loop st2 pe2 fn ts ps asg body d)) (w.putObj b (.loop { state := st2, pending := pe2, fn := fn, tmps := cs, params := ps, assign := asg, body := body, defers := db })) ∧
      E.Rep g (H.set l .dead) (w.putObj b (.loop { state := st2, pending := pe2, fn := fn, tmps := cs, params := ps, assign := asg, body := body, defers := db })) := by
  obtain ⟨b', cs, db, h1, h2, h3, h4, h5⟩ := hr.objs _ _ hH
  rw [hb] at h1; injection h1 with h1; subst h1
  have hown : own g H l = some b := by unfold own; rw [hH]; exact hb
  have hid : l < H.length := (List.getElem?_eq_some_iff.1 hH).1
  have hblt : b < w.heap.size := (Array.getElem?_eq_some_iff.1 h5).1
  refine ⟨cs, db, h5, h4, h3, ?_, ?_⟩
  · refine Rep.put hr hH hb hown (fun H' hh => by unfold own; rw [hh]; exact hb) (fun c T fz => by rw [h5]; simp) rfl rfl rfl rfl ⟨b, cs, db, hb, h2, h3, h4, World.putObj_heap_same hblt⟩
  · have hold : ∀ (X : Obj) k, k ≠ b → (w.putObj b X).heap[k]? = w.heap[k]? := fun X k hk => World.putObj_heap_other hk
    have hdead : own g (H.set l .dead) l = none := by unfold own; rw [List.getElem?_set_self hid]
    refine ⟨⟨hr.below.os, hr.below.tape, hr.below.output, by simp [World.putObj]; exact hr.below.size, fun k hk => (hold _ k (by omega)).trans (hr.below.block k hk)⟩, hr.n0le, fun b' o v h => ?_, by simp; exact hr.len, fun t e ht => hr.beyond t e (by simpa using ht), fun i o h => ?_, fun i j b' hi hj => ?_, hr.glob⟩
    · have hc := hr.know b' o v h
      have hne : b' ≠ b := by rintro rfl; simp [World.cell?, h5] at hc
      simpa [World.cell?, hold _ b' hne] using hc
    · by_cases e : l = i
      · subst e
        rw [List.getElem?_set_self hid] at h
        injection h with h; subst h; trivial
      · rw [List.getElem?_set_ne e] at h
        refine ORep.frame h (hr.objs i o h) (GLe.refl g) (fun b' hb' => hold _ b' ?_) (fun _ _ _ h => h) (fun _ h => h)
        rintro rfl
        exact e (hr.apart _ _ _ hown hb')
    · have hi' : i ≠ l := by rintro rfl; rw [hdead] at hi; simp at hi
      have hj' : j ≠ l := by rintro rfl; rw [hdead] at hj; simp at hj
      rw [own_set_other hi'.symm] at hi
      rw [own_set_other hj'.symm] at hj
      exact hr.apart i j b' hi hj

/-- The temporaries with which a round begins. -/
def roundTmps (ts : List AV) (ps : Array Tmp) (args : List AV) : List AV := (ps.toList.zip args).foldl (fun ts p => ts.set p.1 p.2) ts

theorem roundTmps_rel {ts args : List AV} {cs as : Array Value} {ps : Array Tmp} (ht : VRels g ts cs) (ha : VRels g args as) (hn : args.length = ps.size) : VRels g (roundTmps ts ps args) ((ps.zip as).foldl (fun tmps (t, a) => tmps.setIfInBounds t a) cs) := by
  have key : ∀ (l : List Tmp) (args : List AV) (as : List Value), as.length = args.length → (∀ i, VRel g (args.getD i .top) (as.getD i undef)) → ∀ ts cs, VRels g ts cs → VRels g ((l.zip args).foldl (fun ts p => ts.set p.1 p.2) ts) ((l.zip as).foldl (fun tmps (p : Tmp × Value) => tmps.setIfInBounds p.1 p.2) cs) := by
    intro l
    induction l with
    | nil => intro args as _ _ ts cs h; exact h
    | cons t l ih =>
      intro args as hl hv ts cs h
      cases args with
      | nil => cases as with
        | nil => exact h
        | cons => simp at hl
      | cons x args => cases as with
        | nil => simp at hl
        | cons y as =>
          simp only [List.zip_cons_cons, List.foldl_cons]
          exact ih args as (by simpa using hl) (fun i => by simpa using hv (i + 1)) _ _ (h.set t (by simpa using hv 0))
  have := key ps.toList args as.toList (by simpa using ha.1) (fun i => by have := ha.2 i; simpa [Array.getD_eq_getD_getElem?, List.getD_eq_getElem?_getD] using this) ts cs ht
  unfold roundTmps
  rw [← Array.foldl_toList, Array.toList_zip]
  exact this

/-- What a round's body must achieve. -/
def RPost (N : Nat) (l : Nat) (fn : FuncId) (ts : List AV) (ps : Array Tmp) (asg body : Code) (d : Nat) (R : AE → List AO → Prop) : APost
  | .normal, _, H => (∃ pe, H[l]? = some (.loop .busy pe fn ts ps asg body d)) ∧ Out N R (.ret (.bool true)) (H.set l (.loop .ready none fn ts ps asg body d))
  | .ret, _, H => (∃ pe, H[l]? = some (.loop .busy pe fn ts ps asg body d)) ∧ Out N R (.ret (.bool false)) (H.set l (.loop .done (some .ret) fn ts ps asg body d))
  | .exit id, _, H => (∃ pe, H[l]? = some (.loop .busy pe fn ts ps asg body d)) ∧ Out N R (.ret (.bool false)) (H.set l (.loop .done (some (.exit id)) fn ts ps asg body d))
  | .goto t, _, H => (∃ pe, H[l]? = some (.loop .busy pe fn ts ps asg body d)) ∧ Out N R (.ret (.bool false)) (H.set l (.loop .done (some (.goto t)) fn ts ps asg body d))
  | .panic ch, a, H => a.defers = [] ∧ Out N R (.panic ch) H

/-- **A round, from its body.** -/
theorem ARound.of_body {l : Nat} {args : List AV} {R : AE → List AO → Prop} (md : Nat → Nat) {pe : Option Code} {fn : FuncId} {ts : List AV} {ps : Array Tmp} {asg body : Code} {d : Nat} (hH : H[l]? = some (.loop .ready pe fn ts ps asg body d)) (hv : (E.P.funcs[fn]?).isSome = true) (hn : args.length = ps.size)
    (h : Fit H.length H → W E H.length (some l) md asg (AX.then (fun a1 H1 => H1[l]? = some (.loop .ready pe fn ts ps asg body d) ∧ W E H.length (some l) md body (RPost H.length l fn ts ps asg body d R) a1 (H1.set l (.loop .busy pe fn ts ps asg body d))) (fun _ _ _ => False)) ⟨roundTmps ts ps args, []⟩ H) :
    ARound E l args H R := by
  intro g w b cs hr ha hb
  have hgl : ∀ n, H.length ≤ n → ∀ i, belowL n (E.gl i) = true := fun n hn i => glob_within hr n hn i
  obtain ⟨tc, db, h5, h4, h3, _, _⟩ := Rep.put_loop hr (st2 := .busy) (pe2 := pe) hH hb
  have hl : l < H.length := (List.getElem?_eq_some_iff.1 hH).1
  have hrho : rho g (some l) = some b := by
    show some (g.phi.getD l 0) = some b
    rw [List.getD_eq_getElem?_getD, hb]; rfl
  refine ⟨fn, _, asg, body, w, run_yield h5 (by rw [ha.1]; exact hn), roundIn_of_wpV hv ?_⟩
  have hw := W_sound asg _ _ _ (h hr.fit)
  have hw1 := hw g g w { tmps := (ps.zip cs).foldl (fun tmps (t, a) => tmps.setIfInBounds t a) tc, defers := [] } hr.dom (GLe.refl g) hr ⟨roundTmps_rel h4 ha hn, .nil⟩
  rw [hrho] at hw1
  refine wpV_mono hw1 ?_
  rintro e a1 w1 ⟨x, A1, H1, g1, hq, hl1, hr1, ha1, hx⟩
  cases hx <;> first | exact hq.elim | skip
  obtain ⟨hH1, hbody⟩ := hq
  have hb1 := hl1.phi _ _ hb
  obtain ⟨tc1, db1, k5, k4, k3, k6, _⟩ := Rep.put_loop hr1 (st2 := .busy) (pe2 := pe) hH1 hb1
  refine ⟨_, run_beginRound k5 rfl, ?_⟩
  have hw2 := W_sound body _ _ _ hbody g g1 _ a1 hr.dom hl1 k6 ha1
  rw [hrho] at hw2
  refine wpV_mono hw2 ?_
  rintro e a2 w2 ⟨y, A2, H2, g2, hq2, hl2, hr2, ha2, hy⟩
  have hb2 := hl2.phi _ _ hb
  have fin : ∀ {st2 : LoopState} {jump : Option Code} {bo : Bool}, (∃ pe, H2[l]? = some (.loop .busy pe fn ts ps asg body d)) → st2 = (if jump.isNone then .ready else .done) → bo = jump.isNone → Out H.length R (.ret (.bool bo)) (H2.set l (.loop st2 jump fn ts ps asg body d)) →
      ∃ v w', (Instr.endRound b jump).run E.P w2 = .ok v w' ∧ EConc E g R (.returned v) w' := by
    rintro st2 jump bo ⟨pe2, hH2⟩ rfl rfl ho
    obtain ⟨tc2, db2, m5, m4, m3, m6, _⟩ := Rep.put_loop hr2 (st2 := if jump.isNone then .ready else .done) (pe2 := jump) hH2 hb2
    refine ⟨_, _, run_endRound jump m5, out_econc hr.dom hgl ho hl2 m6 (.ret (.bool _))⟩
  cases hy with
  | normal => exact fin (jump := none) hq2.1 rfl rfl hq2.2
  | ret => exact fin (jump := some .ret) hq2.1 rfl rfl hq2.2
  | exit id => exact fin (jump := some (.exit id)) hq2.1 rfl rfl hq2.2
  | goto t => exact fin (jump := some (.goto t)) hq2.1 rfl rfl hq2.2
  | panic hp =>
    have hd' : a2.defers = [] := by have := ha2.2; rw [hq2.1] at this; exact this.nil_inv
    exact ⟨hd', out_econc hr.dom hgl hq2.2 hl2 hr2 (.panic hp)⟩

/-- What is asked behind a function that was ranged over. -/
def RangeEnd (E : Env) (N : Nat) (rd : Option Nat) (Q : APost) (a : AAct) (l : Nat) (fn : FuncId) (ts : List AV) (ps : Array Tmp) (asg body : Code) (d : Nat) : AE → List AO → Prop
  | .ret _, H => ∃ st pe, H[l]? = some (.loop st pe fn ts ps asg body d) ∧ st ≠ .busy ∧ match pe with
    | none => Q .normal a (H.set l .dead)
    | some c => WPc E N rd c Q a (H.set l .dead)
  | .panic ch, H => Q (.panic ch) a H

theorem range_end {f : Operand} {ps : Array Tmp} {asg body : Code} {l b d : Nat} {fn : FuncId} {ts : List AV} (hd : Dom g0 N) (hl : GLe g0 g) {g1 : Ghost} (le : GLe g g1) (hb : g1.phi[l]? = some b) {a2' : Act} (ha : ARel g1 a a2') {e : Ending} {w2 : World}
    (h : EConc E g1 (RangeEnd E N rd Q a l fn ts ps asg body d) e w2) : rangePostV (rho g0 rd) E.P b (Conc E g0 Q) a2' e w2 := by
  obtain ⟨x, H2, g2, hx, hl2, hr2, he⟩ := h
  have hb2 := hl2.phi _ _ hb
  have le2 := hl.trans (le.trans hl2)
  cases he with
  | ret hv =>
    obtain ⟨st, pe, hH, hst, hq⟩ := hx
    obtain ⟨cs, db, h5, h4, h3, _, h6⟩ := Rep.put_loop hr2 (st2 := .exhausted) (pe2 := pe) hH hb2
    refine ⟨pe, _, run_endLoop h5 hst, ?_⟩
    cases pe with
    | none => exact ⟨.normal, a, _, g2, hq, le2, h6, ha.mono hl2, .normal⟩
    | some c => exact hq g0 g2 _ a2' hd le2 h6 (ha.mono hl2)
  | panic hp => exact ⟨.panic _, a, H2, g2, hx, le2, hr2, ha.mono hl2, .panic hp⟩

/-- A range over a function value of the program. -/
theorem wpV_rangeFn {P : Program} {ρ : Option Nat} {f : Operand} {ps : Array Tmp} {asg body : Code} {Q : Exit → Act → World → Prop} {a : Act} {w : World} {fid : FuncId} {fs cs : Array Value} (hu : a.eval f = .func (.func fid) fs cs)
    (h : ∀ fn, (P.funcs[fn]?).isSome = true → ∃ (l : Nat) (mark : List Deferred) (w₁ : World),
      (Instr.enterLoop fn a.tmps ps asg body ρ).run P w = .ok (l, mark) w₁ ∧
      (callFunc fid (fs ++ #[.func (.yield l) #[] #[]] ++ cs)).run P w₁ = .ok (.enter fid (fs ++ #[.func (.yield l) #[] #[]] ++ cs)) w₁ ∧
      CallsIn Fence.wide 0 P fid (fs ++ #[.func (.yield l) #[] #[]] ++ cs) w₁ (rangePostV ρ P l Q { a with defers := mark ++ a.defers })) :
    wpV ρ P (.rangeFunc f ps asg body) Q a w := by
  refine wpV_rangeFunc fun fn hfn => ?_
  obtain ⟨l, mark, w₁, h1, h2, h3⟩ := h fn hfn
  refine ⟨l, mark, w₁, { target := .fn (.func fid) cs, args := fs ++ #[.func (.yield l) #[] #[]] }, w₁, fid, _, w₁, h1, ?_, ?_, h3⟩
  · have e : a.eval (.const (.func (.yield l) #[] #[])) = .func (.yield l) #[] #[] := rfl
    simp only [resolve, rangeCall, hu, Deferred.ofValue, List.map_toArray, List.map_cons, List.map_nil, e, Sem.run_pure]
  · exact h2

/-- **A range over a function, outermost.** -/
theorem wpc_rangeFunc {f : Operand} {ps : Array Tmp} {asg body : Code} {fid : FuncId} {first cap : List AV} (hf : a.ev E.gl f = .fn fid first cap)
    (h : ∀ fn, (E.P.funcs[fn]?).isSome = true → AEnter E fid (first ++ [.yield (H.length + 1)] ++ cap) (H ++ [.defr, .loop .ready none fn a.tmps ps asg body H.length])
      (RangeEnd E N none Q { a with defers := .mark H.length :: a.defers } (H.length + 1) fn a.tmps ps asg body H.length)) : WPc E N none (.rangeFunc f ps asg body) Q a H := by
  intro g0 g w a' hd hl hr ha
  have hv := ev_rel hr ha f
  rw [hf] at hv
  generalize hu : a'.eval f = u at hv
  cases hv with
  | fn _ _ _ fs cs hl1 hf1 hm1 hc1 =>
    refine wpV_rangeFn hu fun fn hfn => ?_
    -- the two blocks
    have hg1 := Grew.alloc w (.deferred (some []))
    have hp1 := new_obj hr hg1
    have hr1 : E.Rep (g.push w.heap.size) (H ++ [.defr]) (w.alloc (.deferred (some []))) := hr.alloc hg1 .defr (by simp) ⟨w.heap.size, hp1, Nat.le_trans hr.n0le hr.below.size, hg1.new⟩
    have le1 := g.push_le w.heap.size
    have hg2 := Grew.alloc (w.alloc (.deferred (some []))) (.loop { state := .ready, pending := none, fn := fn, tmps := a'.tmps, params := ps, assign := asg, body := body, defers := w.heap.size })
    have hp2 := new_obj hr1 hg2
    rw [World.size_alloc] at hp2
    have hlen : (H ++ [AO.defr]).length = H.length + 1 := by simp
    rw [hlen] at hp2
    have le2 := (g.push w.heap.size).push_le (w.alloc (.deferred (some []))).heap.size
    have hr2 := hr1.alloc hg2 (.loop .ready none fn a.tmps ps asg body H.length) (by simp)
      ⟨w.heap.size + 1, a'.tmps, w.heap.size, by rw [hlen, World.size_alloc]; exact hp2, by have := hr.n0le; have := hr.below.size; omega, le2.phi _ _ hp1, (ha.1.mono le1).mono le2, by have := hg2.new; rwa [World.size_alloc] at this⟩
    rw [World.size_alloc] at hr2 le2
    rw [List.append_assoc] at hr2
    have le := le1.trans le2
    have hargs : VRels ((g.push w.heap.size).push (w.heap.size + 1)) (first ++ [.yield (H.length + 1)] ++ cap) (fs ++ #[.func (.yield (w.heap.size + 1)) #[] #[]] ++ cs) :=
      rels_append (rels_append ⟨hl1, fun i => (hf1 i).mono le⟩ ⟨rfl, fun i => match i with | 0 => .yield _ _ hp2 | _ + 1 => .top _⟩) ⟨hm1, fun i => (hc1 i).mono le⟩
    obtain ⟨h1, h2⟩ := h fn hfn _ _ _ hr2 hargs
    have ha2 : ARel ((g.push w.heap.size).push (w.heap.size + 1)) { a with defers := .mark H.length :: a.defers } { a' with defers := [{ target := .collected w.heap.size, args := #[] }] ++ a'.defers } :=
      ⟨ha.1.mono le, .cons (.mark _ _ (le2.phi _ _ hp1)) (ha.2.mono le)⟩
    have hE := run_enterLoop_outer (P := E.P) (w := w) fn a'.tmps ps asg body
    generalize hW : (w.alloc (.deferred (some []))).alloc (.loop { state := .ready, pending := none, fn := fn, tmps := a'.tmps, params := ps, assign := asg, body := body, defers := w.heap.size }) = W at *
    exact ⟨_, _, W, hE, h1, CallsIn.mono h2 fun e w2 hh => range_end (f := f) hd hl le hp2 ha2 hh⟩

/-- **A range over a function within a round.** -/
theorem wpc_rangeFunc_in {f : Operand} {ps : Array Tmp} {asg body : Code} {fid : FuncId} {first cap : List AV} {l : Nat} (hlN : l < N) {st : LoopState} {pe : Option Code} {fn0 : FuncId} {ts0 : List AV} {ps0 : Array Tmp} {asg0 body0 : Code} {d : Nat} (hH : H[l]? = some (.loop st pe fn0 ts0 ps0 asg0 body0 d))
    (hf : a.ev E.gl f = .fn fid first cap)
    (h : ∀ fn, (E.P.funcs[fn]?).isSome = true → AEnter E fid (first ++ [.yield H.length] ++ cap) (H ++ [.loop .ready none fn a.tmps ps asg body d])
      (RangeEnd E N (some l) Q a H.length fn a.tmps ps asg body d)) : WPc E N (some l) (.rangeFunc f ps asg body) Q a H := by
  intro g0 g w a' hd hl hr ha
  have hv := ev_rel hr ha f
  rw [hf] at hv
  obtain ⟨b0, tc0, db0, q1, q2, q3, q4, q5⟩ := hr.objs _ _ hH
  have hrho : rho g0 (some l) = some b0 := by
    show some (g0.phi.getD l 0) = some b0
    have : l < g0.phi.length := by rw [hd.1]; exact hlN
    have e := List.getElem?_eq_getElem this
    have e2 := hl.phi _ _ e
    rw [q1] at e2; injection e2 with e2
    rw [List.getD_eq_getElem?_getD, e, e2]; rfl
  generalize hu : a'.eval f = u at hv
  cases hv with
  | fn _ _ _ fs cs hl1 hf1 hm1 hc1 =>
    rw [hrho]
    refine wpV_rangeFn hu fun fn hfn => ?_
    have hg1 := Grew.alloc w (.loop { state := .ready, pending := none, fn := fn, tmps := a'.tmps, params := ps, assign := asg, body := body, defers := db0 })
    have hp1 := new_obj hr hg1
    have le := g.push_le w.heap.size
    have hr1 := hr.alloc hg1 (.loop .ready none fn a.tmps ps asg body d) (by simp) ⟨w.heap.size, a'.tmps, db0, hp1, Nat.le_trans hr.n0le hr.below.size, le.phi _ _ q3, ha.1.mono le, hg1.new⟩
    have hargs : VRels (g.push w.heap.size) (first ++ [.yield H.length] ++ cap) (fs ++ #[.func (.yield w.heap.size) #[] #[]] ++ cs) :=
      rels_append (rels_append ⟨hl1, fun i => (hf1 i).mono le⟩ ⟨rfl, fun i => match i with | 0 => .yield _ _ hp1 | _ + 1 => .top _⟩) ⟨hm1, fun i => (hc1 i).mono le⟩
    obtain ⟨h1, h2⟩ := h fn hfn _ _ _ hr1 hargs
    have hE := run_enterLoop_inner (P := E.P) q5 fn a'.tmps ps asg body
    generalize hW : w.alloc (.loop { state := .ready, pending := none, fn := fn, tmps := a'.tmps, params := ps, assign := asg, body := body, defers := db0 }) = W at *
    refine ⟨_, _, W, hE, h1, CallsIn.mono h2 fun e w2 hh => ?_⟩
    have := range_end (f := f) (rd := some l) hd hl le hp1 (ha.mono le) hh
    rw [hrho] at this
    exact this

end Go.Ab
