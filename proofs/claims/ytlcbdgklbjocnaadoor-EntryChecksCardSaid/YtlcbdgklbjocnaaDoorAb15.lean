/- The abstract view, 15: results; deferred calls; functions. -/
import Derived.Test.YtlcbdgklbjocnaaDoorAb14
set_option linter.unusedVariables false
set_option linter.unusedSimpArgs false
namespace Go.Ab
open Go Go.RowKit

variable {E : Env} {N : Nat} {rd : Option Nat} {md : Nat → Nat} {g g0 : Ghost} {H : List AO} {w w' : World} {a : AAct} {a' : Act} {Q : APost}

/-! ### Results -/
def evResult (E : Env) (ts : List AV) (H : List AO) : ResultVar → Option AV
  | .tmp t => some (ts.getD t .top)
  | .cell p t => match E.ty t with
    | some i => (readCells H i.size (ts.getD p .top)).map (mkVal i)
    | none => none

def evResultsL (E : Env) (ts : List AV) (H : List AO) : List ResultVar → Option (List AV)
  | [] => some []
  | r :: rs => match evResult E ts H r, evResultsL E ts H rs with
    | some v, some vs => some (v :: vs)
    | _, _ => none

def evResults (E : Env) (fn : Func) (ts : List AV) (H : List AO) : Option AV :=
  match evResultsL E ts H fn.results.toList with
  | some [v] => some v
  | some vs => some (.tup vs)
  | none => none

def resF (cs : Array Value) : ResultVar → Sem Value
  | .tmp t => pure (cs.getD t undef)
  | .cell a t => do loadVar t (← asAddr (cs.getD a undef))

theorem results_eq (fn : Func) (cs : Array Value) : results fn cs = (do let vs ← fn.results.mapM (resF cs); pure (if h : vs.size = 1 then vs[0] else .tuple vs)) := by
  unfold results
  congr 1

theorem result_run (hr : E.Rep g H w) {ts : List AV} {cs : Array Value} (ht : VRels g ts cs) {r : ResultVar} {v : AV} (h : evResult E ts H r = some v) :
    ∃ c, (resF cs r).run E.P w = .ok c w ∧ VRel g v c := by
  cases r with
  | tmp t => simp only [evResult] at h; injection h with h; subst h; exact ⟨_, rfl, ht.2 t⟩
  | cell p t =>
    simp only [evResult] at h
    split at h
    · rename_i i hi
      cases hrd : readCells H i.size (ts.getD p .top) with
      | none => rw [hrd] at h; simp at h
      | some xs =>
        rw [hrd] at h; simp only [Option.map_some] at h; injection h with h; subst h
        obtain ⟨u, h1, h2⟩ := load_sound hr hi hrd (ht.2 p)
        obtain ⟨b, o, vs, hc, _⟩ := readCells_rel hr hrd (ht.2 p)
        refine ⟨u, ?_, h2⟩
        rw [hc] at h1
        simp only [resF, hc]
        simpa [Instr.loadAt, Instr.sureAddr, asAddr] using h1
    · simp at h

theorem results_run (hr : E.Rep g H w) {fn : Func} {ts : List AV} {cs : Array Value} (ht : VRels g ts cs) {v : AV} (h : evResults E fn ts H = some v) : ∃ c, (results fn cs).run E.P w = .ok c w ∧ VRel g v c := by
  have key : ∀ (rs : List ResultVar) (vs : List AV), evResultsL E ts H rs = some vs → ∃ us : List Value, (rs.mapM (resF cs)).run E.P w = .ok us w ∧ us.length = vs.length ∧ ∀ i, VRel g (vs.getD i .top) (us.getD i undef) := by
    intro rs
    induction rs with
    | nil => intro vs h; simp only [evResultsL] at h; injection h with h; subst h; exact ⟨[], rfl, rfl, fun i => .top _⟩
    | cons r rs ih =>
      intro vs h
      simp only [evResultsL] at h
      split at h
      · rename_i x xs hx hxs
        injection h with h; subst h
        obtain ⟨c, h1, h2⟩ := result_run hr ht hx
        obtain ⟨us, h3, h4, h5⟩ := ih xs hxs
        refine ⟨c :: us, ?_, by simp [h4], fun i => ?_⟩
        · simp only [List.mapM_cons, Sem.run_bind, h1, Result.andThen_ok, h3, Sem.run_pure]
        · cases i with
          | zero => exact h2
          | succ i => simpa using h5 i
      · simp at h
  unfold evResults at h
  rw [results_eq, Sem.run_bind, Array.mapM_eq_mapM_toList, Sem.run_map]
  split at h
  · rename_i x hx
    injection h with h; subst h
    obtain ⟨us, h1, h2, h3⟩ := key _ _ hx
    rw [h1]
    match us, h2 with
    | [u], _ => exact ⟨u, by simp, h3 0⟩
  · rename_i vs hne hx
    injection h with h; subst h
    obtain ⟨us, h1, h2, h3⟩ := key _ _ hx
    rw [h1]
    have hl : us.length ≠ 1 := by
      intro e
      rw [h2] at e
      match vs, e with
      | [v], _ => exact hne v rfl
    refine ⟨.tuple us.toArray, by simp [hl], .tup _ _ (by simp [h2]) fun i => ?_⟩
    have := h3 i
    simpa [List.getD_eq_getElem?_getD, Array.getD_eq_getD_getElem?] using this
  · simp at h

/-! ### Ways out, with what lies behind let go -/
def chWithin (n : Nat) (ch : List APanic) : Bool := ch.all fun p => p.v.within n

def AE.within (n : Nat) : AE → Bool
  | .ret v => v.within n
  | .panic ch => chWithin n ch

/-- An ending over an abstract heap of which the end may be let go. -/
def Out (N : Nat) (R : AE → List AO → Prop) (x : AE) (H : List AO) : Prop :=
  ∃ y, (∀ g e, ERel g x e → ERel g y e) ∧ (R y H ∨ ∃ H2 l, H = H2 ++ l ∧ N ≤ H2.length ∧ Fit H2.length H2 ∧ y.within H2.length = true ∧ R y H2)

theorem PRels.cut {n : Nat} {ch : List APanic} {cs : List PanicEntry} (h : PRels g ch cs) : chWithin n ch = true → PRels (g.cut n) ch cs := by
  induction h with
  | nil => intro _; exact .nil
  | cons hv _ ih =>
    intro h
    simp only [chWithin, List.all_cons, Bool.and_eq_true] at h
    exact .cons (hv.cut h.1) (ih h.2)

theorem ERel.cut {n : Nat} {x : AE} {e : Ending} (h : ERel g x e) (hx : x.within n = true) : ERel (g.cut n) x e := by
  cases h with
  | ret hv => exact .ret (hv.cut hx)
  | panic hp => exact .panic (hp.cut hx)

theorem glob_within (hr : E.Rep g H w) (n : Nat) (hn : H.length ≤ n) (i : Nat) : belowL n (E.gl i) = true := by
  have := (hr.glob i).within (n := n) (by rw [hr.len]; exact hn) (fun t e ti h => by
    rcases Nat.lt_or_ge t n with h' | h'
    · exact h'
    · rw [hr.beyond t e (by omega)] at h; simp at h)
  simpa [AV.within] using this

theorem out_econc {R : AE → List AO → Prop} (hd : Dom g0 N) (hgl : ∀ n, N ≤ n → ∀ i, belowL n (E.gl i) = true) {x : AE} (ho : Out N R x H) (hl : GLe g0 g) (hr : E.Rep g H w) {e : Ending} (he : ERel g x e) : EConc E g0 R e w := by
  obtain ⟨y, hy, hR | ⟨H2, l, rfl, hn, hf, hx, hR⟩⟩ := ho
  · exact ⟨y, H, g, hR, hl, hr, hy _ _ he⟩
  exact ⟨y, H2, g.cut H2.length, hR, hl.cut hd hn, Rep.drop hr hf (hgl _ hn), (hy _ _ he).cut hx⟩

/-! ### Deferred calls -/
inductive AMode where
  | returning
  | panicking (ch : List APanic)

inductive MRel (g : Ghost) : AMode → FrameMode → Prop
  | returning : MRel g .returning .returning
  | panicking {ch : List APanic} {cs : List PanicEntry} (h : PRels g ch cs) : MRel g (.panicking ch) (.panicking cs)

theorem MRel.mono {g g' : Ghost} (h : GLe g g') {u : AMode} {v : FrameMode} (r : MRel g u v) : MRel g' u v := by
  cases r with
  | returning => exact .returning
  | panicking hp => exact .panicking (hp.mono h)

def asettle : AMode → AMode
  | .panicking (⟨_, true⟩ :: _) => .returning
  | u => u

def araised (u : AMode) (ch : List APanic) : AMode :=
  match u with
  | .panicking old => .panicking (ch ++ old)
  | .returning => .panicking ch

/-- recover: what it hands back, and the mode of the frame below. -/
def arecover : AMode → AV × AMode
  | .panicking (⟨v, false⟩ :: older) => (v, .panicking (⟨v, true⟩ :: older))
  | u => (.nili, u)

theorem PRels.goexit {ch : List APanic} {cs : List PanicEntry} (h : PRels g ch cs) : cs.dropWhile (!·.goexit) = [] := by
  induction h with
  | nil => rfl
  | cons _ _ ih => simpa using ih

theorem settle_rel {u : AMode} {v : FrameMode} (h : MRel g u v) : MRel g (asettle u) (settle v) := by
  cases h with
  | returning => exact .returning
  | panicking hp =>
    cases hp with
    | nil => exact .panicking .nil
    | cons hv hs =>
      rename_i p v ps qs
      obtain ⟨pv, pr⟩ := p
      cases pr with
      | false => exact .panicking (.cons hv hs)
      | true =>
        have : settle (.panicking ({ v, recovered := true } :: qs)) = .returning := by simp only [settle, hs.goexit]
        simp only [asettle]
        rw [this]; exact .returning

theorem PRels.append {c1 c2 : List APanic} {d1 d2 : List PanicEntry} (h : PRels g c1 d1) (k : PRels g c2 d2) : PRels g (c1 ++ c2) (d1 ++ d2) := by
  induction h with
  | nil => exact k
  | cons hv _ ih => exact .cons hv ih

theorem raised_rel {u : AMode} {v : FrameMode} (h : MRel g u v) {ch : List APanic} {cs : List PanicEntry} (hp : PRels g ch cs) : MRel g (araised u ch) (raised v cs) := by
  cases h with
  | returning => exact .panicking hp
  | panicking ho => exact .panicking (hp.append ho)

theorem DRels.nil_inv {ys : List Deferred} (h : DRels g [] ys) : ys = [] := by cases h; rfl

/-- A deferred call goes well: u: the mode of the frame below. -/
def ACallD (E : Env) (f : FuncId) (args : List AV) (u : AMode) (H : List AO) (R : AE → AMode → List AO → Prop) : Prop :=
  ∀ g w cs v, E.Rep g H w → VRels g args cs → MRel g u v → (callFunc f cs).run E.P w = .ok (.enter f cs) w ∧
    CallsDIn Fence.wide 0 E.P f cs v w (fun e v2 w2 => ∃ x u2 H2 g2, R x u2 H2 ∧ GLe g g2 ∧ E.Rep g2 H2 w2 ∧ ERel g2 x e ∧ MRel g2 u2 v2)

theorem ACallD.mono {f : FuncId} {args : List AV} {u : AMode} {R R' : AE → AMode → List AO → Prop} (h : ACallD E f args u H R) (k : ∀ x u H, R x u H → R' x u H) : ACallD E f args u H R' := by
  intro g w cs v hr hv hu
  obtain ⟨h1, h2⟩ := h g w cs v hr hv hu
  exact ⟨h1, CallsDIn.mono h2 fun e v2 w2 ⟨x, u2, H2, g2, q, r⟩ => ⟨x, u2, H2, g2, k _ _ _ q, r⟩⟩

/-- The deferred calls of a function that is left. -/
def ALeave (E : Env) (N : Nat) (fn : Func) (R : AE → List AO → Prop) (ts : List AV) : List ADef → AMode → List AO → Prop
  | [], .returning, H => match evResults E fn ts H with
    | some v => Out N R (.ret v) H
    | none => False
  | [], .panicking ch, H => Out N R (.panic ch) H
  | .mark id :: ds, u, H => H[id]? = some .defr ∧ ALeave E N fn R ts ds u (H.set id .dead)
  | .call f args cap :: ds, u, H => ACallD E f (args ++ cap) u H fun x u2 H2 => match x with
    | .ret _ => ALeave E N fn R ts ds (asettle u2) H2
    | .panic ch => ALeave E N fn R ts ds (araised u2 ch) H2

theorem Rep.kill_defr (hr : E.Rep g H w) {id b : Nat} (hH : H[id]? = some .defr) (hb : g.phi[id]? = some b) : E.Rep g (H.set id .dead) (w.putObj b (.deferred none)) := by
  obtain ⟨b', h1, h2, h3⟩ := hr.objs _ _ hH
  rw [hb] at h1; injection h1 with h1; subst h1
  have hown : own g H id = some b := by unfold own; rw [hH]; exact hb
  have hid : id < H.length := (List.getElem?_eq_some_iff.1 hH).1
  have hold : ∀ k, k ≠ b → (w.putObj b (.deferred none)).heap[k]? = w.heap[k]? := fun k hk => World.putObj_heap_other hk
  have hdead : own g (H.set id .dead) id = none := by unfold own; rw [List.getElem?_set_self hid]
  refine ⟨⟨hr.below.os, hr.below.tape, hr.below.output, by simp [World.putObj]; exact hr.below.size, fun k hk => (hold k (by omega)).trans (hr.below.block k hk)⟩, hr.n0le, fun b' o v h => ?_, by simp; exact hr.len, fun t e ht => hr.beyond t e (by simpa using ht), fun i o h => ?_, fun i j b' hi hj => ?_, hr.glob⟩
  · have hc := hr.know b' o v h
    have hne : b' ≠ b := by rintro rfl; simp [World.cell?, h3] at hc
    simpa [World.cell?, hold b' hne] using hc
  · by_cases e : id = i
    · subst e
      rw [List.getElem?_set_self hid] at h
      injection h with h; subst h; trivial
    · rw [List.getElem?_set_ne e] at h
      refine ORep.frame h (hr.objs i o h) (GLe.refl g) (fun b' hb' => hold b' ?_) (fun _ _ _ h => h) (fun _ h => h)
      rintro rfl
      exact e (hr.apart _ _ _ hown hb')
  · have hi' : i ≠ id := by rintro rfl; rw [hdead] at hi; simp at hi
    have hj' : j ≠ id := by rintro rfl; rw [hdead] at hj; simp at hj
    rw [own_set_other hi'.symm] at hi
    rw [own_set_other hj'.symm] at hj
    exact hr.apart i j b' hi hj

theorem leave_sound {fn : Func} {R : AE → List AO → Prop} (hd : Dom g0 N) (hgl : ∀ n, N ≤ n → ∀ i, belowL n (E.gl i) = true) {ts : List AV} {tmps : Array Value} : ∀ (ds : List ADef) (u : AMode) (H : List AO), ALeave E N fn R ts ds u H →
    ∀ g w v dds, GLe g0 g → E.Rep g H w → VRels g ts tmps → MRel g u v → DRels g ds dds → LeavesInM Fence.wide 0 E.P fn tmps (EConc E g0 R) dds v w := by
  intro ds
  induction ds with
  | nil =>
    intro u H h g w v dds hl hr ht hu hds
    cases hds
    cases hu with
    | returning =>
      simp only [ALeave] at h
      split at h
      · rename_i x hx
        obtain ⟨c, h1, h2⟩ := results_run hr ht hx
        exact ⟨c, h1, out_econc hd hgl h hl hr (.ret h2)⟩
      · exact h.elim
    | panicking hp => exact out_econc hd hgl h hl hr (.panic hp)
  | cons d ds ih =>
    intro u H h g w v dds hl hr ht hu hds
    cases hds with
    | cons hd1 hs =>
      have hv : v ≠ .run := by cases hu <;> simp
      refine ⟨hv, ?_⟩
      cases hd1 with
      | mark id b hb =>
        obtain ⟨hH, hrest⟩ := h
        left
        obtain ⟨b', h1, h2, h3⟩ := hr.objs _ _ hH
        rw [hb] at h1; injection h1 with h1; subst h1
        exact ⟨b, _, rfl, run_takeDeferred h3, ih u _ hrest g _ v _ hl (Rep.kill_defr hr hH hb) ht hu hs⟩
      | call f args cap as cs h1 h2 =>
        right
        obtain ⟨e1, e2⟩ := h g w (as ++ cs) v hr (rels_append h1 h2) hu
        refine ⟨fun h => by simp [Fence.wide] at h, .func f, cs, f, as ++ cs, rfl, ?_, fun _ _ => trivial, CallsDIn.mono e2 ?_⟩
        · simp only [invoke]; exact e1
        · rintro e v2 w2 ⟨x, u2, H2, g2, hx, hl2, hr2, he, hu2⟩
          cases he with
          | ret hv => exact ih _ _ hx g2 w2 _ _ (hl.trans hl2) hr2 (ht.mono hl2) (settle_rel hu2) (hs.mono hl2)
          | panic hp => exact ih _ _ hx g2 w2 _ _ (hl.trans hl2) hr2 (ht.mono hl2) (raised_rel hu2 hp) (hs.mono hl2)

/-- What a function's body must achieve. -/
def FPost (E : Env) (N : Nat) (fn : Func) (R : AE → List AO → Prop) : APost
  | .normal, a, H | .ret, a, H => ALeave E N fn R a.tmps a.defers .returning H
  | .panic ch, a, H => ALeave E N fn R a.tmps a.defers (.panicking ch) H
  | _, _, _ => False

theorem enter_tmps {args : List AV} {cs : Array Value} (h : VRels g args cs) (n : Nat) : VRels g (args ++ List.replicate (n - args.length) .top) (cs ++ Array.replicate (n - cs.size) undef) := by
  refine rels_append h ⟨by simp [h.1], fun i => ?_⟩
  have : (List.replicate (n - args.length) AV.top).getD i .top = .top := by
    rw [List.getD_eq_getElem?_getD, List.getElem?_replicate]
    split <;> rfl
  rw [this]; exact .top _

theorem callFunc_enter {P : Program} {f : FuncId} {fn : Func} {c : Code} (hf : P.funcs[f]? = some fn) (hn : (fn.name == "runtime.NumGoroutine") = false) (hb : fn.body = some c) (cs : Array Value) (w : World) : (callFunc f cs).run P w = .ok (.enter f cs) w := by
  have hn' : ¬ fn.name = "runtime.NumGoroutine" := by simpa using hn
  simp [callFunc, hf, hn', hb]

/-- A call of a function with a body goes well. -/
def AEnter (E : Env) (f : FuncId) (args : List AV) (H : List AO) (R : AE → List AO → Prop) : Prop :=
  ∀ g w cs, E.Rep g H w → VRels g args cs → (callFunc f cs).run E.P w = .ok (.enter f cs) w ∧ CallsIn Fence.wide 0 E.P f cs w (EConc E g R)

theorem AEnter.call {f : FuncId} {args : List AV} {R : AE → List AO → Prop} (h : AEnter E f args H R) : ACall E f args H R := fun g w cs hr hv => .inr (h g w cs hr hv)

theorem AEnter.mono {f : FuncId} {args : List AV} {R R' : AE → List AO → Prop} (h : AEnter E f args H R) (k : ∀ x H, R x H → R' x H) : AEnter E f args H R' := fun g w cs hr hv =>
  ⟨(h g w cs hr hv).1, CallsIn.mono (h g w cs hr hv).2 fun e w' hh => hh.mono k⟩

/-- **A function's contract, from its body.** -/
theorem AEnter.of_body {f : FuncId} {fn : Func} {c : Code} {args : List AV} {R : AE → List AO → Prop} (md : Nat → Nat) (hf : E.P.funcs[f]? = some fn) (hn : (fn.name == "runtime.NumGoroutine") = false) (hb : fn.body = some c)
    (h : Fit H.length H → W E H.length none md c (FPost E H.length fn R) ⟨args ++ List.replicate (fn.ntmps - args.length) .top, []⟩ H) : AEnter E f args H R := by
  intro g w cs hr hv
  refine ⟨callFunc_enter hf hn hb cs w, ?_⟩
  refine callsIn_of_wpV hf hb ?_
  have hw := W_sound c _ _ _ (h hr.fit)
  refine wpV_mono (hw g g w { tmps := cs ++ Array.replicate (fn.ntmps - cs.size) undef, defers := [] } hr.dom (GLe.refl g) hr ⟨enter_tmps hv _, .nil⟩) ?_
  rintro e a2 w2 ⟨x, A, H2, g2, hq, hl, hr2, ha, hx⟩
  have hgl : ∀ n, H.length ≤ n → ∀ i, belowL n (E.gl i) = true := fun n hn i => glob_within hr n hn i
  cases hx with
  | normal => exact leave_sound hr.dom hgl _ _ _ hq g2 w2 _ _ hl hr2 ha.1 .returning ha.2
  | ret => exact leave_sound hr.dom hgl _ _ _ hq g2 w2 _ _ hl hr2 ha.1 .returning ha.2
  | panic hp => exact leave_sound hr.dom hgl _ _ _ hq g2 w2 _ _ hl hr2 ha.1 (.panicking hp) ha.2
  | exit id => exact hq.elim
  | goto l => exact hq.elim

/-! ### A deferred function that recovers first -/
/-- What a deferred function's body must achieve. -/
def DPost (E : Env) (N : Nat) (fn : Func) (u : AMode) (R : AE → AMode → List AO → Prop) : APost
  | .normal, a, H | .ret, a, H => a.defers = [] ∧ match evResults E fn a.tmps H with
    | some v => Out N (fun x H => R x u H) (.ret v) H
    | none => False
  | .panic ch, a, H => a.defers = [] ∧ Out N (fun x H => R x u H) (.panic ch) H
  | _, _, _ => False

def uWithin (n : Nat) : AMode → Bool
  | .returning => true
  | .panicking ch => chWithin n ch

theorem MRel.cut {n : Nat} {u : AMode} {v : FrameMode} (h : MRel g u v) (hu : uWithin n u = true) : MRel (g.cut n) u v := by
  cases h with
  | returning => exact .returning
  | panicking hp => exact .panicking (hp.cut hu)

theorem MRel.within {n : Nat} {u : AMode} {v : FrameMode} (h : MRel g u v) (hp : g.phi.length ≤ n) (ht : ∀ t e ti, g.tok t e = some ti → t < n) : uWithin n u = true := by
  cases h with
  | returning => rfl
  | panicking h =>
    simp only [uWithin, chWithin]
    induction h with
    | nil => rfl
    | cons hv _ ih => simp only [List.all_cons, Bool.and_eq_true]; exact ⟨hv.within hp ht, ih⟩

/-- The operations behind recover in its region: computing ones alone. -/
def runPure (E : Env) (H : List AO) : List Oper → AAct → Option AAct
  | [], a => some a
  | o :: rest, a => match o.guard, evPure E a H o with
    | none, some v => runPure E H rest (a.put o.dst v)
    | _, _ => none

theorem recover_rel {u : AMode} {v : FrameMode} (h : MRel g u v) (c : Frame) (hc : c.mode = v) (cs : List Frame) :
    (∃ x v2, recoverD (c :: cs) = some (x, { c with mode := v2 } :: cs) ∧ VRel g (arecover u).1 x ∧ MRel g (arecover u).2 v2) ∨ (recoverD (c :: cs) = none ∧ arecover u = (.nili, u)) := by
  subst hc
  cases hm : c.mode with
  | run => rw [hm] at h; cases h
  | returning => rw [hm] at h; cases h; exact .inr ⟨by simp [recoverD, hm], rfl⟩
  | panicking qs =>
    rw [hm] at h
    cases h with
    | panicking hp =>
      cases hp with
      | nil => exact .inr ⟨by simp [recoverD, hm], rfl⟩
      | cons hv hs =>
        rename_i p v ps qs
        obtain ⟨pv, pr⟩ := p
        cases pr with
        | true => exact .inr ⟨by simp [recoverD, hm], rfl⟩
        | false => exact .inl ⟨v, _, by simp only [recoverD, hm], hv, .panicking (.cons (p := ⟨pv, true⟩) hv hs)⟩

theorem runPure_sound {ops : Array Oper} {Q2 : Exit → Act → List Frame → World → Prop} {cs : List Frame} (hr : E.Rep g H w) : ∀ (l : List Oper) (k : Nat), (∀ i, ops[k + i]? = l[i]?) → ∀ (a : AAct) (a' : Act) (a2 : AAct), ARel g a a' → runPure E H l a = some a2 →
    (∀ a2', ARel g a2 a2' → Q2 .normal a2' cs w) → wpOpsSIn Fence.wide 0 E.P ops Q2 ((List.range l.length).map (k + ·)) a' cs w := by
  intro l
  induction l with
  | nil => intro k _ a a' a2 ha h hq; simp only [runPure] at h; injection h with h; subst h; exact hq _ ha
  | cons o rest ih =>
    intro k hk a a' a2 ha h hq
    have ho : ops[k]? = some o := by have := hk 0; simpa using this
    have hrest : ∀ i, ops[k + 1 + i]? = rest[i]? := fun i => by have := hk (i + 1); rw [show k + 1 + i = k + (i + 1) by omega, this]; rfl
    have hlist : (List.range (o :: rest).length).map (k + ·) = k :: (List.range rest.length).map (k + 1 + ·) := by
      rw [List.length_cons, List.range_succ_eq_map, List.map_cons, List.map_map]
      congr 1
      apply List.map_congr_left
      intro x _
      simp only [Function.comp]; omega
    rw [hlist]
    simp only [runPure] at h
    split at h
    · rename_i v hg hv
      obtain ⟨c, h1, h2⟩ := evPure_sound hr ha hv
      simp only [wpOpsSIn, ho]
      refine ⟨fun _ _ => trivial, ?_⟩
      have hw : Region.wanted o (yielded ops a'.tmps) = true := by simp [Region.wanted, hg]
      rw [if_pos hw, h1]
      exact ih (k + 1) hrest _ _ _ (ha.put _ h2) h hq
    · simp at h

/-- **A deferred function whose first operation is recover.** -/
theorem ACallD.of_recover {f : FuncId} {fn : Func} {id : Nat} {ops : Array Oper} {c2 : Code} {args : List AV} {u : AMode} {R : AE → AMode → List AO → Prop} (md : Nat → Nat) (hf : E.P.funcs[f]? = some fn) (hn : (fn.name == "runtime.NumGoroutine") = false)
    (hb : fn.body = some (.seq (.region id ops false) c2)) {o : Oper} {rest : List Oper} (hops : ops.toList = o :: rest) {d : Option Tmp} {at_ : Array TypeId} (ho : o.op = .call { callee := .builtin .recover, args := #[], argTypes := at_ }) (hg : o.guard = none) {a2 : AAct}
    (hrun : runPure E H rest (AAct.put ⟨args ++ List.replicate (fn.ntmps - args.length) .top, []⟩ o.dst (arecover u).1) = some a2)
    (h : Fit H.length H → uWithin H.length (arecover u).2 = true → W E H.length none md c2 (DPost E H.length fn (arecover u).2 R) a2 H) : ACallD E f args u H R := by
  intro g w cs v hr hv hu
  refine ⟨callFunc_enter hf hn hb cs w, ?_⟩
  refine callsDIn_of_wpSV hf hb fun c₀ fs hc => ?_
  have hgl : ∀ n, H.length ≤ n → ∀ i, belowL n (E.gl i) = true := fun n hn i => glob_within hr n hn i
  have htok : ∀ t e ti, g.tok t e = some ti → t < H.length := by
    intro t e ti h
    rcases Nat.lt_or_ge t H.length with h' | h'
    · exact h'
    · rw [hr.beyond t e h'] at h; simp at h
  -- what is asked behind recover
  have main : ∀ (v2 : FrameMode) (x : Value), VRel g (arecover u).1 x → MRel g (arecover u).2 v2 → ∀ fs2, fs2 = { c₀ with mode := v2 } :: fs →
      wpOpsSIn Fence.wide 0 E.P ops (Exit.thenS (wpSV E.P c2 (bodyPostS E.P fn c₀ fs (fun e v2 w2 => ∃ x u2 H2 g2, R x u2 H2 ∧ GLe g g2 ∧ E.Rep g2 H2 w2 ∧ ERel g2 x e ∧ MRel g2 u2 v2))) (bodyPostS E.P fn c₀ fs (fun e v2 w2 => ∃ x u2 H2 g2, R x u2 H2 ∧ GLe g g2 ∧ E.Rep g2 H2 w2 ∧ ERel g2 x e ∧ MRel g2 u2 v2))) ((List.range rest.length).map (1 + ·))
        (Act.put { tmps := cs ++ Array.replicate (fn.ntmps - cs.size) undef, defers := [] } o.dst x) fs2 w := by
    rintro v2 x hx hu2 fs2 rfl
    have hk : ∀ i, ops[1 + i]? = rest[i]? := fun i => by
      have : ops[1 + i]? = ops.toList[1 + i]? := by simp
      rw [this, hops, Nat.add_comm]; rfl
    refine runPure_sound (E := E) hr rest 1 hk _ _ a2 (ARel.put (a := ⟨args ++ List.replicate (fn.ntmps - args.length) .top, []⟩) (a' := { tmps := cs ++ Array.replicate (fn.ntmps - cs.size) undef, defers := [] }) ⟨enter_tmps hv _, .nil⟩ _ hx) hrun fun a2' ha2 => ?_
    have huw := hu2.within (n := H.length) (by rw [hr.len]; exact Nat.le_refl _) htok
    have hw := W_sound c2 _ _ _ (h hr.fit huw)
    refine wpSV_of_wpV (wpV_mono (hw g g w a2' hr.dom (GLe.refl g) hr ha2) ?_)
    rintro e a3 w3 ⟨y, A, H3, g3, hq, hl3, hr3, ha3, hy⟩
    have fin : ∀ {z : AE} {e' : Ending}, Out H.length (fun x H => R x (arecover u).2 H) z H3 → ERel g3 z e' → ∃ x u2 H2 g2, R x u2 H2 ∧ GLe g g2 ∧ E.Rep g2 H2 w3 ∧ ERel g2 x e' ∧ MRel g2 u2 v2 := by
      intro z e' hz he
      obtain ⟨y, hy4, hR4 | ⟨H4, l, rfl, hn4, hf4, hx4, hR4⟩⟩ := hz
      · exact ⟨y, _, H3, g3, hR4, hl3, hr3, hy4 _ _ he, hu2.mono hl3⟩
      have hle := hl3.cut (n := H4.length) hr.dom hn4
      exact ⟨y, _, H4, g3.cut H4.length, hR4, hle, Rep.drop hr3 hf4 (hgl _ hn4), (hy4 _ _ he).cut hx4, hu2.mono hle⟩
    cases hy with
    | normal =>
      obtain ⟨hd, hq⟩ := hq
      split at hq
      · rename_i rv hrv
        obtain ⟨c, r1, r2⟩ := results_run hr3 ha3.1 hrv
        have hd' : a3.defers = [] := by have := ha3.2; rw [hd] at this; exact this.nil_inv
        exact ⟨hd', v2, rfl, c, r1, fin hq (.ret r2)⟩
      · exact hq.elim
    | ret =>
      obtain ⟨hd, hq⟩ := hq
      split at hq
      · rename_i rv hrv
        obtain ⟨c, r1, r2⟩ := results_run hr3 ha3.1 hrv
        have hd' : a3.defers = [] := by have := ha3.2; rw [hd] at this; exact this.nil_inv
        exact ⟨hd', v2, rfl, c, r1, fin hq (.ret r2)⟩
      · exact hq.elim
    | panic hp =>
      obtain ⟨hd, hq⟩ := hq
      have hd' : a3.defers = [] := by have := ha3.2; rw [hd] at this; exact this.nil_inv
      exact ⟨hd', v2, rfl, fin hq (.panic hp)⟩
    | exit id => exact hq.elim
    | goto l => exact hq.elim
  refine wpSV_seq (wpSIn_region ?_)
  have hsize : ops.size = rest.length + 1 := by
    have : ops.size = ops.toList.length := by simp
    rw [this, hops]; rfl
  have hlist : List.range ops.size = 0 :: (List.range rest.length).map (1 + ·) := by
    rw [hsize, List.range_succ_eq_map]
    congr 1
    apply List.map_congr_left
    intro x _
    omega
  rw [hlist]
  have ho0 : ops[0]? = some o := by
    have : ops[0]? = ops.toList[0]? := by simp
    rw [this, hops]; rfl
  simp only [wpOpsSIn, ho0]
  refine ⟨fun _ _ => trivial, ?_⟩
  have hw : ∀ y, Region.wanted o y = true := by intro y; simp [Region.wanted, hg]
  rw [if_pos (hw _)]
  have hrec : ∀ ρ, (execOp ρ o).run E.P w = .ok .recover w := by
    intro ρ
    unfold execOp
    rw [ho]
    simp [resolve, invoke, builtin]
  rw [hrec]
  rcases recover_rel hu c₀ hc fs with ⟨x, v2, h1, h2, h3⟩ | ⟨h1, h2⟩
  · simp only [h1]
    exact main v2 x h2 h3 _ rfl
  · simp only [h1]
    have hu' : MRel g (arecover u).2 v := by rw [h2]; exact hu
    have hx' : VRel g (arecover u).1 .nilIface := by rw [h2]; exact .nili
    refine main v _ hx' hu' _ ?_
    subst hc; rfl

end Go.Ab
