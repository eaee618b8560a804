/- The abstract view, 2: types, activations, endings; what it is for a piece of code, a list of operations, a call to go well over an abstract heap; the rules for code. -/
import Derived.Test.YtlcbdgklbjocnaaDoorAb0
import Derived.Test.YtlcbdgklbjocnaaDoorAb1
set_option linter.unusedVariables false
set_option linter.unusedSimpArgs false
namespace Go.Ab
open Go Go.RowKit

/-! ### Types -/
/-- What a type is underneath. -/
inductive UT where
  | bool
  | int (k : IntKind)
  | str
  | ptr
  | sl (e : TypeId)
  | arr (n : Nat) (e : TypeId)
  | struct (fs : List (Nat × TypeId))
  | map (k e : TypeId)
  | iface (any : Bool)
  | func
  | other
  deriving Inhabited

structure TyI where
  u : UT
  size : Nat
  bytes : Nat
  zero : List AV
  deriving Inhabited

def TyI.isAgg (i : TyI) : Bool := match i.u with | .arr .. | .struct _ => true | _ => false

def URel (P : Program) : UT → TypeDesc → Prop
  | .bool, d => d = .bool
  | .int k, d => d = .int k
  | .str, d => d = .string
  | .ptr, d => ∃ e, d = .pointer e
  | .sl e, d => d = .slice e
  | .arr n e, d => d = .array n e
  | .struct fs, d => ∃ fields, d = .struct fields ∧ fields.size = fs.length ∧ (∀ (i : Nat) (f : Field), fields[i]? = some f → fs[i]? = some (f.offset, f.type)) ∧ (∀ f : Field, f ∈ fields → f.name ≠ "_")
  | .map k e, d => d = .map k e
  | .iface any, d => ∃ ms, d = .interface ms ∧ (any = true → ms = #[])
  | .func, d => ∃ ps rs v, d = .func ps rs v
  | .other, d => match d with | .struct _ | .array .. | .interface _ | .int _ => False | _ => True

structure TyOk (P : Program) (t : TypeId) (i : TyI) : Prop where
  info : ∃ z inf, P.info? t = some inf ∧ inf.zero = some z ∧ inf.size = i.size ∧ inf.bytes = i.bytes ∧ z.cells.size = i.size ∧ i.zero.length = i.size ∧
    (i.isAgg = true → ∃ cs, z = .agg cs) ∧ (i.isAgg = false → z.cells = #[z] ∧ i.size = 1) ∧ ∀ g k, VRel g (i.zero.getD k .top) (z.cells.getD k undef)
  und : ∃ d, P.underlying t = some d ∧ URel P i.u d

/-- The surroundings: program, table of types, memory that came in. -/
structure Env where
  P : Program
  ty : TypeId → Option TyI
  ok : ∀ t i, ty t = some i → TyOk P t i
  mixed : P.follows .mixedOrders = true
  n0 : Nat
  w0 : World
  gl : Nat → List AV

abbrev Env.Rep (E : Env) (g : Ghost) (H : List AO) (w : World) : Prop := Ab.Rep E.n0 E.w0 E.gl g H w

/-! ### What stands for what -/
theorem VRel.bool_inv {g : Ghost} {b : Bool} {c : Value} (h : VRel g (.bool b) c) : c = .bool b := by cases h; rfl
theorem VRel.int_inv {g : Ghost} {k : IntKind} {n : Int} {c : Value} (h : VRel g (.int k n) c) : c = .int k n := by cases h; rfl
theorem VRel.str_inv {g : Ghost} {s : List UInt8} {c : Value} (h : VRel g (.str s) c) : c = .string ⟨s.toArray⟩ := by
  cases h with
  | str s b h => subst h; rfl

/-! ### Activations -/
inductive ADef where
  | mark (id : Nat)
  | call (f : FuncId) (args cap : List AV)
  deriving Inhabited

structure AAct where
  tmps : List AV
  defers : List ADef := []
  deriving Inhabited

inductive DRel (g : Ghost) : ADef → Deferred → Prop
  | mark (id b : Nat) (h : g.phi[id]? = some b) : DRel g (.mark id) { target := .collected b, args := #[] }
  | call (f : FuncId) (args cap : List AV) (as cs : Array Value) (h1 : VRels g args as) (h2 : VRels g cap cs) : DRel g (.call f args cap) { target := .fn (.func f) cs, args := as }

inductive DRels (g : Ghost) : List ADef → List Deferred → Prop
  | nil : DRels g [] []
  | cons {x : ADef} {y : Deferred} {xs : List ADef} {ys : List Deferred} (h : DRel g x y) (hs : DRels g xs ys) : DRels g (x :: xs) (y :: ys)

def ARel (g : Ghost) (a : AAct) (a' : Act) : Prop := VRels g a.tmps a'.tmps ∧ DRels g a.defers a'.defers

theorem DRel.mono {g g' : Ghost} (h : GLe g g') {x : ADef} {y : Deferred} (r : DRel g x y) : DRel g' x y := by
  cases r with
  | mark id b e => exact .mark id b (h.phi _ _ e)
  | call f as cs x y h1 h2 => exact .call f as cs x y (h1.mono h) (h2.mono h)
theorem DRels.mono {g g' : Ghost} (h : GLe g g') {x : List ADef} {y : List Deferred} (r : DRels g x y) : DRels g' x y := by
  induction r with
  | nil => exact .nil
  | cons a _ ih => exact .cons (a.mono h) ih
theorem ARel.mono {g g' : Ghost} (h : GLe g g') {a : AAct} {a' : Act} (r : ARel g a a') : ARel g' a a' := ⟨r.1.mono h, r.2.mono h⟩

/-- A constant's abstract value. -/
def constAV : Value → AV
  | .bool b => .bool b
  | .int k n => .int k n
  | .string s => .str s.data.toList
  | .pointer none => .nilp
  | .slice none 0 0 => .sl 0 [] .full
  | .map none => .nilmap
  | .nilFunc => .nilfn
  | .nilIface => .nili
  | _ => .top

theorem constAV_rel (g : Ghost) (v : Value) : VRel g (constAV v) v := by
  unfold constAV
  split
  · exact .bool _
  · exact .int _ _
  · exact .str _ _ rfl
  · exact .nilp
  · exact .nsl _ trivial
  · exact .nilmap
  · exact .nilfn
  · exact .nili
  · exact .top _

def AAct.ev (gl : Nat → List AV) (a : AAct) : Operand → AV
  | .tmp t => a.tmps.getD t .top
  | .const v => constAV v
  | .global g => .row (gl g)
  | .func f => .fn f [] []

theorem ev_rel {n0 : Nat} {w0 w : World} {gl : Nat → List AV} {g : Ghost} {H : List AO} {a : AAct} {a' : Act} (hr : Rep n0 w0 gl g H w) (h : ARel g a a') (x : Operand) : VRel g (a.ev gl x) (a'.eval x) := by
  cases x with
  | tmp t => exact h.1.2 t
  | const v => exact constAV_rel g v
  | global i => exact hr.glob i
  | func f => exact .fn f [] [] #[] #[] rfl (fun i => by simp; exact .top _) rfl (fun i => by simp; exact .top _)

def AAct.put (a : AAct) (dst : Option Tmp) (v : AV) : AAct :=
  match dst with
  | some d => { a with tmps := a.tmps.set d v }
  | none => a

theorem VRels.set {g : Ghost} {xs : List AV} {cs : Array Value} (h : VRels g xs cs) (d : Nat) {v : AV} {c : Value} (r : VRel g v c) : VRels g (xs.set d v) (cs.setIfInBounds d c) := by
  refine ⟨by simp [h.1], fun i => ?_⟩
  have hi := h.2 i
  simp only [List.getD_eq_getElem?_getD, Array.getD_eq_getD_getElem?] at hi ⊢
  by_cases e : d = i
  · subst e
    rw [List.getElem?_set_self', Array.getElem?_setIfInBounds_self]
    by_cases hd : d < xs.length
    · rw [if_pos (by rw [h.1]; exact hd)]
      simp [hd]; exact r
    · rw [if_neg (by rw [h.1]; exact hd)]
      simp [hd]; exact .top _
  · rw [List.getElem?_set_ne e, Array.getElem?_setIfInBounds_ne e]; exact hi

theorem ARel.put {g : Ghost} {a : AAct} {a' : Act} (h : ARel g a a') (dst : Option Tmp) {v : AV} {c : Value} (r : VRel g v c) : ARel g (a.put dst v) (a'.put dst c) := by
  cases dst with
  | none => exact h
  | some d => exact ⟨h.1.set d r, h.2⟩

/-! ### Ways out -/
structure APanic where
  v : AV
  recovered : Bool := false

inductive AX where
  | normal
  | exit (id : Nat)
  | goto (l : Nat)
  | ret
  | panic (ch : List APanic)

inductive AE where
  | ret (v : AV)
  | panic (ch : List APanic)

inductive PRels (g : Ghost) : List APanic → List PanicEntry → Prop
  | nil : PRels g [] []
  | cons {p : APanic} {v : Value} {ps : List APanic} {qs : List PanicEntry} (h : VRel g p.v v) (hs : PRels g ps qs) : PRels g (p :: ps) ({ v, recovered := p.recovered } :: qs)

theorem PRels.mono {g g' : Ghost} (h : GLe g g') {x : List APanic} {y : List PanicEntry} (r : PRels g x y) : PRels g' x y := by
  induction r with
  | nil => exact .nil
  | cons a _ ih => exact .cons (a.mono h) ih

inductive XRel (g : Ghost) : AX → Exit → Prop
  | normal : XRel g .normal .normal
  | exit (id : Nat) : XRel g (.exit id) (.exit id)
  | goto (l : Nat) : XRel g (.goto l) (.goto l)
  | ret : XRel g .ret .ret
  | panic {ch : List APanic} {cs : List PanicEntry} (h : PRels g ch cs) : XRel g (.panic ch) (.panic cs)

inductive ERel (g : Ghost) : AE → Ending → Prop
  | ret {v : AV} {c : Value} (h : VRel g v c) : ERel g (.ret v) (.returned c)
  | panic {ch : List APanic} {cs : List PanicEntry} (h : PRels g ch cs) : ERel g (.panic ch) (.panicked cs)

abbrev APost := AX → AAct → List AO → Prop

def Conc (E : Env) (g0 : Ghost) (Q : APost) : Exit → Act → World → Prop :=
  fun e a' w' => ∃ x a H g, Q x a H ∧ GLe g0 g ∧ E.Rep g H w' ∧ ARel g a a' ∧ XRel g x e

def EConc (E : Env) (g0 : Ghost) (R : AE → List AO → Prop) : Ending → World → Prop :=
  fun e w' => ∃ x H g, R x H ∧ GLe g0 g ∧ E.Rep g H w' ∧ ERel g x e

/-- The block of the record of the round in which code runs. -/
def rho (g0 : Ghost) : Option Nat → Option Nat
  | none => none
  | some l => some (g0.phi.getD l 0)

def fenceOf (g0 : Ghost) (rd : Option Nat) : Fence := FW (rho g0 rd)

/-- What a ghost at the beginning of an activation knows of numbers from N on: nothing. -/
def Dom (g : Ghost) (N : Nat) : Prop := g.phi.length = N ∧ ∀ t e, N ≤ t → g.tok t e = none

/-- A piece of code goes well. N: how many objects there were when the activation began. -/
def WPc (E : Env) (N : Nat) (rd : Option Nat) (c : Code) (Q : APost) (a : AAct) (H : List AO) : Prop :=
  ∀ g0 g w a', Dom g0 N → GLe g0 g → E.Rep g H w → ARel g a a' → wpV (rho g0 rd) E.P c (Conc E g0 Q) a' w

/-- A list of operations of a region goes well. -/
def WPo (E : Env) (N : Nat) (rd : Option Nat) (ops : Array Oper) (Q : APost) (l : List Nat) (a : AAct) (H : List AO) : Prop :=
  ∀ g0 g w a', Dom g0 N → GLe g0 g → E.Rep g H w → ARel g a a' → wpOpsIn (fenceOf g0 rd) 0 E.P ops (Conc E g0 Q) l a' w

/-- A call of a function by its number goes well, be it entered or one of the model's own. -/
def ACall (E : Env) (f : FuncId) (args : List AV) (H : List AO) (R : AE → List AO → Prop) : Prop :=
  ∀ g w cs, E.Rep g H w → VRels g args cs →
    (∃ v w', (callFunc f cs).run E.P w = .ok (.value v) w' ∧ EConc E g R (.returned v) w') ∨
    ((callFunc f cs).run E.P w = .ok (.enter f cs) w ∧ CallsIn Fence.wide 0 E.P f cs w (EConc E g R))

theorem EConc.mono {E : Env} {g : Ghost} {R R' : AE → List AO → Prop} (h : ∀ x H, R x H → R' x H) {e : Ending} {w : World} (k : EConc E g R e w) : EConc E g R' e w :=
  let ⟨x, H, g', a, b⟩ := k; ⟨x, H, g', h _ _ a, b⟩

theorem ACall.mono {E : Env} {f : FuncId} {args : List AV} {H : List AO} {R R' : AE → List AO → Prop} (h : ACall E f args H R) (k : ∀ x H, R x H → R' x H) : ACall E f args H R' := by
  intro g w cs hr hv
  rcases h g w cs hr hv with ⟨v, w', h1, h2⟩ | ⟨h1, h2⟩
  · exact .inl ⟨v, w', h1, h2.mono k⟩
  · exact .inr ⟨h1, h2.mono fun e w' hh => hh.mono k⟩

theorem Conc.mono {E : Env} {g0 : Ghost} {Q Q' : APost} (h : ∀ x a H, Q x a H → Q' x a H) {e : Exit} {a : Act} {w : World} (k : Conc E g0 Q e a w) : Conc E g0 Q' e a w :=
  let ⟨x, A, H, g, q, r⟩ := k; ⟨x, A, H, g, h _ _ _ q, r⟩

variable {E : Env} {N : Nat} {rd : Option Nat} {Q : APost} {a : AAct} {H : List AO}

theorem WPc.mono {c : Code} {Q' : APost} (h : WPc E N rd c Q a H) (k : ∀ x a H, Q x a H → Q' x a H) : WPc E N rd c Q' a H :=
  fun g0 g w a' hd hl hr ha => wpV_mono (h g0 g w a' hd hl hr ha) fun _ _ _ q => q.mono k

theorem wpc_skip (h : Q .normal a H) : WPc E N rd .skip Q a H := fun _ g _ _ _ hl hr ha => wpV_of_wpIn (wpIn_skip ⟨.normal, a, H, g, h, hl, hr, ha, .normal⟩)
theorem wpc_label {l : Nat} (h : Q .normal a H) : WPc E N rd (.label l) Q a H := fun _ g _ _ _ hl hr ha => wpV_of_wpIn (wpIn_label ⟨.normal, a, H, g, h, hl, hr, ha, .normal⟩)
theorem wpc_exit {id : Nat} (h : Q (.exit id) a H) : WPc E N rd (.exit id) Q a H := fun _ g _ _ _ hl hr ha => wpV_of_wpIn (wpIn_exit ⟨.exit id, a, H, g, h, hl, hr, ha, .exit id⟩)
theorem wpc_goto {l : Nat} (h : Q (.goto l) a H) : WPc E N rd (.goto l) Q a H := fun _ g _ _ _ hl hr ha => wpV_of_wpIn (wpIn_goto ⟨.goto l, a, H, g, h, hl, hr, ha, .goto l⟩)
theorem wpc_ret (h : Q .ret a H) : WPc E N rd .ret Q a H := fun _ g _ _ _ hl hr ha => wpV_of_wpIn (wpIn_ret ⟨.ret, a, H, g, h, hl, hr, ha, .ret⟩)

def AX.then (next : AAct → List AO → Prop) (Q : APost) : APost
  | .normal, a, H => next a H
  | x, a, H => Q x a H

theorem wpc_seq {x y : Code} (h : WPc E N rd x (AX.then (WPc E N rd y Q) Q) a H) : WPc E N rd (.seq x y) Q a H := by
  intro g0 g w a' hd hl hr ha
  refine wpV_seq (wpV_mono (h g0 g w a' hd hl hr ha) ?_)
  rintro e a2 w2 ⟨x, A, H', g', hq, hl', hr', ha', hx⟩
  cases hx with
  | normal => exact hq g0 g' w2 a2 hd hl' hr' ha'
  | exit id => exact ⟨.exit id, A, H', g', hq, hl', hr', ha', .exit id⟩
  | goto l => exact ⟨.goto l, A, H', g', hq, hl', hr', ha', .goto l⟩
  | ret => exact ⟨.ret, A, H', g', hq, hl', hr', ha', .ret⟩
  | panic hp => exact ⟨.panic _, A, H', g', hq, hl', hr', ha', .panic hp⟩

theorem wpc_cond {c : Operand} {x y : Code} {t : Bool} (hc : a.ev E.gl c = .bool t) (h1 : t = true → WPc E N rd x Q a H) (h2 : t = false → WPc E N rd y Q a H) : WPc E N rd (.cond c x y) Q a H := by
  intro g0 g w a' hd hl hr ha
  have hv := ev_rel hr ha c
  rw [hc] at hv
  have hv' : a'.eval c = .bool t := hv.bool_inv
  refine wpV_cond hv' ?_
  cases t with
  | true => exact h1 rfl g0 g w a' hd hl hr ha
  | false => exact h2 rfl g0 g w a' hd hl hr ha

def AX.inBlock (id : Nat) (Q : APost) : APost
  | .exit id', a, H => if id' = id then Q .normal a H else Q (.exit id') a H
  | x, a, H => Q x a H

theorem wpc_block {id : Nat} {c : Code} (h : WPc E N rd c (AX.inBlock id Q) a H) : WPc E N rd (.block id c) Q a H := by
  intro g0 g w a' hd hl hr ha
  refine wpV_block (wpV_mono (h g0 g w a' hd hl hr ha) ?_)
  rintro e a2 w2 ⟨x, A, H', g', hq, hl', hr', ha', hx⟩
  cases hx with
  | normal => exact ⟨.normal, A, H', g', hq, hl', hr', ha', .normal⟩
  | exit id' =>
    simp only [AX.inBlock, Exit.inBlock] at hq ⊢
    split
    · rename_i h; rw [if_pos h] at hq; exact ⟨.normal, A, H', g', hq, hl', hr', ha', .normal⟩
    · rename_i h; rw [if_neg h] at hq; exact ⟨.exit id', A, H', g', hq, hl', hr', ha', .exit id'⟩
  | goto l => exact ⟨.goto l, A, H', g', hq, hl', hr', ha', .goto l⟩
  | ret => exact ⟨.ret, A, H', g', hq, hl', hr', ha', .ret⟩
  | panic hp => exact ⟨.panic _, A, H', g', hq, hl', hr', ha', .panic hp⟩

/-! ### Forgetting -/
/-- Less is known: every pair that fits the first fits the second, with the same ghost. -/
def fgt : List AV → List AV → Prop
  | [], [] => True
  | x :: xs, y :: ys => (y = x ∨ y = .top) ∧ fgt xs ys
  | _, _ => False

theorem fgt_rels {g : Ghost} : ∀ (xs ys : List AV), fgt xs ys → ∀ cs, VRels g xs cs → VRels g ys cs := by
  intro xs ys h cs hv
  have key : ∀ (xs ys : List AV), fgt xs ys → xs.length = ys.length ∧ ∀ i, ys.getD i .top = xs.getD i .top ∨ ys.getD i .top = .top := by
    intro xs
    induction xs with
    | nil => intro ys h; cases ys with
      | nil => exact ⟨rfl, fun i => .inl rfl⟩
      | cons y ys => exact h.elim
    | cons x xs ih => intro ys h; cases ys with
      | nil => exact h.elim
      | cons y ys =>
        obtain ⟨h1, h2⟩ := h
        obtain ⟨e, k⟩ := ih ys h2
        refine ⟨by simp [e], fun i => ?_⟩
        cases i with
        | zero => simpa using h1
        | succ i => simpa using k i
  obtain ⟨e, k⟩ := key xs ys h
  refine ⟨by rw [← e]; exact hv.1, fun i => ?_⟩
  rcases k i with h | h
  · rw [h]; exact hv.2 i
  · rw [h]; exact .top _

theorem WPc.forget {c : Code} {ts ts2 : List AV} {ds : List ADef} (h : fgt ts ts2) (k : WPc E N rd c Q ⟨ts2, ds⟩ H) : WPc E N rd c Q ⟨ts, ds⟩ H :=
  fun g0 g w a' hd hl hr ha => k g0 g w a' hd hl hr ⟨fgt_rels _ _ h _ ha.1, ha.2⟩

/-- A loop: a family of states at its head, by an index whose measure goes down. -/
theorem wpc_loop {c : Code} {ι : Type} (st : ι → AAct × List AO) (μ : ι → Nat) (i : ι)
    (h0 : (st i).1.defers = a.defers ∧ fgt a.tmps (st i).1.tmps ∧ H = (st i).2)
    (round : ∀ i, WPc E N rd c (AX.then (fun a' H' => ∃ j, μ j < μ i ∧ (st j).1.defers = a'.defers ∧ fgt a'.tmps (st j).1.tmps ∧ H' = (st j).2) Q) (st i).1 (st i).2) :
    WPc E N rd (.loop c) Q a H := by
  intro g0 g w a' hd hl hr ha
  refine wpV_loopI (I := fun i a' w' => ∃ g, GLe g0 g ∧ E.Rep g (st i).2 w' ∧ ARel g (st i).1 a') μ ?_ i
    ⟨g, hl, h0.2.2 ▸ hr, fgt_rels _ _ h0.2.1 _ ha.1, h0.1 ▸ ha.2⟩
  rintro i a1 w1 ⟨g1, hl1, hr1, ha1⟩
  refine wpV_mono (round i g0 g1 w1 a1 hd hl1 hr1 ha1) ?_
  rintro e a2 w2 ⟨x, A, H', g', hq, hl', hr', ha', hx⟩
  cases hx with
  | normal =>
    obtain ⟨j, hj, e1, e2, e3⟩ := hq
    exact ⟨j, ⟨g', hl', e3 ▸ hr', fgt_rels _ _ e2 _ ha'.1, e1 ▸ ha'.2⟩, hj⟩
  | exit id => exact ⟨.exit id, A, H', g', hq, hl', hr', ha', .exit id⟩
  | goto l => exact ⟨.goto l, A, H', g', hq, hl', hr', ha', .goto l⟩
  | ret => exact ⟨.ret, A, H', g', hq, hl', hr', ha', .ret⟩
  | panic hp => exact ⟨.panic _, A, H', g', hq, hl', hr', ha', .panic hp⟩

end Go.Ab
