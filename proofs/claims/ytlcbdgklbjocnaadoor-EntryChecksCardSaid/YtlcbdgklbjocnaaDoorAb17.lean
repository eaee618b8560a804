/- The abstract view, 17: a program's own table of types, and the rules by which a proof steps through code. -/
import Derived.Test.YtlcbdgklbjocnaaDoorAb16
set_option linter.unusedVariables false
set_option linter.unusedSimpArgs false
namespace Go.Ab
open Go Go.RowKit

/-! ### The table of types -/
def utOf : TypeDesc → Option UT
  | .bool => some .bool
  | .int k => some (.int k)
  | .string => some .str
  | .pointer _ => some .ptr
  | .slice e => some (.sl e)
  | .array n e => some (.arr n e)
  | .struct fs => if fs.toList.all (fun f => f.name != "_") then some (.struct (fs.toList.map fun f => (f.offset, f.type))) else none
  | .map k e => some (.map k e)
  | .interface ms => some (.iface ms.isEmpty)
  | .func _ _ _ => some .func
  | _ => some .other

theorem utOf_rel {P : Program} {d : TypeDesc} {u : UT} (h : utOf d = some u) : URel P u d := by
  cases d
  case struct fs =>
    simp only [utOf] at h
    split at h
    · rename_i hf
      injection h with h; subst h
      refine ⟨fs, rfl, by simp, fun i f hi => ?_, fun f hm e => ?_⟩
      · rw [← Array.getElem?_toList] at hi; simp only [List.getElem?_map, hi, Option.map_some]
      · have := List.all_eq_true.1 hf f (by simpa using hm); simp [e] at this
    · simp at h
  case interface ms =>
    simp only [utOf] at h
    injection h with h; subst h
    exact ⟨_, rfl, fun h => by simpa using h⟩
  all_goals
    simp only [utOf] at h
    injection h with h; subst h
    first
      | rfl
      | exact ⟨_, rfl⟩
      | exact ⟨_, _, _, rfl⟩
      | trivial

def isAggV : Value → Bool
  | .agg _ => true
  | _ => false

def tyOf (P : Program) (t : TypeId) : Option TyI :=
  match P.info? t, P.underlying t with
  | some inf, some d => match inf.zero, utOf d with
    | some z, some u =>
      let i : TyI := ⟨u, inf.size, inf.bytes, z.cells.toList.map constAV⟩
      if z.cells.size = inf.size ∧ (i.isAgg == isAggV z) ∧ (i.isAgg || inf.size == 1) then some i else none
    | _, _ => none
  | _, _ => none

theorem tyOf_ok {P : Program} {t : TypeId} {i : TyI} (h : tyOf P t = some i) : TyOk P t i := by
  unfold tyOf at h
  split at h
  · rename_i inf d hi hd
    split at h
    · rename_i z u hz hu
      simp only at h
      split at h
      · rename_i hc
        injection h with h
        obtain ⟨h1, h2, h3⟩ := hc
        rw [h] at h2 h3
        have e1 : i.size = inf.size := by rw [← h]
        have e2 : i.bytes = inf.bytes := by rw [← h]
        have e3 : i.zero = z.cells.toList.map constAV := by rw [← h]
        have e4 : i.u = u := by rw [← h]
        refine ⟨⟨z, inf, hi, hz, e1.symm, e2.symm, by rw [h1, e1], by rw [e3]; simp [h1, e1], fun ha => ?_, fun ha => ?_, fun g k => ?_⟩, d, hd, by rw [e4]; exact utOf_rel hu⟩
        · rw [ha] at h2
          cases z <;> simp [isAggV] at h2
          exact ⟨_, rfl⟩
        · rw [ha] at h2 h3
          refine ⟨?_, by simpa [e1] using h3⟩
          cases z <;> simp [isAggV] at h2 <;> rfl
        · rw [e3]
          simp only [List.getD_eq_getElem?_getD, List.getElem?_map, Array.getD_eq_getD_getElem?, Array.getElem?_toList]
          cases z.cells[k]? with
          | none => exact .top _
          | some v => exact constAV_rel g v
      · simp at h
    · simp at h
  · simp at h

def envOf (P : Program) (h : P.follows .mixedOrders = true) (n0 : Nat) (w0 : World) (gl : Nat → List AV) : Env :=
  { P := P, ty := tyOf P, ok := fun _ _ h => tyOf_ok h, mixed := h, n0 := n0, w0 := w0, gl := gl }

/-- A function's contract, from its body: the temporaries named. -/
theorem AEnter.go {E : Env} {H : List AO} {f : FuncId} {fn : Func} {c : Code} {args ts : List AV} {R : AE → List AO → Prop} (md : Nat → Nat) (hf : E.P.funcs[f]? = some fn) (hn : (fn.name == "runtime.NumGoroutine") = false) (hb : fn.body = some c)
    (hts : args ++ List.replicate (fn.ntmps - args.length) .top = ts) (h : Fit H.length H → W E H.length none md c (FPost E H.length fn R) ⟨ts, []⟩ H) : AEnter E f args H R :=
  AEnter.of_body md hf hn hb (by rw [hts]; exact h)

/-! ### Stepping -/
variable {E : Env} {N : Nat} {rd : Option Nat} {md : Nat → Nat} {Q : APost} {a : AAct} {H : List AO}

theorem w_skip (h : Q .normal a H) : W E N rd md .skip Q a H := h
theorem w_label {l : Nat} (h : Q .normal a H) : W E N rd md (.label l) Q a H := h
theorem w_exit {id : Nat} (h : Q (.exit id) a H) : W E N rd md (.exit id) Q a H := h
theorem w_goto {l : Nat} (h : Q (.goto l) a H) : W E N rd md (.goto l) Q a H := h
theorem w_ret (h : Q .ret a H) : W E N rd md .ret Q a H := h
/-- What is asked behind the first of two pieces. -/
def WSeq (E : Env) (N : Nat) (rd : Option Nat) (md : Nat → Nat) (y : Code) (Q : APost) : APost := AX.then (fun a H => W E N rd md y Q a H) Q
theorem w_seq {x y : Code} (h : W E N rd md x (WSeq E N rd md y Q) a H) : W E N rd md (.seq x y) Q a H := h
theorem wseq_normal {y : Code} (h : W E N rd md y Q a H) : WSeq E N rd md y Q .normal a H := h
theorem wseq_exit {y : Code} {id : Nat} (h : Q (.exit id) a H) : WSeq E N rd md y Q (.exit id) a H := h
theorem wseq_goto {y : Code} {l : Nat} (h : Q (.goto l) a H) : WSeq E N rd md y Q (.goto l) a H := h
theorem wseq_ret {y : Code} (h : Q .ret a H) : WSeq E N rd md y Q .ret a H := h
theorem wseq_panic {y : Code} {ch : List APanic} (h : Q (.panic ch) a H) : WSeq E N rd md y Q (.panic ch) a H := h
theorem w_block {id : Nat} {c : Code} (h : W E N rd md c (AX.inBlock id Q) a H) : W E N rd md (.block id c) Q a H := h
theorem w_region {id : Nat} {l : List Oper} (h : Wl E rd md l.toArray Q l a H) : W E N rd md (.region id l.toArray false) Q a H := h
theorem w_loop {c : Code} (h : WPc E N rd (.loop c) Q a H) : W E N rd md (.loop c) Q a H := h
theorem w_cond {c : Operand} {x y : Code} {t : Bool} (hc : a.ev E.gl c = .bool t) (h1 : t = true → W E N rd md x Q a H) (h2 : t = false → W E N rd md y Q a H) : W E N rd md (.cond c x y) Q a H := by
  simp only [W, hc]; exact ⟨h1, h2⟩
theorem w_cond_t {c : Operand} {x y : Code} (hc : a.ev E.gl c = .bool true) (h1 : W E N rd md x Q a H) : W E N rd md (.cond c x y) Q a H := by
  simp only [W, hc]; exact ⟨fun _ => h1, fun h => by simp at h⟩
theorem w_cond_f {c : Operand} {x y : Code} (hc : a.ev E.gl c = .bool false) (h1 : W E N rd md y Q a H) : W E N rd md (.cond c x y) Q a H := by
  simp only [W, hc]; exact ⟨fun h => by simp at h, fun _ => h1⟩

theorem then_normal {next : AAct → List AO → Prop} (h : next a H) : AX.then next Q .normal a H := h
theorem then_exit {next : AAct → List AO → Prop} {id : Nat} (h : Q (.exit id) a H) : AX.then next Q (.exit id) a H := h
theorem then_goto {next : AAct → List AO → Prop} {l : Nat} (h : Q (.goto l) a H) : AX.then next Q (.goto l) a H := h
theorem then_ret {next : AAct → List AO → Prop} (h : Q .ret a H) : AX.then next Q .ret a H := h
theorem then_panic {next : AAct → List AO → Prop} {ch : List APanic} (h : Q (.panic ch) a H) : AX.then next Q (.panic ch) a H := h
theorem inBlock_normal {id : Nat} (h : Q .normal a H) : AX.inBlock id Q .normal a H := h
theorem inBlock_goto {id l : Nat} (h : Q (.goto l) a H) : AX.inBlock id Q (.goto l) a H := h
theorem inBlock_ret {id : Nat} (h : Q .ret a H) : AX.inBlock id Q .ret a H := h
theorem inBlock_panic {id : Nat} {ch : List APanic} (h : Q (.panic ch) a H) : AX.inBlock id Q (.panic ch) a H := h
theorem inBlock_eq {id : Nat} (h : Q .normal a H) : AX.inBlock id Q (.exit id) a H := by simp only [AX.inBlock, if_pos]; exact h
theorem inBlock_ne {id k : Nat} (hk : (k == id) = false) (h : Q (.exit k) a H) : AX.inBlock id Q (.exit k) a H := by
  have : ¬ k = id := by simpa using hk
  simp only [AX.inBlock, if_neg this]; exact h

theorem wl_nil {ops : Array Oper} (h : Q .normal a H) : Wl E rd md ops Q [] a H := h
theorem wl_plain {ops : Array Oper} {o : Oper} {rest : List Oper} (hg : o.guard = none) (h : Wop E rd md o a H (fun a H => Wl E rd md ops Q rest a H) Q) : Wl E rd md ops Q (o :: rest) a H := by
  have : guardOk ops a o = some true := by simp [guardOk, hg]
  simp only [Wl, this]; exact ⟨fun _ => h, fun h => by simp at h⟩
theorem wl_guard {ops : Array Oper} {o : Oper} {rest : List Oper} {b : Bool} (hg : guardOk ops a o = some b) (h1 : b = true → Wop E rd md o a H (fun a H => Wl E rd md ops Q rest a H) Q) (h2 : b = false → Wl E rd md ops Q rest (a.put o.dst (.tup [])) H) : Wl E rd md ops Q (o :: rest) a H := by
  simp only [Wl, hg]; exact ⟨h1, h2⟩
theorem AAct.set_self {a : AAct} {d : Tmp} {b : Bool} (hv : a.tmps.getD d .top = .bool b) : (⟨a.tmps.set d (.bool b), a.defers⟩ : AAct) = a := by
  obtain ⟨ts, ds⟩ := a
  simp only at hv ⊢
  congr 1
  apply List.ext_getElem?
  intro i
  by_cases e : d = i
  · subst e
    rw [List.getElem?_set_self']
    rw [List.getD_eq_getElem?_getD] at hv
    cases h : ts[d]? with
    | none => rw [h] at hv; simp at hv
    | some u => rw [h] at hv; simp at hv; simp [hv]
  · rw [List.getElem?_set_ne e]
/-- A guard that is not known: two ways. -/
theorem wl_split {ops : Array Oper} {o : Oper} {rest : List Oper} {j : Nat} {want : Bool} (hg : o.guard = some (j, want)) {d : Tmp} (hd : (ops[j]?).bind (·.dst) = some d) {b : Bool} {ts0 : List AV} {ds : List ADef} (hv : ts0.getD d .top = .bool b) {ts1 ts2 : List AV} (hs1 : ts0.set d (.bool true) = ts1) (hs2 : ts0.set d (.bool false) = ts2)
    (h1 : b = true → Wl E rd md ops Q (o :: rest) ⟨ts1, ds⟩ H) (h2 : b = false → Wl E rd md ops Q (o :: rest) ⟨ts2, ds⟩ H) : Wl E rd md ops Q (o :: rest) ⟨ts0, ds⟩ H := by
  have : (⟨ts0.set d (.bool b), ds⟩ : AAct) = ⟨ts0, ds⟩ := AAct.set_self (a := ⟨ts0, ds⟩) hv
  cases b with
  | true => rw [← this, hs1]; exact h1 rfl
  | false => rw [← this, hs2]; exact h2 rfl
theorem wl_guard_t {ops : Array Oper} {o : Oper} {rest : List Oper} (hg : guardOk ops a o = some true) (h1 : Wop E rd md o a H (fun a H => Wl E rd md ops Q rest a H) Q) : Wl E rd md ops Q (o :: rest) a H := wl_guard hg (fun _ => h1) (fun h => by simp at h)
theorem wl_guard_f {ops : Array Oper} {o : Oper} {rest : List Oper} {ts0 : List AV} {ds : List ADef} (hg : guardOk ops ⟨ts0, ds⟩ o = some false) {d : Tmp} (hd : o.dst = some d) {ts : List AV} (hs : ts0.set d (.tup []) = ts) (h2 : Wl E rd md ops Q rest ⟨ts, ds⟩ H) : Wl E rd md ops Q (o :: rest) ⟨ts0, ds⟩ H := by
  refine wl_guard hg (fun h => by simp at h) fun _ => ?_
  rw [hd]; subst hs; exact h2

theorem wl_put {ops : Array Oper} {rest : List Oper} {x : Option Tmp} {d : Tmp} (hd : x = some d) {ts : List AV} (hs : a.tmps.set d (.tup []) = ts) (h2 : Wl E rd md ops Q rest ⟨ts, a.defers⟩ H) : Wl E rd md ops Q rest (a.put x (.tup [])) H := by
  rw [hd]; subst hs; exact h2

def pureOp : Op → Bool
  | .call c => match c.callee with | .builtin .append => false | .builtin _ => true | _ => false
  | .defer _ | .panic _ | .alloc _ | .box _ _ | .build _ _ | .buildSlice _ _ _ | .store _ _ _ | .range _ _ | .next _ _ => false
  | _ => true

def heapOp : Op → Bool
  | .alloc _ | .box _ _ | .build _ _ | .buildSlice _ _ _ | .store _ _ _ | .range _ _ | .next _ _ => true
  | _ => false

theorem wop_pure {o : Oper} {K : AAct → List AO → Prop} (hp : pureOp o.op = true) {v : AV} (hv : evPure E a H o = some v) (h : K (a.put o.dst v) H) : Wop E rd md o a H K Q := by
  unfold Wop
  cases hop : o.op <;> rw [hop] at hp <;> simp only [pureOp] at hp <;> try (simp at hp; done)
  case call c =>
    simp only
    cases hc : c.callee with
    | value f => rw [hc] at hp; simp at hp
    | invoke x y => rw [hc] at hp; simp at hp
    | builtin b =>
      rw [hc] at hp
      simp only
      cases b <;> first | (simp at hp; done) | (simp only [hv]; exact h)
  all_goals (simp only [hv]; exact h)

theorem wop_heap {o : Oper} {K : AAct → List AO → Prop} (hp : heapOp o.op = true) {v : AV} {H' : List AO} (hv : evHeap E md a H o = some (v, H')) (h : K (a.put o.dst v) H') : Wop E rd md o a H K Q := by
  unfold Wop
  cases hop : o.op <;> rw [hop] at hp <;> simp only [heapOp] at hp <;> first | (simp at hp; done) | (simp only [hv]; exact h)

theorem wop_convert {o : Oper} {K : AAct → List AO → Prop} {s d : TypeId} {x : Operand} (hp : o.op = .convert s d x) {v : AV} {H' : List AO} (h0 : evPure E a H o = none) (hv : evHeap E md a H o = some (v, H')) (h : K (a.put o.dst v) H') : Wop E rd md o a H K Q := by
  unfold Wop
  rw [hp]; simp only [h0, hv]; exact h

theorem wop_append {o : Oper} {K : AAct → List AO → Prop} {c : Call} (ho : o.op = .call c) (hc : c.callee = .builtin .append) {x y : Operand} {t t2 : TypeId} (hx : c.args = [x, y].toArray) (ht : c.argTypes = [t, t2].toArray) {i2 : TyI} (ht2 : E.ty t2 = some i2) (hi2 : (match i2.u with | .int _ => false | _ => true) = true)
    {v : AV} {H' : List AO} (hv : evAppend E H t (a.ev E.gl x) (a.ev E.gl y) = some (v, H')) (h : K (a.put o.dst v) H') : Wop E rd md o a H K Q := by
  unfold Wop
  rw [ho]
  simp only [hc, hx, ht, ht2]
  cases hi : i2.u <;> rw [hi] at hi2 <;> first | (simp at hi2; done) | (simp only [hv]; exact h)

theorem wop_call {o : Oper} {K : AAct → List AO → Prop} {c : Call} (ho : o.op = .call c) {f : Operand} (hc : c.callee = .value f) {fid : FuncId} {first cap : List AV} (hf : a.ev E.gl f = .fn fid first cap) {args : List AV} (ha : first ++ evCallArgs a E.gl c ++ cap = args)
    (h : ACall E fid args H (onEnd o a K Q)) : Wop E rd md o a H K Q := by
  unfold Wop
  rw [ho]
  simp only [hc, hf, ha]; exact h

theorem wop_yield {o : Oper} {K : AAct → List AO → Prop} {c : Call} (ho : o.op = .call c) {f : Operand} (hc : c.callee = .value f) {l : Nat} (hf : a.ev E.gl f = .yield l) {args : List AV} (ha : evCallArgs a E.gl c = args)
    (h : ARound E l args H (onEnd o a K Q)) : Wop E rd md o a H K Q := by
  unfold Wop
  rw [ho]
  simp only [hc, hf, ha]; exact h

theorem wop_defer {o : Oper} {K : AAct → List AO → Prop} {c : Call} (ho : o.op = .defer c) {f : Operand} (hc : c.callee = .value f) {fid : FuncId} {first cap : List AV} (hf : a.ev E.gl f = .fn fid first cap) {args : List AV} (ha : first ++ evCallArgs a E.gl c = args)
    (h : K ({ a with defers := .call fid args cap :: a.defers }.put o.dst .top) H) : Wop E none md o a H K Q := by
  unfold Wop
  rw [ho]
  simp only [hc, hf, ha]; exact h

theorem wop_panic {o : Oper} {K : AAct → List AO → Prop} {x : Operand} (ho : o.op = .panic x) {t : TypeId} {v : AV} (hx : a.ev E.gl x = .iface t v) (h : Q (.panic [{ v := .iface t v }]) a H) : Wop E rd md o a H K Q := by
  unfold Wop
  rw [ho]
  simp only [hx]; exact h

/-- An operation of one outcome: what stands in the temporaries afterwards is named. -/
theorem wl_pure {ops : Array Oper} {o : Oper} {rest : List Oper} {ts0 : List AV} {ds : List ADef} (hg : o.guard = none) (hp : pureOp o.op = true) {d : Tmp} (hd : o.dst = some d) {v : AV} (hv : evPure E ⟨ts0, ds⟩ H o = some v) {ts : List AV} (hs : ts0.set d v = ts) (h : Wl E rd md ops Q rest ⟨ts, ds⟩ H) : Wl E rd md ops Q (o :: rest) ⟨ts0, ds⟩ H := by
  refine wl_plain hg (wop_pure hp hv ?_)
  rw [hd]; subst hs; exact h
theorem wop_pure' {o : Oper} {K : AAct → List AO → Prop} {ts0 : List AV} {ds : List ADef} (hp : pureOp o.op = true) {d : Tmp} (hd : o.dst = some d) {v : AV} (hv : evPure E ⟨ts0, ds⟩ H o = some v) {ts : List AV} (hs : ts0.set d v = ts) (h : K ⟨ts, ds⟩ H) : Wop E rd md o ⟨ts0, ds⟩ H K Q := by
  refine wop_pure hp hv ?_
  rw [hd]; subst hs; exact h
theorem wop_heap' {o : Oper} {K : AAct → List AO → Prop} {ts0 : List AV} {ds : List ADef} (hp : heapOp o.op = true) {d : Tmp} (hd : o.dst = some d) {v : AV} {H' : List AO} (hv : evHeap E md ⟨ts0, ds⟩ H o = some (v, H')) {ts : List AV} (hs : ts0.set d v = ts) (h : K ⟨ts, ds⟩ H') : Wop E rd md o ⟨ts0, ds⟩ H K Q := by
  refine wop_heap hp hv ?_
  rw [hd]; subst hs; exact h
theorem wop_heap0 {o : Oper} {K : AAct → List AO → Prop} {ts0 : List AV} {ds : List ADef} (hp : heapOp o.op = true) (hd : o.dst = none) {v : AV} {H' : List AO} (hv : evHeap E md ⟨ts0, ds⟩ H o = some (v, H')) (h : K ⟨ts0, ds⟩ H') : Wop E rd md o ⟨ts0, ds⟩ H K Q := by
  refine wop_heap hp hv ?_
  rw [hd]; exact h
theorem wop_convert' {o : Oper} {K : AAct → List AO → Prop} {s t : TypeId} {x : Operand} {ts0 : List AV} {ds : List ADef} (hp : o.op = .convert s t x) {d : Tmp} (hd : o.dst = some d) {v : AV} {H' : List AO} (h0 : evPure E ⟨ts0, ds⟩ H o = none) (hv : evHeap E md ⟨ts0, ds⟩ H o = some (v, H')) {ts : List AV} (hs : ts0.set d v = ts) (h : K ⟨ts, ds⟩ H') : Wop E rd md o ⟨ts0, ds⟩ H K Q := by
  refine wop_convert hp h0 hv ?_
  rw [hd]; subst hs; exact h
theorem onEnd_ret {o : Oper} {K : AAct → List AO → Prop} {ts0 : List AV} {ds : List ADef} {d : Tmp} (hd : o.dst = some d) {v : AV} {ts : List AV} (hs : ts0.set d v = ts) (h : K ⟨ts, ds⟩ H) : onEnd o ⟨ts0, ds⟩ K Q (.ret v) H := by
  show K ((⟨ts0, ds⟩ : AAct).put o.dst v) H
  rw [hd]; subst hs; exact h
theorem onEnd_panic {o : Oper} {K : AAct → List AO → Prop} {ch : List APanic} (h : Q (.panic ch) a H) : onEnd o a K Q (.panic ch) H := h


/-! ### Leaving -/
theorem Out.now {N : Nat} {R : AE → List AO → Prop} {x : AE} {H : List AO} (h : R x H) : Out N R x H := ⟨x, fun _ _ h => h, .inl h⟩
theorem Out.of {N : Nat} {R : AE → List AO → Prop} {x : AE} {H : List AO} (hN : N ≤ H.length) (hf : Fit H.length H) (hx : x.within H.length = true) (h : R x H) : Out N R x H := .now h
theorem Out.junk {R : AE → List AO → Prop} {x : AE} {H : List AO} (l : List AO) (hf : Fit H.length H) (hx : x.within H.length = true) (h : R x H) : Out H.length R x (H ++ l) := ⟨x, fun _ _ h => h, .inr ⟨H, l, rfl, Nat.le_refl _, hf, hx, h⟩⟩
theorem Out.drop {N : Nat} {R : AE → List AO → Prop} {x : AE} {H : List AO} (l : List AO) (hN : N ≤ H.length) (hf : Fit H.length H) (hx : x.within H.length = true) (h : R x H) : Out N R x (H ++ l) := ⟨x, fun _ _ h => h, .inr ⟨H, l, rfl, hN, hf, hx, h⟩⟩
/-- Less may be said of what is handed back. -/
theorem Out.weak {N : Nat} {R : AE → List AO → Prop} {a b : AV} {H : List AO} (h : ∀ g c, VRel g a c → VRel g b c) (o : Out N R (.ret b) H) : Out N R (.ret a) H := by
  obtain ⟨y, h6, h1⟩ := o
  refine ⟨y, fun g e he => h6 g e ?_, h1⟩
  cases he with
  | ret hv => exact .ret (h g _ hv)
theorem sl_ro {n : Nat} {xs : List AV} {tok : Tok} (g : Ghost) (c : Value) (h : VRel g (.sl n xs tok) c) : VRel g (.sl n xs .ro) c := by
  cases h with
  | nsl _ _ => exact .nsl _ trivial
  | sl _ _ _ b o cap vs hn hk hv ht => exact .sl _ _ _ b o cap vs hn hk hv trivial
theorem fpost_ret {fn : Func} {R : AE → List AO → Prop} {ts : List AV} {v : AV} (hv : evResults E fn ts H = some v) (h : Out N R (.ret v) H) : FPost E N fn R .ret ⟨ts, []⟩ H := by
  simp only [FPost, ALeave, hv]; exact h
theorem fpost_normal {fn : Func} {R : AE → List AO → Prop} {ts : List AV} {v : AV} (hv : evResults E fn ts H = some v) (h : Out N R (.ret v) H) : FPost E N fn R .normal ⟨ts, []⟩ H := by
  simp only [FPost, ALeave, hv]; exact h
theorem fpost_panic {fn : Func} {R : AE → List AO → Prop} {ts : List AV} {ch : List APanic} (h : Out N R (.panic ch) H) : FPost E N fn R (.panic ch) ⟨ts, []⟩ H := h

end Go.Ab
