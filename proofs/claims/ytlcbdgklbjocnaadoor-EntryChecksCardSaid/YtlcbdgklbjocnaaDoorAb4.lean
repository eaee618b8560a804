/- The abstract view, 4: all operations that turn no memory. -/
import Derived.Test.YtlcbdgklbjocnaaDoorAb3
set_option linter.unusedVariables false
set_option linter.unusedSimpArgs false
namespace Go.Ab
open Go Go.RowKit

/-! ### Reading -/
def readCells (H : List AO) (n : Nat) : AV → Option (List AV)
  | .row xs => if n ≤ xs.length then some (xs.take n) else none
  | .ref id off => match H[id]? with
    | some (.cells xs) => if off + n ≤ xs.length then some ((xs.drop off).take n) else none
    | _ => none
  | _ => none

theorem add_none (b o n : Nat) : (⟨b, o, none⟩ : Addr).add n = ⟨b, o + n, none⟩ := by
  unfold Addr.add
  split
  · rename_i h; subst h; rfl
  · rfl

theorem cell_of_heap {w : World} {b : Nat} {cs : Array Value} {T : TypeId} {fz : Nat × Nat} (h : w.heap[b]? = some (.cells cs T fz)) (o : Nat) : w.cell? ⟨b, o, none⟩ = cs[o]? := by
  simp [World.cell?, h]

theorem readCells_rel {E : Env} {g : Ghost} {H : List AO} {w : World} (hr : E.Rep g H w) {n : Nat} {v : AV} {c : Value} {xs : List AV} (h : readCells H n v = some xs) (hv : VRel g v c) :
    ∃ (b o : Nat) (vs : Nat → Value), c = .pointer (some ⟨b, o, none⟩) ∧ xs.length = n ∧ (∀ i, i < n → w.cell? ⟨b, o + i, none⟩ = some (vs i)) ∧ ∀ i, VRel g (xs.getD i .top) (vs i) := by
  cases v with
  | row ys =>
    simp only [readCells] at h
    split at h
    · rename_i hle; injection h with h; subst h
      cases hv with
      | row _ b o vs hk hv =>
        refine ⟨b, o, vs, rfl, by simp; omega, fun i hi => hr.know _ _ _ (hk i (by omega)), fun i => ?_⟩
        simp only [List.getD_eq_getElem?_getD, List.getElem?_take]
        split
        · simpa only [List.getD_eq_getElem?_getD] using hv i
        · exact .top _
    · simp at h
  | ref id off =>
    simp only [readCells] at h
    split at h
    · rename_i ys hH
      split at h
      · rename_i hle; injection h with h; subst h
        obtain ⟨b', cs, T, fz, hb, hn0, hh, hsz, hvs, hfz, hK⟩ := hr.objs _ _ hH
        cases hv with
        | ref _ _ b e =>
          rw [hb] at e; injection e with e; subst e
          refine ⟨b', off, fun i => cs.getD (off + i) undef, rfl, by simp; omega, fun i hi => ?_, fun i => ?_⟩
          · rw [cell_of_heap hh]
            rw [Array.getElem?_eq_getElem (by omega)]
            simp [Array.getD_eq_getD_getElem?, Array.getElem?_eq_getElem (show off + i < cs.size by omega)]
          · simp only [List.getD_eq_getElem?_getD, List.getElem?_take, List.getElem?_drop]
            split
            · have := hvs (off + i); simpa only [List.getD_eq_getElem?_getD] using this
            · exact .top _
      · simp at h
    · simp at h
  | _ => simp [readCells] at h

theorem loadCells_run {P : Program} {w : World} {b o n : Nat} {vs : Nat → Value} (h : ∀ i, i < n → w.cell? ⟨b, o + i, none⟩ = some (vs i)) :
    (loadCells ⟨b, o, none⟩ n).run P w = .ok ((List.range n).map vs).toArray w := by
  have := run_loadCells (P := P) (w := w) ⟨b, o, none⟩ n vs (fun j hj => by rw [add_none]; exact h j hj)
  rw [this]

/-- What is read of a type. -/
def mkVal (i : TyI) (xs : List AV) : AV := if i.isAgg then .agg xs else xs.headD .top

theorem isAgg_run {E : Env} {t : TypeId} {i : TyI} (h : E.ty t = some i) (w : World) : (isAgg t).run E.P w = .ok i.isAgg w := by
  obtain ⟨d, hd, hu⟩ := und_of h
  simp only [isAgg, Sem.run_bind, run_und hd, Result.andThen_ok]
  unfold TyI.isAgg
  cases hi : i.u with
  | struct fs => rw [hi] at hu; obtain ⟨fields, rfl, _⟩ := hu; rfl
  | arr n e => rw [hi] at hu; simp only [URel] at hu; subst hu; rfl
  | other => rw [hi] at hu; simp only [URel] at hu; cases d <;> first | rfl | exact hu.elim
  | ptr => rw [hi] at hu; obtain ⟨e, rfl⟩ := hu; rfl
  | iface a => rw [hi] at hu; obtain ⟨ms, rfl, _⟩ := hu; rfl
  | func => rw [hi] at hu; obtain ⟨ps, rs, v, rfl⟩ := hu; rfl
  | _ => rw [hi] at hu; simp only [URel] at hu; subst hu; rfl

theorem sizeOf_run {E : Env} {t : TypeId} {i : TyI} (h : E.ty t = some i) (w : World) : (sizeOf t).run E.P w = .ok i.size w := by
  obtain ⟨z, inf, h1, h2, h3, _⟩ := (E.ok t i h).info
  simp [sizeOf, typeInfo, h1, h3]

theorem load_sound {E : Env} {g : Ghost} {H : List AO} {w : World} (hr : E.Rep g H w) {t : TypeId} {i : TyI} (ht : E.ty t = some i) {v : AV} {c : Value} {xs : List AV} (h : readCells H i.size v = some xs) (hv : VRel g v c) :
    ∃ u, (Instr.loadAt t c).run E.P w = .ok u w ∧ VRel g (mkVal i xs) u := by
  obtain ⟨b, o, vs, rfl, hl, hc, hvs⟩ := readCells_rel hr h hv
  simp only [Instr.loadAt, Instr.sureAddr, loadVar, Sem.run_bind, Sem.run_pure, Result.andThen_ok, isAgg_run ht]
  unfold mkVal
  cases hi : i.isAgg with
  | true =>
    simp only [if_true]
    rw [Sem.run_bind, sizeOf_run ht, Result.andThen_ok, Sem.run_bind, loadCells_run hc, Result.andThen_ok]
    refine ⟨_, rfl, .agg _ _ (by simp [hl]) fun k => ?_⟩
    by_cases hk : k < i.size
    · have := hvs k
      simpa [Array.getD_eq_getD_getElem?, hk] using this
    · have : xs.getD k .top = .top := by simp [List.getD_eq_getElem?_getD, List.getElem?_eq_none (show xs.length ≤ k by omega)]
      rw [this]; exact .top _
  | false =>
    simp only [if_false, Bool.false_eq_true]
    obtain ⟨z, inf, _, _, _, _, _, _, _, hz, _⟩ := (E.ok t i ht).info
    have h1 := (hz hi).2
    have h0 := hc 0 (by omega)
    rw [Nat.add_zero] at h0
    refine ⟨vs 0, by simp [run_load, h0], ?_⟩
    have := hvs 0
    rw [List.headD_eq_head?_getD, List.head?_eq_getElem?]
    simpa only [List.getD_eq_getElem?_getD] using this

/-! ### All that only compute -/
/-- The bytes of cells. -/
def unbytes : List AV → Option (List UInt8)
  | [] => some []
  | .int .u8 n :: xs => (unbytes xs).map (UInt8.ofNat n.toNat :: ·)
  | _ :: _ => none

def asInt? : AV → Option Int
  | .int _ n => some n
  | _ => none

/-- A bound of a slice expression. -/
def evBound (a : AAct) (gl : Nat → List AV) (x : Option Operand) (dflt : Nat) : Option Nat :=
  match x with
  | none => some dflt
  | some o => match a.ev gl o with
    | .int _ n => if 0 ≤ n then some n.toNat else none
    | _ => none

def evSlice (E : Env) (t : TypeId) (x : AV) (lo : Option Nat) (hi : Nat → Option Nat) : Option AV :=
  match E.ty t with
  | none => none
  | some ti => match ti.u, x with
    | .str, .str s => match lo, hi s.length with
      | some l, some h => if l ≤ h ∧ h ≤ s.length then some (.str ((s.take h).drop l)) else none
      | _, _ => none
    | .sl e, .sl n xs tok => match E.ty e, lo, hi n with
      | some i, some l, some h => if l ≤ h ∧ h ≤ n ∧ xs.length = n * i.size then some (.sl (h - l) ((xs.take (h * i.size)).drop (l * i.size)) (if h = n then tok else .ro)) else none
      | _, _, _ => none
    | .sl e, .msl id off n => match E.ty e, lo, hi n with
      | some i, some l, some h => if l ≤ h ∧ h ≤ n then some (.msl id (off + l * i.size) (h - l)) else none
      | _, _, _ => none
    | .arr n e, .ref id off => match E.ty e, lo, hi n with
      | some i, some l, some h => if l ≤ h ∧ h ≤ n then some (.msl id (off + l * i.size) (h - l)) else none
      | _, _, _ => none
    | .arr n e, .row xs => match E.ty e, lo, hi n with
      | some i, some l, some h => if l ≤ h ∧ h ≤ n ∧ n * i.size ≤ xs.length then some (.sl (h - l) ((xs.take (h * i.size)).drop (l * i.size)) .ro) else none
      | _, _, _ => none
    | _, _ => none

def evField (E : Env) (s : TypeId) (f : Nat) : Option (Nat × TyI) :=
  match E.ty s with
  | some ⟨.struct fs, _, _, _⟩ => match fs[f]? with
    | some (off, ft) => (E.ty ft).map fun i => (off, i)
    | none => none
  | _ => none

def evIndexAddr (E : Env) (t : TypeId) (x : AV) (k : Int) : Option AV :=
  if 0 ≤ k then
    match E.ty t with
    | some ⟨.sl e, _, _, _⟩ => match E.ty e, x with
      | some i, .sl n xs _ => if k < n then some (.row (xs.drop (k.toNat * i.size))) else none
      | some i, .msl id off n => if k < n then some (.ref id (off + k.toNat * i.size)) else none
      | _, _ => none
    | some ⟨.arr n e, _, _, _⟩ => match E.ty e, x with
      | some i, .row xs => if k < n then some (.row (xs.drop (k.toNat * i.size))) else none
      | some i, .ref id off => if k < n then some (.ref id (off + k.toNat * i.size)) else none
      | _, _ => none
    | _ => none
  else none

def evConv (E : Env) (H : List AO) (src dst : TypeId) (x : AV) : Option AV :=
  match E.ty src, E.ty dst with
  | some i, some j => match i.u, j.u, x with
    | .int _, .int k, .int _ n => some (.int k (k.wrap n))
    | .str, .str, .str s => some (.str s)
    | .sl e, .str, .sl n xs _ => match E.ty e with
      | some ⟨.int .u8, _, _, _⟩ => if xs.length = n then (unbytes xs).map .str else none
      | _ => none
    | .sl e, .str, .msl id off n => match E.ty e, readCells H n (.ref id off) with
      | some ⟨.int .u8, _, _, _⟩, some xs => (unbytes xs).map .str
      | _, _ => none
    | _, _, _ => none
  | _, _ => none

def evUn (op : UnOp) (x : AV) : Option AV :=
  match op, x with
  | .not, .bool b => some (.bool (!b))
  | .neg, .int k n => some (.int k (k.wrap (0 - n)))
  | .xor, .int k n => some (.int k (bitsOf .xor k (if k.signed then -1 else k.max) n))
  | _, _ => none

def evLen : UT → AV → Option AV
  | .str, .str s => some (.int .i64 s.length)
  | .sl _, .sl n _ _ => some (.int .i64 n)
  | .sl _, .msl _ _ n => some (.int .i64 n)
  | .map _ _, .nilmap => some (.int .i64 0)
  | _, _ => none

def evBuiltin (E : Env) (a : AAct) (c : Call) : Option AV :=
  match c.callee with
  | .builtin b => match b, c.args.toList, c.argTypes.toList with
    | .len, [x], [t] => match E.ty t with
      | some i => evLen i.u (a.ev E.gl x)
      | none => none
    | .min, [x, y], _ => match a.ev E.gl x, a.ev E.gl y with
      | .int k m, .int k' n => if k = k' then some (.int k (if n < m then n else m)) else none
      | _, _ => none
    | .max, [x, y], _ => match a.ev E.gl x, a.ev E.gl y with
      | .int k m, .int k' n => if k = k' then some (.int k (if n > m then n else m)) else none
      | _, _ => none
    | _, _, _ => none
  | _ => none

def evPure (E : Env) (a : AAct) (H : List AO) (o : Oper) : Option AV :=
  match o.op with
  | .move x | .assign x => some (a.ev E.gl x)
  | .pick c x y => match a.ev E.gl c with
    | .bool b => some (if b then a.ev E.gl x else a.ev E.gl y)
    | _ => none
  | .load t ad => match E.ty t with
    | some i => (readCells H i.size (a.ev E.gl ad)).map (mkVal i)
    | none => none
  | .nilCheck x => match a.ev E.gl x with
    | .ref id off => some (.ref id off)
    | .row xs => some (.row xs)
    | .fn f as cs => some (.fn f as cs)
    | _ => none
  | .binOp op t x y _ => evBin E op t x y (a.ev E.gl x) (a.ev E.gl y)
  | .unOp op _ x => evUn op (a.ev E.gl x)
  | .convert src dst x => evConv E H src dst (a.ev E.gl x)
  | .makeInterface t x => match E.ty t with
    | some i => match i.u with
      | .iface _ => none
      | _ => some (.iface t (a.ev E.gl x))
    | none => none
  | .makeFunc (.func f) first cap => some (.fn f (first.toList.map (a.ev E.gl)) (cap.toList.map (a.ev E.gl)))
  | .slice t x lo hi none => evSlice E t (a.ev E.gl x) (evBound a E.gl lo 0) (fun n => evBound a E.gl hi n)
  | .fieldAddr s x f => match evField E s f with
    | some (off, i) => if i.size = 0 then none else match a.ev E.gl x with
      | .ref id o => some (.ref id (o + off))
      | .row xs => some (.row (xs.drop off))
      | _ => none
    | none => none
  | .field s x f => match evField E s f, a.ev E.gl x with
    | some (off, i), .agg xs => if off + i.size ≤ xs.length then some (mkVal i ((xs.drop off).take i.size)) else none
    | _, _ => none
  | .indexAddr t x k => match a.ev E.gl k with
    | .int _ n => evIndexAddr E t (a.ev E.gl x) n
    | _ => none
  | .index t x k => match E.ty t, a.ev E.gl x, a.ev E.gl k with
    | some ⟨.str, _, _, _⟩, .str s, .int _ n => if 0 ≤ n ∧ n < s.length then some (byteAV (s.getD n.toNat 0)) else none
    | some ⟨.arr m e, _, _, _⟩, .agg xs, .int _ n => match E.ty e with
      | some i => if 0 ≤ n ∧ n < m ∧ n.toNat * i.size + i.size ≤ xs.length then some (mkVal i ((xs.drop (n.toNat * i.size)).take i.size)) else none
      | none => none
    | _, _, _ => none
  | .typeAssert x _ t ok => match a.ev E.gl x, E.ty t with
    | .iface u v, some i => match i.u with
      | .iface _ => none
      | _ => if u = t then some (if ok then .tup [v, .bool true] else v) else if ok then some (.tup [mkVal i i.zero, .bool false]) else none
    | _, _ => none
  | .extract t k => match a.ev E.gl t with
    | .tup xs => xs[k]?
    | _ => none
  | .call c => evBuiltin E a c
  | _ => none

end Go.Ab
