/- The ground of an abstract view of the machine's memory: abstract values, abstract objects, how they stand for values and worlds, and that this is kept when the ghost grows. -/
import Derived.RangeFuncLeaves
import Derived.Laws.Sem
import Derived.Laws.World
import Derived.Laws.Cells
import Derived.Below
namespace Go.Ab
open Go Go.RowKit

/-- What is known of the room behind a slice: nothing may be appended (ro), there is none (full), it is that of a token at a count (at). -/
inductive Tok where
  | ro
  | full
  | at (t e : Nat)
  deriving DecidableEq, Inhabited

/-- Abstract values. -/
inductive AV where
  | top
  | bool (b : Bool)
  | int (k : IntKind) (n : Int)
  | str (s : List UInt8)
  | nilp
  | ref (id off : Nat)
  | row (xs : List AV)
  | sl (n : Nat) (xs : List AV) (tok : Tok)
  | msl (id off n : Nat)
  | map (id : Nat)
  | nilmap
  | fn (f : FuncId) (first cap : List AV)
  | yield (id : Nat)
  | nilfn
  | iface (t : TypeId) (v : AV)
  | nili
  | agg (xs : List AV)
  | tup (xs : List AV)
  deriving Inhabited

/-- Room behind a token: block, the first free cell, how many elements. -/
structure TI where
  b : Nat
  pos : Nat
  spare : Nat

structure Ghost where
  K : Nat → Nat → Option Value
  phi : List Nat
  tok : Nat → Nat → Option TI

def TokOk (g : Ghost) : Tok → Nat → Nat → Nat → Prop
  | .ro, _, _, _ => True
  | .full, _, _, spare => spare = 0
  | .at t e, b, pos, spare => ∃ ti, g.tok t e = some ti ∧ ti.spare = spare ∧ (spare = 0 ∨ ti.b = b ∧ ti.pos = pos)

def TokN (g : Ghost) : Tok → Prop
  | .at t e => ∃ ti, g.tok t e = some ti ∧ ti.spare = 0
  | _ => True

/-- An abstract value stands for a value. -/
inductive VRel (g : Ghost) : AV → Value → Prop
  | top (v : Value) : VRel g .top v
  | bool (b : Bool) : VRel g (.bool b) (.bool b)
  | int (k : IntKind) (n : Int) : VRel g (.int k n) (.int k n)
  | str (s : List UInt8) (b : ByteArray) (h : b.data.toList = s) : VRel g (.str s) (.string b)
  | nilp : VRel g .nilp (.pointer none)
  | ref (id off b : Nat) (h : g.phi[id]? = some b) : VRel g (.ref id off) (.pointer (some ⟨b, off, none⟩))
  | row (xs : List AV) (b o : Nat) (vs : Nat → Value) (hk : ∀ i, i < xs.length → g.K b (o + i) = some (vs i)) (hv : ∀ i, VRel g (xs.getD i .top) (vs i)) : VRel g (.row xs) (.pointer (some ⟨b, o, none⟩))
  | nsl (tok : Tok) (h : TokN g tok) : VRel g (.sl 0 [] tok) (.slice none 0 0)
  | sl (n : Nat) (xs : List AV) (tok : Tok) (b o cap : Nat) (vs : Nat → Value) (hn : n ≤ cap) (hk : ∀ i, i < xs.length → g.K b (o + i) = some (vs i)) (hv : ∀ i, VRel g (xs.getD i .top) (vs i))
      (ht : TokOk g tok b (o + xs.length) (cap - n)) : VRel g (.sl n xs tok) (.slice (some ⟨b, o, none⟩) n cap)
  | msl (id off n b off' cap : Nat) (h : g.phi[id]? = some b) (hn : n ≤ cap) (ho : n = 0 ∨ off' = off) : VRel g (.msl id off n) (.slice (some ⟨b, off', none⟩) n cap)
  | map (id b : Nat) (h : g.phi[id]? = some b) : VRel g (.map id) (.map (some b))
  | nilmap : VRel g .nilmap (.map none)
  | fn (f : FuncId) (first cap : List AV) (fs cs : Array Value) (hl : fs.size = first.length) (hf : ∀ i, VRel g (first.getD i .top) (fs.getD i undef))
      (hm : cs.size = cap.length) (hc : ∀ i, VRel g (cap.getD i .top) (cs.getD i undef)) : VRel g (.fn f first cap) (.func (.func f) fs cs)
  | yield (id b : Nat) (h : g.phi[id]? = some b) : VRel g (.yield id) (.func (.yield b) #[] #[])
  | nilfn : VRel g .nilfn .nilFunc
  | iface (t : TypeId) (v : AV) (c : Value) (h : VRel g v c) : VRel g (.iface t v) (.iface t c)
  | nili : VRel g .nili .nilIface
  | agg (xs : List AV) (cs : Array Value) (hl : cs.size = xs.length) (hv : ∀ i, VRel g (xs.getD i .top) (cs.getD i undef)) : VRel g (.agg xs) (.agg cs)
  | tup (xs : List AV) (cs : Array Value) (hl : cs.size = xs.length) (hv : ∀ i, VRel g (xs.getD i .top) (cs.getD i undef)) : VRel g (.tup xs) (.tuple cs)

/-- Lists of abstract values and arrays of values. -/
def VRels (g : Ghost) (xs : List AV) (cs : Array Value) : Prop := cs.size = xs.length ∧ ∀ i, VRel g (xs.getD i .top) (cs.getD i undef)

/-- The ghost grows. -/
structure GLe (g g' : Ghost) : Prop where
  K : ∀ b o v, g.K b o = some v → g'.K b o = some v
  phi : ∀ i b : Nat, g.phi[i]? = some b → g'.phi[i]? = some b
  tok : ∀ t e ti, g.tok t e = some ti → g'.tok t e = some ti

theorem GLe.refl (g : Ghost) : GLe g g := ⟨fun _ _ _ h => h, fun _ _ h => h, fun _ _ _ h => h⟩
theorem GLe.trans {a b c : Ghost} (h : GLe a b) (k : GLe b c) : GLe a c :=
  ⟨fun x y v e => k.K _ _ _ (h.K x y v e), fun i x e => k.phi _ _ (h.phi i x e), fun t e ti x => k.tok _ _ _ (h.tok t e ti x)⟩

theorem TokOk.mono {g g' : Ghost} (h : GLe g g') {tok : Tok} {b pos spare : Nat} (k : TokOk g tok b pos spare) : TokOk g' tok b pos spare := by
  cases tok with
  | ro => trivial
  | full => exact k
  | «at» t e => obtain ⟨ti, h1, h2⟩ := k; exact ⟨ti, h.tok _ _ _ h1, h2⟩

theorem TokN.mono {g g' : Ghost} (h : GLe g g') {tok : Tok} (k : TokN g tok) : TokN g' tok := by
  cases tok with
  | ro => trivial
  | full => trivial
  | «at» t e => obtain ⟨ti, h1, h2⟩ := k; exact ⟨ti, h.tok _ _ _ h1, h2⟩

theorem VRel.mono {g g' : Ghost} (h : GLe g g') {v : AV} {c : Value} (r : VRel g v c) : VRel g' v c := by
  induction r with
  | top v => exact .top v
  | bool b => exact .bool b
  | int k n => exact .int k n
  | str s b h => exact .str s b h
  | nilp => exact .nilp
  | ref id off b e => exact .ref id off b (h.phi _ _ e)
  | row xs b o vs hk hv ih => exact .row xs b o vs (fun i hi => h.K _ _ _ (hk i hi)) ih
  | nsl tok e => exact .nsl tok (e.mono h)
  | sl n xs tok b o cap vs hn hk hv ht ih => exact .sl n xs tok b o cap vs hn (fun i hi => h.K _ _ _ (hk i hi)) ih (ht.mono h)
  | msl id off n b off' cap e hn ho => exact .msl id off n b off' cap (h.phi _ _ e) hn ho
  | map id b e => exact .map id b (h.phi _ _ e)
  | nilmap => exact .nilmap
  | fn f first cap fs cs hl hf hm hc ih1 ih2 => exact .fn f first cap fs cs hl ih1 hm ih2
  | yield id b e => exact .yield id b (h.phi _ _ e)
  | nilfn => exact .nilfn
  | iface t v c _ ih => exact .iface t v c ih
  | nili => exact .nili
  | agg xs cs hl _ ih => exact .agg xs cs hl ih
  | tup xs cs hl _ ih => exact .tup xs cs hl ih

theorem VRels.mono {g g' : Ghost} (h : GLe g g') {xs : List AV} {cs : Array Value} (r : VRels g xs cs) : VRels g' xs cs := ⟨r.1, fun i => (r.2 i).mono h⟩

/-- Abstract objects of memory. -/
inductive AO where
  | dead
  | cells (xs : List AV)
  | tail (sz e : Nat)
  | iter (s : List UInt8) (pos : Nat)
  | loop (st : LoopState) (pending : Option Code) (fn : FuncId) (tmps : List AV) (params : Array Tmp) (assign body : Code) (defers : Nat)
  | defr
  | map (es : List (AV × AV)) (clock : Nat)
  deriving Inhabited

/-- The block that an object owns. -/
def own (g : Ghost) (H : List AO) (i : Nat) : Option Nat :=
  match H[i]? with
  | none | some .dead => none
  | some (.tail _ e) => match g.tok i e with
    | some ti => if ti.spare = 0 then none else some ti.b
    | none => none
  | some _ => g.phi[i]?

def ORep (g : Ghost) (n0 : Nat) (w : World) (i : Nat) : AO → Prop
  | .dead => True
  | .cells xs => ∃ b cs T fz, g.phi[i]? = some b ∧ n0 ≤ b ∧ w.heap[b]? = some (.cells cs T fz) ∧ xs.length ≤ cs.size ∧ (∀ k, VRel g (xs.getD k .top) (cs.getD k undef)) ∧
      (∀ k, k < xs.length → ¬ (fz.1 ≤ k ∧ k < fz.2)) ∧ ∀ o, g.K b o = none
  | .tail sz e => ∃ ti, g.tok i e = some ti ∧ (∀ e', e < e' → g.tok i e' = none) ∧ (ti.spare = 0 ∨ ∃ cs T fz, n0 ≤ ti.b ∧ w.heap[ti.b]? = some (.cells cs T fz) ∧ ti.pos + ti.spare * sz ≤ cs.size ∧
      (∀ k, ti.pos ≤ k → k < ti.pos + ti.spare * sz → ¬ (fz.1 ≤ k ∧ k < fz.2)) ∧ ∀ o, ti.pos ≤ o → g.K ti.b o = none)
  | .iter s pos => ∃ b t, g.phi[i]? = some b ∧ n0 ≤ b ∧ w.heap[b]? = some (.stringIter t pos) ∧ t.data.toList = s
  | .loop st pe f tmps ps asg body d => ∃ b cs db, g.phi[i]? = some b ∧ n0 ≤ b ∧ g.phi[d]? = some db ∧ VRels g tmps cs ∧
      w.heap[b]? = some (.loop { state := st, pending := pe, fn := f, tmps := cs, params := ps, assign := asg, body := body, defers := db })
  | .defr => ∃ b, g.phi[i]? = some b ∧ n0 ≤ b ∧ w.heap[b]? = some (.deferred (some []))
  | .map es clock => ∃ b ms, g.phi[i]? = some b ∧ n0 ≤ b ∧ w.heap[b]? = some (.map ms clock) ∧ ms.size = es.length ∧
      ∀ k m, ms[k]? = some m → VRel g ((es.getD k (.top, .top)).1) m.key ∧ VRel g ((es.getD k (.top, .top)).2) m.val ∧ m.born < clock

/-- An abstract heap stands for a world: what lay below n0 lies as it lay in w0; what is known holds; each object is there; no block has two owners. -/
structure Rep (n0 : Nat) (w0 : World) (gl : Nat → List AV) (g : Ghost) (H : List AO) (w : World) : Prop where
  below : Below n0 w0 w
  n0le : n0 ≤ w0.heap.size
  know : ∀ b o v, g.K b o = some v → w.cell? ⟨b, o, none⟩ = some v
  len : g.phi.length = H.length
  beyond : ∀ t e, H.length ≤ t → g.tok t e = none
  objs : ∀ i o, H[i]? = some o → ORep g n0 w i o
  apart : ∀ i j b, own g H i = some b → own g H j = some b → i = j
  glob : ∀ i, VRel g (.row (gl i)) (.pointer (some ⟨i, 0, none⟩))

end Go.Ab
