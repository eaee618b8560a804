/- The abstract view, 3: operations that only compute: what they come to over abstract values, and that it is so. -/
import Derived.Test.YtlcbdgklbjocnaaDoorAb2
import Derived.Laws.BytesString
set_option linter.unusedVariables false
set_option linter.unusedSimpArgs false
namespace Go.Ab
open Go Go.RowKit

def byteAV (b : UInt8) : AV := .int .u8 (b.toNat : Int)
def bytesAV (s : List UInt8) : List AV := s.map byteAV

def AV.one : AV → Bool
  | .top | .agg _ | .tup _ => false
  | _ => true

def cellsOf : AV → List AV
  | .agg xs => xs
  | v => [v]

/-! ### Numbers, strings -/
def bitsOf (op : BinOp) (k : IntKind) (x y : Int) : Int :=
  k.wrap (match op with
    | .and => ((BitVec.ofInt k.bits x &&& BitVec.ofInt k.bits y).toNat : Int)
    | .or => ((BitVec.ofInt k.bits x ||| BitVec.ofInt k.bits y).toNat : Int)
    | .xor => ((BitVec.ofInt k.bits x ^^^ BitVec.ofInt k.bits y).toNat : Int)
    | _ => ((BitVec.ofInt k.bits x &&& ~~~ BitVec.ofInt k.bits y).toNat : Int))

def evInt (op : BinOp) (k : IntKind) (x y : Int) : Option AV :=
  match op with
  | .add => some (.int k (k.wrap (x + y)))
  | .sub => some (.int k (k.wrap (x - y)))
  | .mul => some (.int k (k.wrap (x * y)))
  | .quo => if y = 0 then none else some (.int k (k.wrap (x.tdiv y)))
  | .rem => if y = 0 then none else some (.int k (x.tmod y))
  | .and => some (.int k (bitsOf .and k x y))
  | .or => some (.int k (bitsOf .or k x y))
  | .xor => some (.int k (bitsOf .xor k x y))
  | .andNot => some (.int k (bitsOf .andNot k x y))
  | .eql => some (.bool (decide (x = y)))
  | .neq => some (.bool (!decide (x = y)))
  | .lss => some (.bool (decide (x < y)))
  | .leq => some (.bool (decide (x ≤ y)))
  | .gtr => some (.bool (decide (x > y)))
  | .geq => some (.bool (decide (x ≥ y)))
  | _ => none

def evStr (op : BinOp) (x y : List UInt8) : Option AV :=
  match op with
  | .add => if x.length + y.length ≤ 9223372036854775807 then some (.str (x ++ y)) else none
  | .eql => some (.bool (decide (x = y)))
  | .neq => some (.bool (!decide (x = y)))
  | .lss => some (.bool (Op.bytesLess x y))
  | .leq => some (.bool (Op.bytesLess x y || decide (x = y)))
  | .gtr => some (.bool (!(Op.bytesLess x y || decide (x = y))))
  | .geq => some (.bool (!Op.bytesLess x y))
  | _ => none

/-- Equality of values that are not of one number's kind and no strings. -/
def evEq (u : UT) (x y : AV) : Option Bool :=
  match u, x, y with
  | .bool, .bool a, .bool b => some (decide (a = b))
  | .ptr, .nilp, .nilp => some true
  | .ptr, .nilp, .ref _ _ | .ptr, .ref _ _, .nilp | .ptr, .nilp, .row _ | .ptr, .row _, .nilp => some false
  | .iface _, .nili, .iface _ _ | .iface _, .iface _ _, .nili => some false
  | .iface _, .nili, .nili => some true
  | .func, .nilfn, .nilfn => some true
  | .func, .nilfn, .fn _ _ _ | .func, .fn _ _ _, .nilfn => some false
  | .map _ _, .nilmap, .nilmap => some true
  | .map _ _, .nilmap, .map _ | .map _ _, .map _, .nilmap => some false
  | _, _, _ => none

def isConstOp : Operand → Bool
  | .const _ => true
  | _ => false

def AV.isNili : AV → Bool
  | .nili => true
  | _ => false

def evCmp (E : Env) (t : TypeId) (ox oy : Operand) (x y : AV) : Option Bool :=
  match E.ty t with
  | none => none
  | some i => if (isConstOp ox || isConstOp oy) || !(x.isNili && y.isNili) then evEq i.u x y else none

def evArith (op : BinOp) (k : IntKind) (a : Int) (k' : IntKind) (b : Int) : Option AV :=
  match op with
  | .shl => if b < 0 then none else some (.int k (k.wrap (a * 2 ^ (min b.toNat k.bits))))
  | .shr => if b < 0 then none else some (.int k (a.fdiv (2 ^ (min b.toNat k.bits))))
  | op => if k = k' then evInt op k a b else none

def evBin (E : Env) (op : BinOp) (t : TypeId) (ox oy : Operand) (x y : AV) : Option AV :=
  match x, y with
  | .int k a, .int k' b => evArith op k a k' b
  | .str a, .str b => evStr op a b
  | x, y => match op with
    | .eql => (evCmp E t ox oy x y).map .bool
    | .neq => (evCmp E t ox oy x y).map fun b => .bool (!b)
    | _ => none

theorem und_of {E : Env} {t : TypeId} {i : TyI} (h : E.ty t = some i) : ∃ d, E.P.underlying t = some d ∧ URel E.P i.u d := (E.ok t i h).und

theorem run_und {E : Env} {t : TypeId} {d : TypeDesc} (h : E.P.underlying t = some d) (w : World) : (underlying t).run E.P w = .ok d w := by
  simp [underlying, h]

theorem run_intOp (P : Program) (w : World) (op : BinOp) (t : TypeId) (k : IntKind) (a b : Int) {v : AV} (h : evInt op k a b = some v) :
    ∃ c, (binOp op t (.int k a) (.int k b)).run P w = .ok c w ∧ ∀ g, VRel g v c := by
  cases op with
  | add => injection h with h; subst h; exact ⟨_, by simp [binOp, Op.intArith], fun g => .int _ _⟩
  | sub => injection h with h; subst h; exact ⟨_, by simp [binOp, Op.intArith], fun g => .int _ _⟩
  | mul => injection h with h; subst h; exact ⟨_, by simp [binOp, Op.intArith], fun g => .int _ _⟩
  | quo =>
    by_cases hb : b = 0
    · simp [evInt, hb] at h
    · simp only [evInt, if_neg hb] at h; injection h with h; subst h; exact ⟨_, by simp [binOp, Op.intDiv, hb], fun g => .int _ _⟩
  | rem =>
    by_cases hb : b = 0
    · simp [evInt, hb] at h
    · simp only [evInt, if_neg hb] at h; injection h with h; subst h; exact ⟨_, by simp [binOp, Op.intDiv, hb], fun g => .int _ _⟩
  | and => injection h with h; subst h; exact ⟨_, by simp [binOp, Op.intBits]; rfl, fun g => by simp only [bitsOf]; exact .int _ _⟩
  | or => injection h with h; subst h; exact ⟨_, by simp [binOp, Op.intBits]; rfl, fun g => by simp only [bitsOf]; exact .int _ _⟩
  | xor => injection h with h; subst h; exact ⟨_, by simp [binOp, Op.intBits]; rfl, fun g => by simp only [bitsOf]; exact .int _ _⟩
  | andNot => injection h with h; subst h; exact ⟨.int k (bitsOf .andNot k a b), by simp [binOp, Op.intBits, bitsOf], fun g => .int _ _⟩
  | shl => simp [evInt] at h
  | shr => simp [evInt] at h
  | eql => injection h with h; subst h; exact ⟨.bool (decide (a = b)), by simp [binOp, Op.intCmp]; rfl, fun g => .bool _⟩
  | neq => injection h with h; subst h; exact ⟨.bool (!decide (a = b)), by simp [binOp, Op.intCmp]; rfl, fun g => .bool _⟩
  | lss => injection h with h; subst h; exact ⟨_, by simp [binOp, Op.intCmp], fun g => .bool _⟩
  | leq => injection h with h; subst h; exact ⟨_, by simp [binOp, Op.intCmp], fun g => .bool _⟩
  | gtr => injection h with h; subst h; exact ⟨_, by simp [binOp, Op.intCmp], fun g => .bool _⟩
  | geq => injection h with h; subst h; exact ⟨_, by simp [binOp, Op.intCmp], fun g => .bool _⟩

theorem beq_dec (a b : List UInt8) : (a == b) = decide (a = b) := by rw [Bool.eq_iff_iff]; simp

theorem run_strOp (P : Program) (w : World) (op : BinOp) (t : TypeId) (a b : List UInt8) {v : AV} (h : evStr op a b = some v) :
    ∃ c, (binOp op t (.string ⟨a.toArray⟩) (.string ⟨b.toArray⟩)).run P w = .ok c w ∧ ∀ g, VRel g v c := by
  cases op with
  | add =>
    by_cases hb : a.length + b.length ≤ 9223372036854775807
    · simp only [evStr, if_pos hb] at h; injection h with h; subst h
      have hmax : IntKind.i64.max = 9223372036854775807 := by decide
      refine ⟨.string (⟨a.toArray⟩ ++ ⟨b.toArray⟩), ?_, fun g => .str _ _ (by simp)⟩
      simp only [binOp, Op.stringOp]
      rw [if_neg]
      · rfl
      · rw [hmax]
        show ¬ (((a.toArray.size + b.toArray.size : Nat) : Int) > 9223372036854775807)
        simp; omega
    · simp [evStr, hb] at h
  | eql => injection h with h; subst h; exact ⟨.bool (decide (a = b)), by simp [binOp, Op.stringOp, beq_dec], fun g => .bool _⟩
  | neq => injection h with h; subst h; exact ⟨.bool (!decide (a = b)), by simp [binOp, Op.stringOp, beq_dec], fun g => .bool _⟩
  | lss => injection h with h; subst h; exact ⟨_, by simp [binOp, Op.stringOp, beq_dec], fun g => .bool _⟩
  | leq => injection h with h; subst h; exact ⟨_, by simp [binOp, Op.stringOp, beq_dec], fun g => .bool _⟩
  | gtr => injection h with h; subst h; exact ⟨_, by simp [binOp, Op.stringOp, beq_dec], fun g => .bool _⟩
  | geq => injection h with h; subst h; exact ⟨_, by simp [binOp, Op.stringOp, beq_dec], fun g => .bool _⟩
  | _ => simp [evStr] at h

end Go.Ab
