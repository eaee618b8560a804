/- The abstract view, 14: what lies behind is let go; results; deferred calls; functions. -/
import Derived.Test.YtlcbdgklbjocnaaDoorAb13
import Derived.RecoverIn
set_option linter.unusedVariables false
set_option linter.unusedSimpArgs false
namespace Go.Ab
open Go Go.RowKit

variable {E : Env} {N : Nat} {rd : Option Nat} {md : Nat → Nat} {g g0 : Ghost} {H : List AO} {w w' : World} {a : AAct} {a' : Act} {Q : APost}

/-! ### Numbers below a bound -/
mutual
def AV.within (n : Nat) : AV → Bool
  | .ref id _ => decide (id < n)
  | .row xs => belowL n xs
  | .sl _ xs tok => belowL n xs && (match tok with | .at t _ => decide (t < n) | _ => true)
  | .msl id _ _ => decide (id < n)
  | .map id => decide (id < n)
  | .fn _ xs ys => belowL n xs && belowL n ys
  | .yield id => decide (id < n)
  | .iface _ v => v.within n
  | .agg xs => belowL n xs
  | .tup xs => belowL n xs
  | _ => true
def belowL (n : Nat) : List AV → Bool
  | [] => true
  | x :: xs => x.within n && belowL n xs
end

theorem belowL_get {n : Nat} : ∀ {xs : List AV}, belowL n xs = true → ∀ i, (xs.getD i .top).within n = true := by
  intro xs
  induction xs with
  | nil => intro _ i; rfl
  | cons x xs ih =>
    intro h i
    simp only [belowL, Bool.and_eq_true] at h
    cases i with
    | zero => exact h.1
    | succ i => simpa using ih h.2 i

theorem belowL_of {n : Nat} : ∀ {xs : List AV}, (∀ i, (xs.getD i .top).within n = true) → belowL n xs = true := by
  intro xs
  induction xs with
  | nil => intro _; rfl
  | cons x xs ih =>
    intro h
    simp only [belowL, Bool.and_eq_true]
    exact ⟨h 0, ih fun i => by simpa using h (i + 1)⟩

def AO.within (n : Nat) : AO → Bool
  | .cells xs => belowL n xs
  | .loop _ _ _ tmps _ _ _ d => belowL n tmps && decide (d < n)
  | .map es _ => es.all fun e => e.1.within n && e.2.within n
  | _ => true

/-- All that the objects lead to lies below n. -/
def Fit (n : Nat) (H : List AO) : Prop := ∀ o ∈ H, o.within n = true

def Ghost.cut (g : Ghost) (n : Nat) : Ghost := { g with phi := g.phi.take n, tok := fun t e => if t < n then g.tok t e else none }

theorem cut_phi {n id b : Nat} (h : g.phi[id]? = some b) (hi : id < n) : (g.cut n).phi[id]? = some b := by
  show (g.phi.take n)[id]? = some b
  rw [List.getElem?_take, if_pos hi]; exact h

theorem cut_tok {n t e : Nat} {ti : TI} (h : g.tok t e = some ti) (hi : t < n) : (g.cut n).tok t e = some ti := by
  show (if t < n then g.tok t e else none) = some ti
  rw [if_pos hi]; exact h

theorem VRel.cut {n : Nat} {v : AV} {c : Value} (h : VRel g v c) : v.within n = true → VRel (g.cut n) v c := by
  induction h with
  | top v => intro _; exact .top v
  | bool b => intro _; exact .bool b
  | int k n => intro _; exact .int k n
  | str s b h => intro _; exact .str s b h
  | nilp => intro _; exact .nilp
  | ref id off b e => intro h; simp only [AV.within, decide_eq_true_eq] at h; exact .ref id off b (cut_phi e h)
  | row xs b o vs hk hv ih => intro h; exact .row xs b o vs hk fun i => ih i (belowL_get h i)
  | nsl tok e =>
    intro h
    refine .nsl tok ?_
    cases tok with
    | ro => trivial
    | full => trivial
    | «at» t e' =>
      simp only [AV.within, belowL, Bool.true_and, decide_eq_true_eq] at h
      obtain ⟨ti, h1, h2⟩ := e
      exact ⟨ti, cut_tok h1 h, h2⟩
  | sl m xs tok b o cap vs hn hk hv ht ih =>
    intro h
    simp only [AV.within, Bool.and_eq_true] at h
    refine .sl m xs tok b o cap vs hn hk (fun i => ih i (belowL_get h.1 i)) ?_
    cases tok with
    | ro => trivial
    | full => exact ht
    | «at» t e =>
      obtain ⟨ti, h1, h2⟩ := ht
      have := h.2
      simp only [decide_eq_true_eq] at this
      exact ⟨ti, cut_tok h1 this, h2⟩
  | msl id off m b off' cap e hn ho => intro h; simp only [AV.within, decide_eq_true_eq] at h; exact .msl id off m b off' cap (cut_phi e h) hn ho
  | map id b e => intro h; simp only [AV.within, decide_eq_true_eq] at h; exact .map id b (cut_phi e h)
  | nilmap => intro _; exact .nilmap
  | fn f first cap fs cs hl hf hm hc ih1 ih2 =>
    intro h
    simp only [AV.within, Bool.and_eq_true] at h
    exact .fn f first cap fs cs hl (fun i => ih1 i (belowL_get h.1 i)) hm (fun i => ih2 i (belowL_get h.2 i))
  | yield id b e => intro h; simp only [AV.within, decide_eq_true_eq] at h; exact .yield id b (cut_phi e h)
  | nilfn => intro _; exact .nilfn
  | iface t v c _ ih => intro h; exact .iface t v c (ih h)
  | nili => intro _; exact .nili
  | agg xs cs hl _ ih => intro h; exact .agg xs cs hl fun i => ih i (belowL_get h i)
  | tup xs cs hl _ ih => intro h; exact .tup xs cs hl fun i => ih i (belowL_get h i)

theorem VRel.within {n : Nat} {v : AV} {c : Value} (h : VRel g v c) (hp : g.phi.length ≤ n) (ht : ∀ t e ti, g.tok t e = some ti → t < n) : v.within n = true := by
  have lt : ∀ {id b : Nat}, g.phi[id]? = some b → id < n := fun h => Nat.lt_of_lt_of_le (List.getElem?_eq_some_iff.1 h).1 hp
  induction h with
  | ref id off b e => simp [AV.within, lt e]
  | row xs b o vs hk hv ih => exact belowL_of ih
  | nsl tok e =>
    simp only [AV.within, belowL, Bool.true_and]
    cases tok with
    | ro => rfl
    | full => rfl
    | «at» t e' => obtain ⟨ti, h1, h2⟩ := e; simp [ht _ _ _ h1]
  | sl m xs tok b o cap vs hn hk hv htk ih =>
    simp only [AV.within, Bool.and_eq_true]
    refine ⟨belowL_of ih, ?_⟩
    cases tok with
    | ro => rfl
    | full => rfl
    | «at» t e => obtain ⟨ti, h1, h2⟩ := htk; simp [ht _ _ _ h1]
  | msl id off m b off' cap e hn ho => simp [AV.within, lt e]
  | map id b e => simp [AV.within, lt e]
  | fn f first cap fs cs hl hf hm hc ih1 ih2 => simp only [AV.within, Bool.and_eq_true]; exact ⟨belowL_of ih1, belowL_of ih2⟩
  | yield id b e => simp [AV.within, lt e]
  | iface t v c _ ih => exact ih
  | agg xs cs hl _ ih => exact belowL_of ih
  | tup xs cs hl _ ih => exact belowL_of ih
  | _ => rfl

theorem Rep.fit {n0 : Nat} {w0 : World} {gl : Nat → List AV} (hr : Rep n0 w0 gl g H w) : Fit H.length H := by
  have ht : ∀ t e ti, g.tok t e = some ti → t < H.length := by
    intro t e ti h
    rcases Nat.lt_or_ge t H.length with h' | h'
    · exact h'
    · rw [hr.beyond t e h'] at h; simp at h
  have hp : g.phi.length ≤ H.length := by rw [hr.len]; exact Nat.le_refl _
  intro o ho
  obtain ⟨i, hi, rfl⟩ := List.getElem_of_mem ho
  have h := hr.objs i H[i] (List.getElem?_eq_getElem hi)
  cases hx : H[i] <;> rw [hx] at h <;> try rfl
  · obtain ⟨b, cs, T, fz, h1, h2, h3, h4, h5, _⟩ := h
    exact belowL_of fun k => (h5 k).within hp ht
  · obtain ⟨b, cs, db, h1, h2, h3, h4, h5⟩ := h
    simp only [AO.within, Bool.and_eq_true]
    exact ⟨belowL_of fun k => (h4.2 k).within hp ht, by have := (List.getElem?_eq_some_iff.1 h3).1; simp; omega⟩
  · rename_i es clock
    obtain ⟨b, ms, h1, h2, h3, h4, h5⟩ := h
    simp only [AO.within, List.all_eq_true]
    intro e he
    obtain ⟨k, hk, rfl⟩ := List.getElem_of_mem he
    have := h5 k ms[k] (Array.getElem?_eq_getElem (by omega))
    rw [List.getD_eq_getElem?_getD, List.getElem?_eq_getElem hk] at this
    simp only [Option.getD_some] at this
    rw [Bool.and_eq_true]
    exact ⟨this.1.within hp ht, this.2.1.within hp ht⟩

theorem own_cut {H2 l : List AO} {i : Nat} (hi : i < H2.length) : own (g.cut H2.length) H2 i = own g (H2 ++ l) i := by
  unfold own
  rw [List.getElem?_append_left hi]
  have hp : (g.cut H2.length).phi[i]? = g.phi[i]? := by show (g.phi.take _)[i]? = _; rw [List.getElem?_take, if_pos hi]
  cases hH : H2[i]? with
  | none => rfl
  | some x =>
    cases x <;> first | rfl | exact hp | skip
    show (match (if i < H2.length then g.tok i _ else none) with | some ti => _ | none => _) = _
    rw [if_pos hi]; rfl

/-- What lies behind is let go. -/
theorem Rep.drop {n0 : Nat} {w0 : World} {gl : Nat → List AV} {H2 l : List AO} (hr : Rep n0 w0 gl g (H2 ++ l) w) (hf : Fit H2.length H2) (hgl : ∀ i, belowL H2.length (gl i) = true) : Rep n0 w0 gl (g.cut H2.length) H2 w := by
  refine ⟨hr.below, hr.n0le, hr.know, ?_, fun t e h => ?_, fun i o h => ?_, fun i j b hi hj => ?_, fun i => (hr.glob i).cut (hgl i)⟩
  · show (g.phi.take _).length = _
    have := hr.len
    simp at this
    simp; omega
  · show (if t < H2.length then g.tok t e else none) = none
    rw [if_neg (by omega)]
  · have hi : i < H2.length := (List.getElem?_eq_some_iff.1 h).1
    have ho := hr.objs i o (by rw [List.getElem?_append_left hi]; exact h)
    have hfo := hf o (List.mem_of_getElem? h)
    cases o with
    | dead => trivial
    | cells xs =>
      obtain ⟨b, cs, T, fz, h1, h2, h3, h4, h5, h6, h7⟩ := ho
      exact ⟨b, cs, T, fz, cut_phi h1 hi, h2, h3, h4, fun k => (h5 k).cut (belowL_get hfo k), h6, h7⟩
    | tail sz e =>
      obtain ⟨ti, h1, h2, h3⟩ := ho
      refine ⟨ti, cut_tok h1 hi, fun e' he => ?_, h3⟩
      show (if i < H2.length then g.tok i e' else none) = none
      rw [if_pos hi]; exact h2 e' he
    | iter s pos => obtain ⟨b, t, h1, h2⟩ := ho; exact ⟨b, t, cut_phi h1 hi, h2⟩
    | loop st pe f tmps ps asg body d =>
      simp only [AO.within, Bool.and_eq_true, decide_eq_true_eq] at hfo
      obtain ⟨b, cs, db, h1, h2, h3, h4, h5⟩ := ho
      exact ⟨b, cs, db, cut_phi h1 hi, h2, cut_phi h3 hfo.2, ⟨h4.1, fun k => (h4.2 k).cut (belowL_get hfo.1 k)⟩, h5⟩
    | defr => obtain ⟨b, h1, h2⟩ := ho; exact ⟨b, cut_phi h1 hi, h2⟩
    | map es c =>
      obtain ⟨b, ms, h1, h2, h3, h4, h5⟩ := ho
      simp only [AO.within, List.all_eq_true, Bool.and_eq_true] at hfo
      refine ⟨b, ms, cut_phi h1 hi, h2, h3, h4, fun k m hm => ?_⟩
      have hk : k < es.length := by have := (Array.getElem?_eq_some_iff.1 hm).1; omega
      have hb := hfo es[k] (List.getElem_mem hk)
      have := h5 k m hm
      rw [List.getD_eq_getElem?_getD, List.getElem?_eq_getElem hk] at this ⊢
      exact ⟨this.1.cut hb.1, this.2.1.cut hb.2, this.2.2⟩
  · have hil : i < H2.length := by
      unfold own at hi
      cases hH : H2[i]? with
      | none => rw [hH] at hi; simp at hi
      | some x => exact (List.getElem?_eq_some_iff.1 hH).1
    have hjl : j < H2.length := by
      unfold own at hj
      cases hH : H2[j]? with
      | none => rw [hH] at hj; simp at hj
      | some x => exact (List.getElem?_eq_some_iff.1 hH).1
    rw [own_cut (l := l) hil] at hi
    rw [own_cut (l := l) hjl] at hj
    exact hr.apart i j b hi hj

theorem GLe.cut (h : GLe g0 g) {n : Nat} (hd : Dom g0 N) (hn : N ≤ n) : GLe g0 (g.cut n) := by
  refine ⟨h.K, fun i b e => cut_phi (h.phi i b e) ?_, fun t e ti he => cut_tok (h.tok t e ti he) ?_⟩
  · have := (List.getElem?_eq_some_iff.1 e).1
    have := hd.1
    omega
  · rcases Nat.lt_or_ge t n with h' | h'
    · exact h'
    · rw [hd.2 t e (by omega)] at he; simp at he

theorem Rep.dom {n0 : Nat} {w0 : World} {gl : Nat → List AV} (hr : Rep n0 w0 gl g H w) : Dom g H.length := ⟨hr.len, hr.beyond⟩

end Go.Ab
