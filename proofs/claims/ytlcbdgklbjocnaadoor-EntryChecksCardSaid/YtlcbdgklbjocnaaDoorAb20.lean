/- The abstract view, 20: ranges over functions and their rounds, in the form in which proofs step. -/
import Derived.Test.YtlcbdgklbjocnaaDoorAb19
set_option linter.unusedVariables false
set_option linter.unusedSimpArgs false
namespace Go.Ab
open Go Go.RowKit

variable {E : Env} {N : Nat} {rd : Option Nat} {md : Nat → Nat} {Q : APost} {a b : AAct} {H : List AO}

theorem w_rangeFunc {f : Operand} {ps : Array Tmp} {asg body : Code} {ts : List AV} {ds : List ADef} {fid : FuncId} {first cap : List AV} (hf : AAct.ev E.gl ⟨ts, ds⟩ f = .fn fid first cap) {n : Nat} (hn : H.length = n) {args : List AV} (ha : first ++ [.yield (n + 1)] ++ cap = args)
    {H2 : FuncId → List AO} (hH2 : ∀ fn, H ++ [.defr, .loop .ready none fn ts ps asg body n] = H2 fn)
    (h : ∀ fn, (E.P.funcs[fn]?).isSome = true → AEnter E fid args (H2 fn) (RangeEnd E N none Q ⟨ts, .mark n :: ds⟩ (n + 1) fn ts ps asg body n)) : W E N none md (.rangeFunc f ps asg body) Q ⟨ts, ds⟩ H := by
  subst hn
  refine wpc_rangeFunc hf fun fn hfn => ?_
  have := h fn hfn
  rw [← hH2, ← ha] at this
  exact this

theorem rangeEnd_none {ts : List AV} {ds : List ADef} {l d : Nat} {fn : FuncId} {ps : Array Tmp} {asg body : Code} {v : AV} {st : LoopState} (h1 : H[l]? = some (.loop st none fn ts ps asg body d)) (h2 : st ≠ .busy) {H2 : List AO} (hs : H.set l .dead = H2) {ts0 : List AV}
    (h : Q .normal ⟨ts0, ds⟩ H2) : RangeEnd E N rd Q ⟨ts0, ds⟩ l fn ts ps asg body d (.ret v) H := ⟨st, none, h1, h2, by subst hs; exact h⟩
theorem rangeEnd_some {ts : List AV} {ds : List ADef} {l d : Nat} {fn : FuncId} {ps : Array Tmp} {asg body : Code} {v : AV} {st : LoopState} {c : Code} (md : Nat → Nat) (h1 : H[l]? = some (.loop st (some c) fn ts ps asg body d)) (h2 : st ≠ .busy) {H2 : List AO} (hs : H.set l .dead = H2) {ts0 : List AV}
    (h : W E N rd md c Q ⟨ts0, ds⟩ H2) : RangeEnd E N rd Q ⟨ts0, ds⟩ l fn ts ps asg body d (.ret v) H := ⟨st, some c, h1, h2, by subst hs; exact W_sound c _ _ _ h⟩

/-- What is asked behind a round's assignment. -/
def WRound (E : Env) (N l : Nat) (md : Nat → Nat) (fn : FuncId) (ts : List AV) (ps : Array Tmp) (asg body : Code) (d : Nat) (pe : Option Code) (R : AE → List AO → Prop) : APost :=
  AX.then (fun a1 H1 => H1[l]? = some (.loop .ready pe fn ts ps asg body d) ∧ W E N (some l) md body (RPost N l fn ts ps asg body d R) a1 (H1.set l (.loop .busy pe fn ts ps asg body d))) (fun _ _ _ => False)
theorem wround_normal {l : Nat} {fn : FuncId} {ts : List AV} {ps : Array Tmp} {asg body : Code} {d : Nat} {pe : Option Code} {R : AE → List AO → Prop} (h1 : H[l]? = some (.loop .ready pe fn ts ps asg body d)) {H2 : List AO} (hs : H.set l (.loop .busy pe fn ts ps asg body d) = H2)
    (h : W E N (some l) md body (RPost N l fn ts ps asg body d R) a H2) : WRound E N l md fn ts ps asg body d pe R .normal a H := ⟨h1, by subst hs; exact h⟩

theorem ARound.go {l : Nat} {args : List AV} {R : AE → List AO → Prop} (md : Nat → Nat) {pe : Option Code} {fn : FuncId} {ts ts1 : List AV} {ps : Array Tmp} {asg body : Code} {d : Nat} (hH : H[l]? = some (.loop .ready pe fn ts ps asg body d)) (hv : (E.P.funcs[fn]?).isSome = true) (hn : args.length = ps.size)
    (hts : roundTmps ts ps args = ts1) (hN : H.length = N) (h : Fit H.length H → W E N (some l) md asg (WRound E N l md fn ts ps asg body d pe R) ⟨ts1, []⟩ H) : ARound E l args H R := by
  subst hN; subst hts
  exact ARound.of_body md hH hv hn h

theorem rpost_normal {l : Nat} {fn : FuncId} {ts : List AV} {ps : Array Tmp} {asg body : Code} {d : Nat} {pe : Option Code} {R : AE → List AO → Prop} (h1 : H[l]? = some (.loop .busy pe fn ts ps asg body d)) {H2 : List AO} (hs : H.set l (.loop .ready none fn ts ps asg body d) = H2)
    (h : Out N R (.ret (.bool true)) H2) : RPost N l fn ts ps asg body d R .normal a H := ⟨⟨pe, h1⟩, by subst hs; exact h⟩
theorem rpost_ret {l : Nat} {fn : FuncId} {ts : List AV} {ps : Array Tmp} {asg body : Code} {d : Nat} {pe : Option Code} {R : AE → List AO → Prop} (h1 : H[l]? = some (.loop .busy pe fn ts ps asg body d)) {H2 : List AO} (hs : H.set l (.loop .done (some .ret) fn ts ps asg body d) = H2)
    (h : Out N R (.ret (.bool false)) H2) : RPost N l fn ts ps asg body d R .ret a H := ⟨⟨pe, h1⟩, by subst hs; exact h⟩

/-- Leaving with marks of ranges among the deferred. -/
theorem fpost_ret_mark {fn : Func} {R : AE → List AO → Prop} {ts : List AV} {id : Nat} {v : AV} (h1 : H[id]? = some .defr) {H2 : List AO} (hs : H.set id .dead = H2) (hv : evResults E fn ts H2 = some v) (h : Out N R (.ret v) H2) : FPost E N fn R .ret ⟨ts, [.mark id]⟩ H := by
  subst hs
  simp only [FPost, ALeave, hv]; exact ⟨h1, h⟩
theorem fpost_normal_mark {fn : Func} {R : AE → List AO → Prop} {ts : List AV} {id : Nat} {v : AV} (h1 : H[id]? = some .defr) {H2 : List AO} (hs : H.set id .dead = H2) (hv : evResults E fn ts H2 = some v) (h : Out N R (.ret v) H2) : FPost E N fn R .normal ⟨ts, [.mark id]⟩ H := by
  subst hs
  simp only [FPost, ALeave, hv]; exact ⟨h1, h⟩

theorem wop_defer' {o : Oper} {K : AAct → List AO → Prop} {ts0 : List AV} {ds : List ADef} {c : Call} (ho : o.op = .defer c) {f : Operand} (hc : c.callee = .value f) {fid : FuncId} {first cap : List AV} (hf : AAct.ev E.gl ⟨ts0, ds⟩ f = .fn fid first cap) {args : List AV} (ha : first ++ evCallArgs ⟨ts0, ds⟩ E.gl c = args) (hd : o.dst = none)
    (h : K ⟨ts0, .call fid args cap :: ds⟩ H) : Wop E none md o ⟨ts0, ds⟩ H K Q := by
  refine wop_defer ho hc hf ha ?_
  rw [hd]; exact h
/-- Leaving a function that has one deferred call. -/
theorem fpost_ret_call {fn : Func} {R : AE → List AO → Prop} {ts : List AV} {f : FuncId} {args cap : List AV} (h : ACallD E f (args ++ cap) .returning H (fun x u2 H2 => match x with
    | .ret _ => ALeave E N fn R ts [] (asettle u2) H2
    | .panic ch => ALeave E N fn R ts [] (araised u2 ch) H2)) : FPost E N fn R .ret ⟨ts, [.call f args cap]⟩ H := h
theorem fpost_panic_call {fn : Func} {R : AE → List AO → Prop} {ts : List AV} {ch : List APanic} {f : FuncId} {args cap : List AV} (h : ACallD E f (args ++ cap) (.panicking ch) H (fun x u2 H2 => match x with
    | .ret _ => ALeave E N fn R ts [] (asettle u2) H2
    | .panic ch => ALeave E N fn R ts [] (araised u2 ch) H2)) : FPost E N fn R (.panic ch) ⟨ts, [.call f args cap]⟩ H := h
theorem aleave_ret {fn : Func} {R : AE → List AO → Prop} {ts : List AV} {v : AV} (hv : evResults E fn ts H = some v) (h : Out N R (.ret v) H) : ALeave E N fn R ts [] .returning H := by
  simp only [ALeave, hv]; exact h

theorem wop_append' {o : Oper} {K : AAct → List AO → Prop} {ts0 : List AV} {ds : List ADef} {c : Call} (ho : o.op = .call c) (hc : c.callee = .builtin .append) {x y : Operand} {t t2 : TypeId} (hx : c.args = [x, y].toArray) (ht : c.argTypes = [t, t2].toArray) {i2 : TyI} (ht2 : E.ty t2 = some i2) (hi2 : (match i2.u with | .int _ => false | _ => true) = true)
    {v : AV} {H' : List AO} (hv : evAppend E H t (AAct.ev E.gl ⟨ts0, ds⟩ x) (AAct.ev E.gl ⟨ts0, ds⟩ y) = some (v, H')) {d : Tmp} (hd : o.dst = some d) {ts : List AV} (hs : ts0.set d v = ts) (h : K ⟨ts, ds⟩ H') : Wop E rd md o ⟨ts0, ds⟩ H K Q := by
  refine wop_append ho hc hx ht ht2 hi2 hv ?_
  rw [hd]; subst hs; exact h

theorem belowL_strs (n : Nat) (xs : List (List UInt8)) : belowL n (xs.map .str) = true := by
  induction xs with
  | nil => rfl
  | cons x xs ih => simp only [List.map_cons, belowL, AV.within, ih, Bool.and_self]

theorem bytesAV_len (s : List UInt8) : (bytesAV s).length = s.length := by simp [bytesAV]
theorem bytesAV_one (s : List UInt8) : (bytesAV s).all AV.one = true := by
  induction s with
  | nil => rfl
  | cons b s ih => simp [bytesAV, byteAV, AV.one] at ih ⊢
theorem bytesAV_append (s t : List UInt8) : bytesAV (s ++ t) = bytesAV s ++ bytesAV t := by simp [bytesAV]
theorem unbytes_bytesAV (s : List UInt8) : unbytes (bytesAV s) = some s := by
  induction s with
  | nil => rfl
  | cons b s ih =>
    show unbytes (byteAV b :: bytesAV s) = _
    simp [byteAV, unbytes, ih]
theorem belowL_bytesAV (n : Nat) (s : List UInt8) : belowL n (bytesAV s) = true := by
  induction s with
  | nil => rfl
  | cons b s ih => exact (by simp [belowL, AV.within, byteAV, bytesAV] at *; exact ih)
theorem row1 {xs : List AV} {i : Nat} (h : i < xs.length) : (xs.drop i).take 1 = [xs.getD i .top] := by
  rw [List.drop_eq_getElem_cons h]
  simp only [List.take_succ_cons, List.take_zero, List.getD_eq_getElem?_getD, List.getElem?_eq_getElem h, Option.getD_some]

/-- A row of strings. -/
theorem rowStr1 {to : List (List UInt8)} {i : Nat} (h : i < to.length) : ((to.map AV.str).drop i).take 1 = [.str (to.getD i [])] := by
  rw [List.drop_eq_getElem_cons (by simpa using h)]
  simp [List.getD_eq_getElem?_getD, h]

theorem dpost_ret {fn : Func} {u : AMode} {R : AE → AMode → List AO → Prop} {ts : List AV} {v : AV} (hv : evResults E fn ts H = some v) (h : Out N (fun x H => R x u H) (.ret v) H) : DPost E N fn u R .ret ⟨ts, []⟩ H := by
  simp only [DPost, hv]; exact ⟨trivial, h⟩
theorem dpost_normal {fn : Func} {u : AMode} {R : AE → AMode → List AO → Prop} {ts : List AV} {v : AV} (hv : evResults E fn ts H = some v) (h : Out N (fun x H => R x u H) (.ret v) H) : DPost E N fn u R .normal ⟨ts, []⟩ H := by
  simp only [DPost, hv]; exact ⟨trivial, h⟩

end Go.Ab
