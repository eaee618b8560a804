/- The abstract view, part FrA. -/
import Derived.RangeFuncLeaves
import Derived.RangeFuncCalls
import Derived.RecoverIn
import Derived.Laws.Sem
import Derived.Laws.World
import Derived.Laws.Cells
import Derived.Below
import Derived.Laws.BytesString
import Derived.Laws.StructEq
/- Code going well in a frame of a function that is there: the kit's fenced rules with that one premise more; a range over a function whose rounds may panic. -/
set_option linter.unusedVariables false
namespace Go.Ab
open Go

/-- The wide fence, in a round or none. -/
def FW (ρ : Option Nat) : Fence := { Fence.wide with round := ρ }

theorem fw (P : Program) (ρ : Option Nat) (m : Machine) : Machine.fenced P (FW ρ) m := fenced_wide P m

def wpV (ρ : Option Nat) (P : Program) (c : Code) (Q : Exit → Act → World → Prop) (a : Act) (w : World) : Prop :=
  ∀ (b : Frame) (k : List Item) (cs : List Frame), b.roundOf = ρ → (P.funcs[b.fn]?).isSome = true →
    ∃ e a' w', Q e a' w' ∧ ArrivesIn (Machine.fenced P (FW ρ)) P (lone (b.atR a (.code c :: k)) cs w) b k cs e a' w'

variable {ρ : Option Nat} {P : Program} {Q : Exit → Act → World → Prop} {a : Act} {w : World}

theorem wpV_mono {c : Code} {Q' : Exit → Act → World → Prop} (h : wpV ρ P c Q a w) (hq : ∀ e a w, Q e a w → Q' e a w) : wpV ρ P c Q' a w :=
  fun b k cs hro hb => let ⟨e, a', w', q, r⟩ := h b k cs hro hb; ⟨e, a', w', hq _ _ _ q, r⟩

theorem wpV_of_wpIn {c : Code} (h : c.wpIn (FW ρ) 0 P Q a w) : wpV ρ P c Q a w :=
  fun b k cs hro _ => h b k cs hro trivial (fun _ h => by simp [FW, Fence.wide] at h)

theorem wpV_seq {x y : Code} (h : wpV ρ P x (Exit.then (wpV ρ P y Q) Q) a w) : wpV ρ P (.seq x y) Q a w := by
  intro b k cs hro hb
  have h0 : (lone (b.atR a (.code (.seq x y) :: k)) cs w).fenced P (FW ρ) := fw _ _ _
  obtain ⟨e, a₁, w₁, hq, harr⟩ := h b (.code y :: k) cs hro hb
  cases e with
  | normal =>
    obtain ⟨e₂, a₂, w₂, hq₂, harr₂⟩ := hq b k cs hro hb
    exact ⟨e₂, a₂, w₂, hq₂, .of_steps (.head h0 stepR_seq harr) harr₂⟩
  | exit id => exact ⟨_, a₁, w₁, hq, .of_steps (.one h0 stepR_seq) (.pass (x := .code y) rfl (fun _ _ => .inl (by simp)) harr)⟩
  | goto l => exact ⟨_, a₁, w₁, hq, .of_steps (.one h0 stepR_seq) (.pass (x := .code y) rfl (fun _ _ => .inl (by simp)) harr)⟩
  | ret => exact ⟨_, a₁, w₁, hq, .of_steps (.one h0 stepR_seq) (.pass (x := .code y) rfl (fun _ _ => .inl (by simp)) harr)⟩
  | panic ch => exact ⟨_, a₁, w₁, hq, .of_steps (.one h0 stepR_seq) (.pass (x := .code y) rfl (fun _ _ => .inl (by simp)) harr)⟩
  | outgrown => exact ⟨_, a₁, w₁, hq, .of_steps (.one h0 stepR_seq) (.pass (x := .code y) rfl (fun _ _ => .inl (by simp)) harr)⟩

theorem wpV_cond {c : Operand} {x y : Code} {t : Bool} (hc : a.eval c = .bool t) (h : wpV ρ P (if t then x else y) Q a w) : wpV ρ P (.cond c x y) Q a w :=
  fun b k cs hro hb => let ⟨e, a', w', q, r⟩ := h b k cs hro hb; ⟨e, a', w', q, .of_steps (.one (fw _ _ _) (stepR_cond hc)) r⟩

theorem wpV_block {id : Nat} {c : Code} (h : wpV ρ P c (Exit.inBlock id Q) a w) : wpV ρ P (.block id c) Q a w := by
  intro b k cs hro hb
  have h0 : (lone (b.atR a (.code (.block id c) :: k)) cs w).fenced P (FW ρ) := fw _ _ _
  obtain ⟨e, a₁, w₁, hq, harr⟩ := h b (.inBlock id :: k) cs hro hb
  cases e with
  | normal => exact ⟨.normal, a₁, w₁, hq, .head h0 stepR_block (StepsIn.trans harr (.one (fw _ _ _) stepR_inBlock))⟩
  | exit id' =>
    by_cases hid : id' = id
    · simp only [Exit.inBlock, hid, if_true] at hq
      exact ⟨.normal, a₁, w₁, hq, .head h0 stepR_block (harr.1 k (by simp [exitTo, hid]))⟩
    · simp only [Exit.inBlock, hid, if_false] at hq
      have this : (id == id') = false := by simp; exact fun h => hid h.symm
      have hx : exitTo id' (.inBlock id :: k) = exitTo id' k := by simp [exitTo, this]
      exact ⟨.exit id', a₁, w₁, hq, fun k' hk => .head h0 stepR_block (harr.1 k' (by rw [hx]; exact hk)),
        fun hr' hk => let ⟨k₁, h1, h2⟩ := harr.2 hr' (by rw [hx]; exact hk); ⟨k₁, h1, .head h0 stepR_block h2⟩⟩
  | goto l =>
    have hx : gotoIn l (.inBlock id :: k) = gotoIn l k := by simp [gotoIn]
    exact ⟨_, a₁, w₁, hq, fun k' hk => .head h0 stepR_block (harr.1 k' (by rw [hx]; exact hk)),
      fun hr' hk => let ⟨k₁, h1, h2⟩ := harr.2 hr' (by rw [hx]; exact hk); ⟨k₁, h1, .head h0 stepR_block h2⟩⟩
  | ret => exact ⟨_, a₁, w₁, hq, .of_steps (.one h0 stepR_block) harr⟩
  | panic ch => exact ⟨_, a₁, w₁, hq, .of_steps (.one h0 stepR_block) harr⟩
  | outgrown => exact ⟨_, a₁, w₁, hq, .of_steps (.one h0 stepR_block) harr⟩

/-- A loop, with an invariant that bears an index of its own, by whose measure the rounds go down. -/
theorem wpV_loopI {c : Code} {ι : Type} (I : ι → Act → World → Prop) (μ : ι → Nat)
    (round : ∀ i a w, I i a w → wpV ρ P c (Exit.then (fun a' w' => ∃ j, I j a' w' ∧ μ j < μ i) Q) a w) (i : ι) {a : Act} {w : World} (h₀ : I i a w) : wpV ρ P (.loop c) Q a w := by
  intro b k cs hro hb
  have key : ∀ j i a w, μ i = j → I i a w →
      ∃ e a' w', Q e a' w' ∧ ArrivesIn (Machine.fenced P (FW ρ)) P (lone (b.atR a (.code c :: .inLoop c :: k)) cs w) b k cs e a' w' := by
    intro j
    induction j using Nat.strongRecOn with
    | _ j ih =>
      intro i a w hn hI
      obtain ⟨e, a₁, w₁, hq, harr⟩ := round i a w hI b (.inLoop c :: k) cs hro hb
      cases e with
      | normal =>
        obtain ⟨i₁, hI₁, hlt⟩ := hq
        obtain ⟨e₂, a₂, w₂, hq₂, harr₂⟩ := ih (μ i₁) (hn ▸ hlt) i₁ a₁ w₁ rfl hI₁
        exact ⟨e₂, a₂, w₂, hq₂, .of_steps (StepsIn.trans harr (.one (fw _ _ _) stepR_inLoop)) harr₂⟩
      | exit id => exact ⟨_, a₁, w₁, hq, .pass (x := .inLoop c) rfl (fun _ _ => .inl (by simp)) harr⟩
      | goto l => exact ⟨_, a₁, w₁, hq, .pass (x := .inLoop c) rfl (fun _ _ => .inl (by simp)) harr⟩
      | ret => exact ⟨_, a₁, w₁, hq, .pass (x := .inLoop c) rfl (fun _ _ => .inl (by simp)) harr⟩
      | panic ch => exact ⟨_, a₁, w₁, hq, .pass (x := .inLoop c) rfl (fun _ _ => .inl (by simp)) harr⟩
      | outgrown => exact ⟨_, a₁, w₁, hq, .pass (x := .inLoop c) rfl (fun _ _ => .inl (by simp)) harr⟩
  obtain ⟨e, a', w', hq, harr⟩ := key _ i a w rfl h₀
  exact ⟨e, a', w', hq, .of_steps (.one (fw _ _ _) stepR_loop) harr⟩

/-- A function's contract, from its body, marks and deferred calls and all. -/
theorem callsIn_of_wpV {f : FuncId} {fn : Func} {c : Code} {args : Array Value} {w : World} {R : Ending → World → Prop} (hf : P.funcs[f]? = some fn) (hb : fn.body = some c)
    (h : wpV none P c (bodyPostM Fence.wide 0 P fn R) { tmps := args ++ Array.replicate (fn.ntmps - args.size) undef, defers := [] } w) : CallsIn Fence.wide 0 P f args w R := by
  refine ⟨trivial, fun cs hr => ?_⟩
  let b : Frame := { (default : Frame) with fn := f, kind := .normal, roundOf := none }
  have henter : Frame.enter P f args .normal =
      b.atR { tmps := args ++ Array.replicate (fn.ntmps - args.size) undef, defers := [] } [.code c] := by
    simp [Frame.enter, Frame.atR, hf, hb, b]
  obtain ⟨e, a', w', hq, harr⟩ := h b [] cs rfl (by show (P.funcs[f]?).isSome = true; rw [hf]; rfl)
  rw [← henter] at harr
  cases e with
  | normal =>
    obtain ⟨e', w'', fr', hR, hs, hfn, hl⟩ := leaves_stepsInM a'.defers .returning w' { b.atR a' [] with mode := .returning } cs rfl rfl rfl hf rfl trivial hr hq
    exact ⟨e', w'', fr', hR, ComesIn.of_steps (StepsIn.trans harr (.one (fw P none _) (stepR_end rfl))) hs, hfn, hl⟩
  | ret =>
    obtain ⟨todo, hs₀⟩ := harr.1 rfl
    obtain ⟨e', w'', fr', hR, hs, hfn, hl⟩ := leaves_stepsInM a'.defers .returning w' { b.atR a' todo with mode := .returning } cs rfl rfl rfl hf rfl trivial hr hq
    exact ⟨e', w'', fr', hR, ComesIn.of_steps hs₀ hs, hfn, hl⟩
  | panic chain =>
    obtain ⟨todo, hs₀⟩ := harr
    obtain ⟨e', w'', fr', hR, hs, hfn, hl⟩ := leaves_stepsInM a'.defers (.panicking chain) w' { b.atR a' todo with mode := .panicking chain } cs rfl rfl rfl hf rfl trivial hr hq
    exact ⟨e', w'', fr', hR, ComesIn.of_steps hs₀ hs, hfn, hl⟩
  | exit id => exact hq.elim
  | goto l => exact hq.elim
  | outgrown => exact ⟨.outgrown, w', b, hq, harr.resolve_left (by simp [b]), rfl, trivial⟩

/-- What is asked at a round's end; a panic goes on. -/
def roundPostP (P : Program) (l : Nat) (R : Ending → World → Prop) : Exit → Act → World → Prop
  | .normal, _, w => ∃ v w', (Instr.endRound l none).run P w = .ok v w' ∧ R (.returned v) w'
  | .ret, _, w => ∃ v w', (Instr.endRound l (some .ret)).run P w = .ok v w' ∧ R (.returned v) w'
  | .exit id, _, w => ∃ v w', (Instr.endRound l (some (.exit id))).run P w = .ok v w' ∧ R (.returned v) w'
  | .goto t, _, w => ∃ v w', (Instr.endRound l (some (.goto t))).run P w = .ok v w' ∧ R (.returned v) w'
  | .panic ch, a, w => a.defers = [] ∧ R (.panicked ch) w
  | .outgrown, _, _ => False

theorem roundIn_of_wpV {l : Nat} {f : FuncId} {tmps : Array Value} {assign body : Code} {w : World} {R : Ending → World → Prop} (hf : (P.funcs[f]?).isSome = true)
    (h : wpV (some l) P assign (Exit.then (fun a₁ w₁ => ∃ w₂, (Instr.beginRound l).run P w₁ = .ok () w₂ ∧ wpV (some l) P body (roundPostP P l R) a₁ w₂) (fun _ _ _ => False)) { tmps := tmps, defers := [] } w) :
    RoundIn Fence.wide 0 P l f tmps assign body w R := by
  refine ⟨trivial, fun c cs hr => ?_⟩
  let b : Frame := { (default : Frame) with fn := f, kind := .normal, roundOf := some l }
  have hb0 : Frame.round l f tmps assign body .normal = b.atR { tmps := tmps, defers := [] } [.code assign, .beginRound, .code body] := by
    simp [Frame.round, Frame.atR, b]
  obtain ⟨e, a₁, w₁, hq, harr⟩ := h b [.beginRound, .code body] (c :: cs) rfl hf
  rw [← hb0] at harr
  cases e with
  | normal =>
    obtain ⟨w₂, hbr, hbody⟩ := hq
    have s1 : StepsIn (Machine.fenced P (FW (some l))) P (lone (b.atR a₁ [.beginRound, .code body]) (c :: cs) w₁) (lone (b.atR a₁ [.code body]) (c :: cs) w₂) :=
      .one (fw _ _ _) (stepR_beginRound rfl hbr)
    obtain ⟨e₂, a₂, w₃, hq₂, harr₂⟩ := hbody b [] (c :: cs) rfl hf
    cases e₂ with
    | normal =>
      obtain ⟨v, w₄, hend, hR⟩ := hq₂
      exact ⟨.returned v, w₄, hR, (StepsIn.trans harr s1).trans (StepsIn.trans harr₂ (.one (fw P (some l) _) (stepR_round_end rfl rfl hend)))⟩
    | ret =>
      obtain ⟨v, w₄, hend, hR⟩ := hq₂
      obtain ⟨k₁, hs⟩ := harr₂.2 rfl
      exact ⟨.returned v, w₄, hR, (StepsIn.trans harr s1).trans (StepsIn.trans hs (.one (fw P (some l) _) (stepR_round_ret rfl rfl hend)))⟩
    | exit id =>
      obtain ⟨v, w₄, hend, hR⟩ := hq₂
      obtain ⟨k₁, hk, hs⟩ := harr₂.2 rfl rfl
      exact ⟨.returned v, w₄, hR, (StepsIn.trans harr s1).trans (StepsIn.trans hs (.one (fw P (some l) _) (stepR_round_exit rfl rfl hk hend)))⟩
    | goto t =>
      obtain ⟨v, w₄, hend, hR⟩ := hq₂
      obtain ⟨k₁, hk, hs⟩ := harr₂.2 rfl rfl
      exact ⟨.returned v, w₄, hR, (StepsIn.trans harr s1).trans (StepsIn.trans hs (.one (fw P (some l) _) (stepR_round_goto rfl rfl hk hend)))⟩
    | panic chain =>
      obtain ⟨hd, hR⟩ := hq₂
      obtain ⟨todo, hs⟩ := harr₂
      have hl : ({ b.atR a₂ todo with mode := .panicking chain } : Frame).leaving P w₃ (.panicked chain) := ⟨rfl, hd, Option.isSome_iff_exists.1 hf⟩
      exact ⟨.panicked chain, w₃, hR, (StepsIn.trans harr s1).trans (StepsIn.trans hs (.one (fw P (some l) _) (step_leave_panicked hl)))⟩
    | outgrown => exact hq₂.elim
  | exit id => exact hq.elim
  | goto t => exact hq.elim
  | ret => exact hq.elim
  | panic chain => exact hq.elim
  | outgrown => exact hq.elim

/-- What is asked when the function that was ranged over has ended. -/
def rangePostV (ρ : Option Nat) (P : Program) (l : Nat) (Q : Exit → Act → World → Prop) (a' : Act) : Ending → World → Prop
  | .returned _, w₃ => ∃ jump w₄, (Instr.endLoop l).run P w₃ = .ok jump w₄ ∧
      (match jump with
       | none => Q .normal a' w₄
       | some c => wpV ρ P c Q a' w₄)
  | .panicked chain, w₃ => Q (.panic chain) a' w₃
  | .outgrown, _ => LetsOut Q

theorem wpV_rangeFunc {g : Operand} {ps : Array Tmp} {assign body : Code}
    (h : ∀ fn, (P.funcs[fn]?).isSome = true → ∃ (l : Nat) (mark : List Deferred) (w₁ : World) (d : Deferred) (w₁' : World) (f : FuncId) (args : Array Value) (w₂ : World),
      (Instr.enterLoop fn a.tmps ps assign body ρ).run P w = .ok (l, mark) w₁ ∧
      (resolve a.eval (rangeCall g l) 0).run P w₁ = .ok d w₁' ∧
      (invoke d.target d.args).run P w₁' = .ok (.enter f args) w₂ ∧
      CallsIn Fence.wide 0 P f args w₂ (rangePostV ρ P l Q { a with defers := mark ++ a.defers })) :
    wpV ρ P (.rangeFunc g ps assign body) Q a w := by
  intro b k cs hro hb
  obtain ⟨l, mark, w₁, d, w₁', f, args, w₂, he, hres, hinv, hF, hcall⟩ := h b.fn hb
  rw [← hro] at he
  have h0 : (lone (b.atR a (.code (.rangeFunc g ps assign body) :: k)) cs w).fenced P (FW ρ) := fw _ _ _
  have henter := stepR_rangeFunc (P := P) (b := b) (a := a) (k := k) (cs := cs) (w := w) he hres hinv
  obtain ⟨e, w₃, fr, hR, hsteps, hfn, hleave⟩ := hcall (b.atR { a with defers := mark ++ a.defers } (.inRangeFunc l :: k) :: cs) (room_wide _)
  cases e with
  | outgrown =>
    obtain ⟨a₀, w₀, hq⟩ := hR
    exact ⟨.outgrown, a₀, w₀, hq, .inr (Outgrown.of_steps (.one henter) hsteps)⟩
  | returned v =>
    obtain ⟨jump, w₄, hend, hj⟩ := hR
    have sback : StepsIn (Machine.fenced P (FW ρ)) P (lone (b.atR a (.code (.rangeFunc g ps assign body) :: k)) cs w) (lone (b.atR { a with defers := mark ++ a.defers } ((jump.map Item.code).toList ++ k)) cs w₄) := by
      refine .head h0 henter (StepsIn.trans hsteps (.head (fw P ρ _) ?_ (.one (fw P ρ _) (stepR_endRangeFunc hend))))
      rw [← finish_atR_inRangeFunc l v]; exact step_leave_returned hleave
    cases jump with
    | none => exact ⟨.normal, _, w₄, hj, sback⟩
    | some c =>
      obtain ⟨e', a'', w₅, hq, harr⟩ := hj b k cs hro hb
      exact ⟨e', a'', w₅, hq, .of_steps sback harr⟩
  | panicked chain =>
    refine ⟨.panic chain, _, w₃, hR, .inRangeFunc l :: k, .head h0 henter (StepsIn.trans hsteps (.one (fw P ρ _) ?_))⟩
    rw [← Frame.raise_atR]; exact step_leave_panicked hleave

/-- A deferred function's body behind its first region. -/
def wpSV (P : Program) (c : Code) (Q : Exit → Act → List Frame → World → Prop) (a : Act) (cs : List Frame) (w : World) : Prop :=
  ∀ (b : Frame) (k : List Item), b.kind = .deferred → b.roundOf = none → (P.funcs[b.fn]?).isSome = true →
    ∃ e a' cs' w', cs'.length = cs.length ∧ Q e a' cs' w' ∧ ArrivesIn (Machine.fenced P Fence.wide) P (lone (b.atR a (.code c :: k)) cs w) b k cs' e a' w'

theorem wpSV_of_wpV {c : Code} {Q : Exit → Act → List Frame → World → Prop} {cs : List Frame} (h : wpV none P c (fun e a' w' => Q e a' cs w') a w) : wpSV P c Q a cs w :=
  fun b k _ hr hb => let ⟨e, a', w', q, r⟩ := h b k cs hr hb; ⟨e, a', cs, w', rfl, q, r⟩

theorem wpSV_seq {x y : Code} {Q : Exit → Act → List Frame → World → Prop} {cs : List Frame} (h : x.wpSIn Fence.wide 0 P (Exit.thenS (wpSV P y Q) Q) a cs w) : wpSV P (.seq x y) Q a cs w := by
  intro b k hb hr hF
  have i0 : (lone (b.atR a (.code (.seq x y) :: k)) cs w).fenced P Fence.wide := fenced_wide _ _
  obtain ⟨e, a₁, cs₁, w₁, hl, hq, harr⟩ := h b (.code y :: k) hb hr trivial (room_wide _)
  cases e with
  | normal =>
    obtain ⟨e₂, a₂, cs₂, w₂, hl₂, hq₂, harr₂⟩ := hq b k hb hr hF
    exact ⟨e₂, a₂, cs₂, w₂, hl₂.trans hl, hq₂, .of_steps (.head i0 stepR_seq harr) harr₂⟩
  | exit id => exact ⟨_, a₁, cs₁, w₁, hl, hq, .of_steps (.one i0 stepR_seq) (.pass (x := .code y) rfl (fun _ _ => .inl (by simp)) harr)⟩
  | goto l => exact ⟨_, a₁, cs₁, w₁, hl, hq, .of_steps (.one i0 stepR_seq) (.pass (x := .code y) rfl (fun _ _ => .inl (by simp)) harr)⟩
  | ret => exact ⟨_, a₁, cs₁, w₁, hl, hq, .of_steps (.one i0 stepR_seq) (.pass (x := .code y) rfl (fun _ _ => .inl (by simp)) harr)⟩
  | panic ch => exact ⟨_, a₁, cs₁, w₁, hl, hq, .of_steps (.one i0 stepR_seq) (.pass (x := .code y) rfl (fun _ _ => .inl (by simp)) harr)⟩
  | outgrown => exact ⟨_, a₁, cs₁, w₁, hl, hq, .of_steps (.one i0 stepR_seq) (.pass (x := .code y) rfl (fun _ _ => .inl (by simp)) harr)⟩

theorem callsDIn_of_wpSV {f : FuncId} {fn : Func} {c : Code} {args : Array Value} {u : FrameMode} {w : World} {R : Ending → FrameMode → World → Prop} (hf : P.funcs[f]? = some fn) (hb : fn.body = some c)
    (h : ∀ (c₀ : Frame) (cs : List Frame), c₀.mode = u → wpSV P c (bodyPostS P fn c₀ cs R) { tmps := args ++ Array.replicate (fn.ntmps - args.size) undef, defers := [] } (c₀ :: cs) w) :
    CallsDIn Fence.wide 0 P f args u w R := by
  refine ⟨trivial, fun c₀ cs hu hr => ?_⟩
  let b : Frame := { (default : Frame) with fn := f, kind := .deferred, roundOf := none }
  have henter : Frame.enter P f args .deferred =
      b.atR { tmps := args ++ Array.replicate (fn.ntmps - args.size) undef, defers := [] } [.code c] := by
    simp [Frame.enter, Frame.atR, hf, hb, b]
  obtain ⟨e, a', cs', w', hlen, hq, harr⟩ := h c₀ cs hu b [] rfl rfl (by show (P.funcs[f]?).isSome = true; rw [hf]; rfl)
  rw [← henter] at harr
  cases e with
  | normal =>
    obtain ⟨hd, u', rfl, v, hr', hR⟩ := hq
    exact ⟨.returned v, u', w', _, hR, StepsIn.trans harr (.one (fenced_wide _ _) (stepR_end rfl)), rfl, rfl, rfl, hd, fn, hf, hr'⟩
  | ret =>
    obtain ⟨hd, u', rfl, v, hr', hR⟩ := hq
    obtain ⟨todo, hs⟩ := harr.1 rfl
    exact ⟨.returned v, u', w', _, hR, hs, rfl, rfl, rfl, hd, fn, hf, hr'⟩
  | panic chain =>
    obtain ⟨hd, u', rfl, hR⟩ := hq
    obtain ⟨todo, hs⟩ := harr
    exact ⟨.panicked chain, u', w', _, hR, hs, rfl, rfl, rfl, hd, fn, hf⟩
  | exit id => exact hq.elim
  | goto l => exact hq.elim
  | outgrown =>
    obtain ⟨u', hR⟩ := hq
    exact ⟨.outgrown, u', w', b, hR, harr.resolve_left (by simp [b]), rfl, rfl, trivial⟩

end Go.Ab

/- The ground of an abstract view of the machine's memory: abstract values, abstract objects, how they stand for values and worlds, and that this is kept when the ghost grows. -/
namespace Go.Ab
open Go Go.RowKit

/-- What is known of the room behind a slice: nothing may be appended (ro), there is none (full), it is that of a token at a count (at). -/
inductive Tok where
  | ro
  | full
  | at (t e : Nat)
  deriving DecidableEq, Inhabited

/-- Abstract values. -/
inductive AV where
  | top
  | bool (b : Bool)
  | int (k : IntKind) (n : Int)
  | str (s : List UInt8)
  | nilp
  | ref (id off : Nat)
  | row (xs : List AV)
  | sl (n : Nat) (xs : List AV) (tok : Tok)
  | msl (id off n : Nat)
  | vsl (id n : Nat)
  | eref (id n off : Nat)
  | map (id : Nat)
  | nilmap
  | fn (f : FuncId) (first cap : List AV)
  | yield (id : Nat)
  | nilfn
  | iface (t : TypeId) (v : AV)
  | nili
  | agg (xs : List AV)
  | tup (xs : List AV)
  deriving Inhabited

/-- Room behind a token: block, the first free cell, how many elements. -/
structure TI where
  b : Nat
  pos : Nat
  spare : Nat

structure Ghost where
  K : Nat → Nat → Option Value
  phi : List Nat
  tok : Nat → Nat → Option TI

def TokOk (g : Ghost) : Tok → Nat → Nat → Nat → Prop
  | .ro, _, _, _ => True
  | .full, _, _, spare => spare = 0
  | .at t e, b, pos, spare => ∃ ti, g.tok t e = some ti ∧ ti.spare = spare ∧ (spare = 0 ∨ ti.b = b ∧ ti.pos = pos)

def TokN (g : Ghost) : Tok → Prop
  | .at t e => ∃ ti, g.tok t e = some ti ∧ ti.spare = 0
  | _ => True

/-- An abstract value stands for a value. -/
inductive VRel (g : Ghost) : AV → Value → Prop
  | top (v : Value) : VRel g .top v
  | bool (b : Bool) : VRel g (.bool b) (.bool b)
  | int (k : IntKind) (n : Int) : VRel g (.int k n) (.int k n)
  | str (s : List UInt8) (b : ByteArray) (h : b.data.toList = s) : VRel g (.str s) (.string b)
  | nilp : VRel g .nilp (.pointer none)
  | ref (id off b : Nat) (h : g.phi[id]? = some b) : VRel g (.ref id off) (.pointer (some ⟨b, off, none⟩))
  | row (xs : List AV) (b o : Nat) (vs : Nat → Value) (hk : ∀ i, i < xs.length → g.K b (o + i) = some (vs i)) (hv : ∀ i, VRel g (xs.getD i .top) (vs i)) : VRel g (.row xs) (.pointer (some ⟨b, o, none⟩))
  | nsl (tok : Tok) {p : Option Addr} (h : TokN g tok) : VRel g (.sl 0 [] tok) (.slice p 0 0)
  | sl (n : Nat) (xs : List AV) (tok : Tok) (b o cap : Nat) (vs : Nat → Value) (hn : n ≤ cap) (hk : ∀ i, i < xs.length → g.K b (o + i) = some (vs i)) (hv : ∀ i, VRel g (xs.getD i .top) (vs i))
      (ht : TokOk g tok b (o + xs.length) (cap - n)) : VRel g (.sl n xs tok) (.slice (some ⟨b, o, none⟩) n cap)
  | msl (id off n b off' cap : Nat) (h : g.phi[id]? = some b) (hn : n ≤ cap) (ho : n = 0 ∨ off' = off) : VRel g (.msl id off n) (.slice (some ⟨b, off', none⟩) n cap)
  | vsl (id n : Nat) (ti : TI) (ht : g.tok id n = some ti) (h0 : ti.pos = 0) (hn : n ≤ ti.spare) (hs : 0 < ti.spare) : VRel g (.vsl id n) (.slice (some ⟨ti.b, 0, none⟩) n ti.spare)
  | vslN (id : Nat) {p : Option Addr} (ti : TI) (ht : g.tok id 0 = some ti) (hs : ti.spare = 0) : VRel g (.vsl id 0) (.slice p 0 0)
  | vslZ (id : Nat) (ti : TI) (b o : Nat) (ht : g.tok id 0 = some ti) (hs : ti.spare = 0) : VRel g (.vsl id 0) (.slice (some ⟨b, o, none⟩) 0 0)
  | eref (id n off : Nat) (ti : TI) (ht : g.tok id n = some ti) : VRel g (.eref id n off) (.pointer (some ⟨ti.b, off, none⟩))
  | map (id b : Nat) (h : g.phi[id]? = some b) : VRel g (.map id) (.map (some b))
  | nilmap : VRel g .nilmap (.map none)
  | fn (f : FuncId) (first cap : List AV) (fs cs : Array Value) (hl : fs.size = first.length) (hf : ∀ i, VRel g (first.getD i .top) (fs.getD i undef))
      (hm : cs.size = cap.length) (hc : ∀ i, VRel g (cap.getD i .top) (cs.getD i undef)) : VRel g (.fn f first cap) (.func (.func f) fs cs)
  | yield (id b : Nat) (h : g.phi[id]? = some b) : VRel g (.yield id) (.func (.yield b) #[] #[])
  | nilfn : VRel g .nilfn .nilFunc
  | iface (t : TypeId) (v : AV) (c : Value) (h : VRel g v c) : VRel g (.iface t v) (.iface t c)
  | nili : VRel g .nili .nilIface
  | agg (xs : List AV) (cs : Array Value) (hl : cs.size = xs.length) (hv : ∀ i, VRel g (xs.getD i .top) (cs.getD i undef)) : VRel g (.agg xs) (.agg cs)
  | tup (xs : List AV) (cs : Array Value) (hl : cs.size = xs.length) (hv : ∀ i, VRel g (xs.getD i .top) (cs.getD i undef)) : VRel g (.tup xs) (.tuple cs)

/-- Lists of abstract values and arrays of values. -/
def VRels (g : Ghost) (xs : List AV) (cs : Array Value) : Prop := cs.size = xs.length ∧ ∀ i, VRel g (xs.getD i .top) (cs.getD i undef)

/-- The ghost grows. -/
structure GLe (g g' : Ghost) : Prop where
  K : ∀ b o v, g.K b o = some v → g'.K b o = some v
  phi : ∀ i b : Nat, g.phi[i]? = some b → g'.phi[i]? = some b
  tok : ∀ t e ti, g.tok t e = some ti → g'.tok t e = some ti

theorem GLe.refl (g : Ghost) : GLe g g := ⟨fun _ _ _ h => h, fun _ _ h => h, fun _ _ _ h => h⟩
theorem GLe.trans {a b c : Ghost} (h : GLe a b) (k : GLe b c) : GLe a c :=
  ⟨fun x y v e => k.K _ _ _ (h.K x y v e), fun i x e => k.phi _ _ (h.phi i x e), fun t e ti x => k.tok _ _ _ (h.tok t e ti x)⟩

theorem TokOk.mono {g g' : Ghost} (h : GLe g g') {tok : Tok} {b pos spare : Nat} (k : TokOk g tok b pos spare) : TokOk g' tok b pos spare := by
  cases tok with
  | ro => trivial
  | full => exact k
  | «at» t e => obtain ⟨ti, h1, h2⟩ := k; exact ⟨ti, h.tok _ _ _ h1, h2⟩

theorem TokN.mono {g g' : Ghost} (h : GLe g g') {tok : Tok} (k : TokN g tok) : TokN g' tok := by
  cases tok with
  | ro => trivial
  | full => trivial
  | «at» t e => obtain ⟨ti, h1, h2⟩ := k; exact ⟨ti, h.tok _ _ _ h1, h2⟩

theorem VRel.mono {g g' : Ghost} (h : GLe g g') {v : AV} {c : Value} (r : VRel g v c) : VRel g' v c := by
  induction r with
  | top v => exact .top v
  | bool b => exact .bool b
  | int k n => exact .int k n
  | str s b h => exact .str s b h
  | nilp => exact .nilp
  | ref id off b e => exact .ref id off b (h.phi _ _ e)
  | row xs b o vs hk hv ih => exact .row xs b o vs (fun i hi => h.K _ _ _ (hk i hi)) ih
  | nsl tok e => exact .nsl tok (e.mono h)
  | sl n xs tok b o cap vs hn hk hv ht ih => exact .sl n xs tok b o cap vs hn (fun i hi => h.K _ _ _ (hk i hi)) ih (ht.mono h)
  | msl id off n b off' cap e hn ho => exact .msl id off n b off' cap (h.phi _ _ e) hn ho
  | vsl id n ti ht h0 hn hs => exact .vsl id n ti (h.tok _ _ _ ht) h0 hn hs
  | eref id n off ti ht => exact .eref id n off ti (h.tok _ _ _ ht)
  | vslN id ti ht hs => exact .vslN id ti (h.tok _ _ _ ht) hs
  | vslZ id ti b o ht hs => exact .vslZ id ti b o (h.tok _ _ _ ht) hs
  | map id b e => exact .map id b (h.phi _ _ e)
  | nilmap => exact .nilmap
  | fn f first cap fs cs hl hf hm hc ih1 ih2 => exact .fn f first cap fs cs hl ih1 hm ih2
  | yield id b e => exact .yield id b (h.phi _ _ e)
  | nilfn => exact .nilfn
  | iface t v c _ ih => exact .iface t v c ih
  | nili => exact .nili
  | agg xs cs hl _ ih => exact .agg xs cs hl ih
  | tup xs cs hl _ ih => exact .tup xs cs hl ih

theorem VRels.mono {g g' : Ghost} (h : GLe g g') {xs : List AV} {cs : Array Value} (r : VRels g xs cs) : VRels g' xs cs := ⟨r.1, fun i => (r.2 i).mono h⟩

/-- Abstract objects of memory. -/
inductive AO where
  | dead
  | cells (xs : List AV)
  | tail (sz e : Nat)
  | vec (sz n : Nat) (xs : List AV)
  | iter (s : List UInt8) (pos : Nat)
  | loop (st : LoopState) (pending : Option Code) (fn : FuncId) (tmps : List AV) (params : Array Tmp) (assign body : Code) (defers : Nat)
  | defr
  | map (es : List (AV × AV)) (clock : Nat)
  deriving Inhabited

/-- The block that an object owns. -/
def own (g : Ghost) (H : List AO) (i : Nat) : Option Nat :=
  match H[i]? with
  | none | some .dead => none
  | some (.tail _ e) => match g.tok i e with
    | some ti => if ti.spare = 0 then none else some ti.b
    | none => none
  | some (.vec _ n _) => match g.tok i n with
    | some ti => if ti.spare = 0 then none else some ti.b
    | none => none
  | some _ => g.phi[i]?

def ORep (g : Ghost) (n0 : Nat) (w : World) (i : Nat) : AO → Prop
  | .dead => True
  | .cells xs => ∃ b cs T fz, g.phi[i]? = some b ∧ n0 ≤ b ∧ w.heap[b]? = some (.cells cs T fz) ∧ xs.length ≤ cs.size ∧ (∀ k, VRel g (xs.getD k .top) (cs.getD k undef)) ∧
      (∀ k, k < xs.length → ¬ (fz.1 ≤ k ∧ k < fz.2)) ∧ ∀ o, g.K b o = none
  | .tail sz e => ∃ ti, g.tok i e = some ti ∧ (∀ e', e < e' → g.tok i e' = none) ∧ (ti.spare = 0 ∨ ∃ cs T fz, n0 ≤ ti.b ∧ w.heap[ti.b]? = some (.cells cs T fz) ∧ ti.pos + ti.spare * sz ≤ cs.size ∧
      (∀ k, ti.pos ≤ k → k < ti.pos + ti.spare * sz → ¬ (fz.1 ≤ k ∧ k < fz.2)) ∧ ∀ o, ti.pos ≤ o → g.K ti.b o = none)
  | .vec sz n xs => ∃ ti, g.tok i n = some ti ∧ (∀ e', n < e' → g.tok i e' = none) ∧ ti.pos = 0 ∧ xs.length = n * sz ∧ n ≤ ti.spare ∧ (ti.spare = 0 ∨ ∃ cs T fz, n0 ≤ ti.b ∧ w.heap[ti.b]? = some (.cells cs T fz) ∧ cs.size = ti.spare * sz ∧
      (∀ k, VRel g (xs.getD k .top) (cs.getD k undef)) ∧ (∀ k, k < cs.size → ¬ (fz.1 ≤ k ∧ k < fz.2)) ∧ ∀ o, g.K ti.b o = none)
  | .iter s pos => ∃ b t, g.phi[i]? = some b ∧ n0 ≤ b ∧ w.heap[b]? = some (.stringIter t pos) ∧ t.data.toList = s
  | .loop st pe f tmps ps asg body d => ∃ b cs db, g.phi[i]? = some b ∧ n0 ≤ b ∧ g.phi[d]? = some db ∧ VRels g tmps cs ∧
      w.heap[b]? = some (.loop { state := st, pending := pe, fn := f, tmps := cs, params := ps, assign := asg, body := body, defers := db })
  | .defr => ∃ b, g.phi[i]? = some b ∧ n0 ≤ b ∧ w.heap[b]? = some (.deferred (some []))
  | .map es clock => ∃ b ms, g.phi[i]? = some b ∧ n0 ≤ b ∧ w.heap[b]? = some (.map ms clock) ∧ ms.size = es.length ∧
      ∀ k m, ms[k]? = some m → VRel g ((es.getD k (.top, .top)).1) m.key ∧ VRel g ((es.getD k (.top, .top)).2) m.val ∧ m.born < clock

/-- An abstract heap stands for a world: what lay below n0 lies as it lay in w0; what is known holds; each object is there; no block has two owners. -/
structure Rep (n0 : Nat) (w0 : World) (gl : Nat → List AV) (g : Ghost) (H : List AO) (w : World) : Prop where
  below : Below n0 w0 w
  n0le : n0 ≤ w0.heap.size
  know : ∀ b o v, g.K b o = some v → w.cell? ⟨b, o, none⟩ = some v
  len : g.phi.length = H.length
  beyond : ∀ t e, H.length ≤ t → g.tok t e = none
  objs : ∀ i o, H[i]? = some o → ORep g n0 w i o
  apart : ∀ i j b, own g H i = some b → own g H j = some b → i = j
  glob : ∀ i, VRel g (.row (gl i)) (.pointer (some ⟨i, 0, none⟩))

end Go.Ab

/- The abstract view, 2: types, activations, endings; what it is for a piece of code, a list of operations, a call to go well over an abstract heap; the rules for code. -/
set_option linter.unusedVariables false
set_option linter.unusedSimpArgs false
namespace Go.Ab
open Go Go.RowKit

/-! ### Types -/
/-- What a type is underneath. -/
inductive UT where
  | bool
  | int (k : IntKind)
  | str
  | ptr
  | sl (e : TypeId)
  | arr (n : Nat) (e : TypeId)
  | struct (fs : List (Nat × TypeId))
  | map (k e : TypeId)
  | iface (any : Bool)
  | func
  | other
  deriving Inhabited

structure TyI where
  u : UT
  size : Nat
  bytes : Nat
  zero : List AV
  deriving Inhabited

def TyI.isAgg (i : TyI) : Bool := match i.u with | .arr .. | .struct _ => true | _ => false

def URel (P : Program) : UT → TypeDesc → Prop
  | .bool, d => d = .bool
  | .int k, d => d = .int k
  | .str, d => d = .string
  | .ptr, d => ∃ e, d = .pointer e
  | .sl e, d => d = .slice e
  | .arr n e, d => d = .array n e
  | .struct fs, d => ∃ fields, d = .struct fields ∧ fields.size = fs.length ∧ (∀ (i : Nat) (f : Field), fields[i]? = some f → fs[i]? = some (f.offset, f.type)) ∧ (∀ f : Field, f ∈ fields → f.name ≠ "_")
  | .map k e, d => d = .map k e
  | .iface any, d => ∃ ms, d = .interface ms ∧ (any = true → ms = #[])
  | .func, d => ∃ ps rs v, d = .func ps rs v
  | .other, d => match d with | .struct _ | .array .. | .interface _ | .int _ => False | _ => True

structure TyOk (P : Program) (t : TypeId) (i : TyI) : Prop where
  info : ∃ z inf, P.info? t = some inf ∧ inf.zero = some z ∧ inf.size = i.size ∧ inf.bytes = i.bytes ∧ z.cells.size = i.size ∧ i.zero.length = i.size ∧
    (i.isAgg = true → ∃ cs, z = .agg cs) ∧ (i.isAgg = false → z.cells = #[z] ∧ i.size = 1) ∧ ∀ g k, VRel g (i.zero.getD k .top) (z.cells.getD k undef)
  und : ∃ d, P.underlying t = some d ∧ URel P i.u d

/-- The surroundings: program, table of types, memory that came in. -/
structure Env where
  P : Program
  ty : TypeId → Option TyI
  ok : ∀ t i, ty t = some i → TyOk P t i
  mixed : P.follows .mixedOrders = true
  n0 : Nat
  w0 : World
  gl : Nat → List AV

abbrev Env.Rep (E : Env) (g : Ghost) (H : List AO) (w : World) : Prop := Ab.Rep E.n0 E.w0 E.gl g H w

/-! ### What stands for what -/
theorem VRel.bool_inv {g : Ghost} {b : Bool} {c : Value} (h : VRel g (.bool b) c) : c = .bool b := by cases h; rfl
theorem VRel.int_inv {g : Ghost} {k : IntKind} {n : Int} {c : Value} (h : VRel g (.int k n) c) : c = .int k n := by cases h; rfl
theorem VRel.str_inv {g : Ghost} {s : List UInt8} {c : Value} (h : VRel g (.str s) c) : c = .string ⟨s.toArray⟩ := by
  cases h with
  | str s b h => subst h; rfl

/-! ### Activations -/
inductive ADef where
  | mark (id : Nat)
  | call (f : FuncId) (args cap : List AV)
  deriving Inhabited

structure AAct where
  tmps : List AV
  defers : List ADef := []
  deriving Inhabited

inductive DRel (g : Ghost) : ADef → Deferred → Prop
  | mark (id b : Nat) (h : g.phi[id]? = some b) : DRel g (.mark id) { target := .collected b, args := #[] }
  | call (f : FuncId) (args cap : List AV) (as cs : Array Value) (h1 : VRels g args as) (h2 : VRels g cap cs) : DRel g (.call f args cap) { target := .fn (.func f) cs, args := as }

inductive DRels (g : Ghost) : List ADef → List Deferred → Prop
  | nil : DRels g [] []
  | cons {x : ADef} {y : Deferred} {xs : List ADef} {ys : List Deferred} (h : DRel g x y) (hs : DRels g xs ys) : DRels g (x :: xs) (y :: ys)

def ARel (g : Ghost) (a : AAct) (a' : Act) : Prop := VRels g a.tmps a'.tmps ∧ DRels g a.defers a'.defers

theorem DRel.mono {g g' : Ghost} (h : GLe g g') {x : ADef} {y : Deferred} (r : DRel g x y) : DRel g' x y := by
  cases r with
  | mark id b e => exact .mark id b (h.phi _ _ e)
  | call f as cs x y h1 h2 => exact .call f as cs x y (h1.mono h) (h2.mono h)
theorem DRels.mono {g g' : Ghost} (h : GLe g g') {x : List ADef} {y : List Deferred} (r : DRels g x y) : DRels g' x y := by
  induction r with
  | nil => exact .nil
  | cons a _ ih => exact .cons (a.mono h) ih
theorem ARel.mono {g g' : Ghost} (h : GLe g g') {a : AAct} {a' : Act} (r : ARel g a a') : ARel g' a a' := ⟨r.1.mono h, r.2.mono h⟩

/-- A constant's abstract value. -/
def constAV : Value → AV
  | .bool b => .bool b
  | .int k n => .int k n
  | .string s => .str s.data.toList
  | .pointer none => .nilp
  | .slice none 0 0 => .sl 0 [] .full
  | .map none => .nilmap
  | .nilFunc => .nilfn
  | .nilIface => .nili
  | _ => .top

theorem constAV_rel (g : Ghost) (v : Value) : VRel g (constAV v) v := by
  unfold constAV
  split
  · exact .bool _
  · exact .int _ _
  · exact .str _ _ rfl
  · exact .nilp
  · exact .nsl _ trivial
  · exact .nilmap
  · exact .nilfn
  · exact .nili
  · exact .top _

def AAct.ev (gl : Nat → List AV) (a : AAct) : Operand → AV
  | .tmp t => a.tmps.getD t .top
  | .const v => constAV v
  | .global g => .row (gl g)
  | .func f => .fn f [] []

theorem ev_rel {n0 : Nat} {w0 w : World} {gl : Nat → List AV} {g : Ghost} {H : List AO} {a : AAct} {a' : Act} (hr : Rep n0 w0 gl g H w) (h : ARel g a a') (x : Operand) : VRel g (a.ev gl x) (a'.eval x) := by
  cases x with
  | tmp t => exact h.1.2 t
  | const v => exact constAV_rel g v
  | global i => exact hr.glob i
  | func f => exact .fn f [] [] #[] #[] rfl (fun i => by simp; exact .top _) rfl (fun i => by simp; exact .top _)

def AAct.put (a : AAct) (dst : Option Tmp) (v : AV) : AAct :=
  match dst with
  | some d => { a with tmps := a.tmps.set d v }
  | none => a

theorem VRels.set {g : Ghost} {xs : List AV} {cs : Array Value} (h : VRels g xs cs) (d : Nat) {v : AV} {c : Value} (r : VRel g v c) : VRels g (xs.set d v) (cs.setIfInBounds d c) := by
  refine ⟨by simp [h.1], fun i => ?_⟩
  have hi := h.2 i
  simp only [List.getD_eq_getElem?_getD, Array.getD_eq_getD_getElem?] at hi ⊢
  by_cases e : d = i
  · subst e
    rw [List.getElem?_set_self', Array.getElem?_setIfInBounds_self]
    by_cases hd : d < xs.length
    · rw [if_pos (by rw [h.1]; exact hd)]
      simp [hd]; exact r
    · rw [if_neg (by rw [h.1]; exact hd)]
      simp [hd]; exact .top _
  · rw [List.getElem?_set_ne e, Array.getElem?_setIfInBounds_ne e]; exact hi

theorem ARel.put {g : Ghost} {a : AAct} {a' : Act} (h : ARel g a a') (dst : Option Tmp) {v : AV} {c : Value} (r : VRel g v c) : ARel g (a.put dst v) (a'.put dst c) := by
  cases dst with
  | none => exact h
  | some d => exact ⟨h.1.set d r, h.2⟩

/-! ### Ways out -/
structure APanic where
  v : AV
  recovered : Bool := false

inductive AX where
  | normal
  | exit (id : Nat)
  | goto (l : Nat)
  | ret
  | panic (ch : List APanic)

inductive AE where
  | ret (v : AV)
  | panic (ch : List APanic)

inductive PRels (g : Ghost) : List APanic → List PanicEntry → Prop
  | nil : PRels g [] []
  | cons {p : APanic} {v : Value} {ps : List APanic} {qs : List PanicEntry} (h : VRel g p.v v) (hs : PRels g ps qs) : PRels g (p :: ps) ({ v, recovered := p.recovered } :: qs)

theorem PRels.mono {g g' : Ghost} (h : GLe g g') {x : List APanic} {y : List PanicEntry} (r : PRels g x y) : PRels g' x y := by
  induction r with
  | nil => exact .nil
  | cons a _ ih => exact .cons (a.mono h) ih

inductive XRel (g : Ghost) : AX → Exit → Prop
  | normal : XRel g .normal .normal
  | exit (id : Nat) : XRel g (.exit id) (.exit id)
  | goto (l : Nat) : XRel g (.goto l) (.goto l)
  | ret : XRel g .ret .ret
  | panic {ch : List APanic} {cs : List PanicEntry} (h : PRels g ch cs) : XRel g (.panic ch) (.panic cs)

inductive ERel (g : Ghost) : AE → Ending → Prop
  | ret {v : AV} {c : Value} (h : VRel g v c) : ERel g (.ret v) (.returned c)
  | panic {ch : List APanic} {cs : List PanicEntry} (h : PRels g ch cs) : ERel g (.panic ch) (.panicked cs)

abbrev APost := AX → AAct → List AO → Prop

def Conc (E : Env) (g0 : Ghost) (Q : APost) : Exit → Act → World → Prop :=
  fun e a' w' => ∃ x a H g, Q x a H ∧ GLe g0 g ∧ E.Rep g H w' ∧ ARel g a a' ∧ XRel g x e

def EConc (E : Env) (g0 : Ghost) (R : AE → List AO → Prop) : Ending → World → Prop :=
  fun e w' => ∃ x H g, R x H ∧ GLe g0 g ∧ E.Rep g H w' ∧ ERel g x e

/-- The block of the record of the round in which code runs. -/
def rho (g0 : Ghost) : Option Nat → Option Nat
  | none => none
  | some l => some (g0.phi.getD l 0)

def fenceOf (g0 : Ghost) (rd : Option Nat) : Fence := FW (rho g0 rd)

/-- What a ghost at the beginning of an activation knows of numbers from N on: nothing. -/
def Dom (g : Ghost) (N : Nat) : Prop := g.phi.length = N ∧ ∀ t e, N ≤ t → g.tok t e = none

/-- A piece of code goes well. N: how many objects there were when the activation began. -/
def WPc (E : Env) (N : Nat) (rd : Option Nat) (c : Code) (Q : APost) (a : AAct) (H : List AO) : Prop :=
  ∀ g0 g w a', Dom g0 N → GLe g0 g → E.Rep g H w → ARel g a a' → wpV (rho g0 rd) E.P c (Conc E g0 Q) a' w

/-- A list of operations of a region goes well. -/
def WPo (E : Env) (N : Nat) (rd : Option Nat) (ops : Array Oper) (Q : APost) (l : List Nat) (a : AAct) (H : List AO) : Prop :=
  ∀ g0 g w a', Dom g0 N → GLe g0 g → E.Rep g H w → ARel g a a' → wpOpsIn (fenceOf g0 rd) 0 E.P ops (Conc E g0 Q) l a' w

/-- A call of a function by its number goes well, be it entered or one of the model's own. -/
def ACall (E : Env) (f : FuncId) (args : List AV) (H : List AO) (R : AE → List AO → Prop) : Prop :=
  ∀ g w cs, E.Rep g H w → VRels g args cs →
    (∃ v w', (callFunc f cs).run E.P w = .ok (.value v) w' ∧ EConc E g R (.returned v) w') ∨
    ((callFunc f cs).run E.P w = .ok (.enter f cs) w ∧ CallsIn Fence.wide 0 E.P f cs w (EConc E g R))

theorem EConc.mono {E : Env} {g : Ghost} {R R' : AE → List AO → Prop} (h : ∀ x H, R x H → R' x H) {e : Ending} {w : World} (k : EConc E g R e w) : EConc E g R' e w :=
  let ⟨x, H, g', a, b⟩ := k; ⟨x, H, g', h _ _ a, b⟩

theorem ACall.mono {E : Env} {f : FuncId} {args : List AV} {H : List AO} {R R' : AE → List AO → Prop} (h : ACall E f args H R) (k : ∀ x H, R x H → R' x H) : ACall E f args H R' := by
  intro g w cs hr hv
  rcases h g w cs hr hv with ⟨v, w', h1, h2⟩ | ⟨h1, h2⟩
  · exact .inl ⟨v, w', h1, h2.mono k⟩
  · exact .inr ⟨h1, h2.mono fun e w' hh => hh.mono k⟩

theorem Conc.mono {E : Env} {g0 : Ghost} {Q Q' : APost} (h : ∀ x a H, Q x a H → Q' x a H) {e : Exit} {a : Act} {w : World} (k : Conc E g0 Q e a w) : Conc E g0 Q' e a w :=
  let ⟨x, A, H, g, q, r⟩ := k; ⟨x, A, H, g, h _ _ _ q, r⟩

variable {E : Env} {N : Nat} {rd : Option Nat} {Q : APost} {a : AAct} {H : List AO}

theorem WPc.mono {c : Code} {Q' : APost} (h : WPc E N rd c Q a H) (k : ∀ x a H, Q x a H → Q' x a H) : WPc E N rd c Q' a H :=
  fun g0 g w a' hd hl hr ha => wpV_mono (h g0 g w a' hd hl hr ha) fun _ _ _ q => q.mono k

theorem wpc_skip (h : Q .normal a H) : WPc E N rd .skip Q a H := fun _ g _ _ _ hl hr ha => wpV_of_wpIn (wpIn_skip ⟨.normal, a, H, g, h, hl, hr, ha, .normal⟩)
theorem wpc_label {l : Nat} (h : Q .normal a H) : WPc E N rd (.label l) Q a H := fun _ g _ _ _ hl hr ha => wpV_of_wpIn (wpIn_label ⟨.normal, a, H, g, h, hl, hr, ha, .normal⟩)
theorem wpc_exit {id : Nat} (h : Q (.exit id) a H) : WPc E N rd (.exit id) Q a H := fun _ g _ _ _ hl hr ha => wpV_of_wpIn (wpIn_exit ⟨.exit id, a, H, g, h, hl, hr, ha, .exit id⟩)
theorem wpc_goto {l : Nat} (h : Q (.goto l) a H) : WPc E N rd (.goto l) Q a H := fun _ g _ _ _ hl hr ha => wpV_of_wpIn (wpIn_goto ⟨.goto l, a, H, g, h, hl, hr, ha, .goto l⟩)
theorem wpc_ret (h : Q .ret a H) : WPc E N rd .ret Q a H := fun _ g _ _ _ hl hr ha => wpV_of_wpIn (wpIn_ret ⟨.ret, a, H, g, h, hl, hr, ha, .ret⟩)

def AX.then (next : AAct → List AO → Prop) (Q : APost) : APost
  | .normal, a, H => next a H
  | x, a, H => Q x a H

theorem wpc_seq {x y : Code} (h : WPc E N rd x (AX.then (WPc E N rd y Q) Q) a H) : WPc E N rd (.seq x y) Q a H := by
  intro g0 g w a' hd hl hr ha
  refine wpV_seq (wpV_mono (h g0 g w a' hd hl hr ha) ?_)
  rintro e a2 w2 ⟨x, A, H', g', hq, hl', hr', ha', hx⟩
  cases hx with
  | normal => exact hq g0 g' w2 a2 hd hl' hr' ha'
  | exit id => exact ⟨.exit id, A, H', g', hq, hl', hr', ha', .exit id⟩
  | goto l => exact ⟨.goto l, A, H', g', hq, hl', hr', ha', .goto l⟩
  | ret => exact ⟨.ret, A, H', g', hq, hl', hr', ha', .ret⟩
  | panic hp => exact ⟨.panic _, A, H', g', hq, hl', hr', ha', .panic hp⟩

theorem wpc_cond {c : Operand} {x y : Code} {t : Bool} (hc : a.ev E.gl c = .bool t) (h1 : t = true → WPc E N rd x Q a H) (h2 : t = false → WPc E N rd y Q a H) : WPc E N rd (.cond c x y) Q a H := by
  intro g0 g w a' hd hl hr ha
  have hv := ev_rel hr ha c
  rw [hc] at hv
  have hv' : a'.eval c = .bool t := hv.bool_inv
  refine wpV_cond hv' ?_
  cases t with
  | true => exact h1 rfl g0 g w a' hd hl hr ha
  | false => exact h2 rfl g0 g w a' hd hl hr ha

def AX.inBlock (id : Nat) (Q : APost) : APost
  | .exit id', a, H => if id' = id then Q .normal a H else Q (.exit id') a H
  | x, a, H => Q x a H

theorem wpc_block {id : Nat} {c : Code} (h : WPc E N rd c (AX.inBlock id Q) a H) : WPc E N rd (.block id c) Q a H := by
  intro g0 g w a' hd hl hr ha
  refine wpV_block (wpV_mono (h g0 g w a' hd hl hr ha) ?_)
  rintro e a2 w2 ⟨x, A, H', g', hq, hl', hr', ha', hx⟩
  cases hx with
  | normal => exact ⟨.normal, A, H', g', hq, hl', hr', ha', .normal⟩
  | exit id' =>
    simp only [AX.inBlock, Exit.inBlock] at hq ⊢
    split
    · rename_i h; rw [if_pos h] at hq; exact ⟨.normal, A, H', g', hq, hl', hr', ha', .normal⟩
    · rename_i h; rw [if_neg h] at hq; exact ⟨.exit id', A, H', g', hq, hl', hr', ha', .exit id'⟩
  | goto l => exact ⟨.goto l, A, H', g', hq, hl', hr', ha', .goto l⟩
  | ret => exact ⟨.ret, A, H', g', hq, hl', hr', ha', .ret⟩
  | panic hp => exact ⟨.panic _, A, H', g', hq, hl', hr', ha', .panic hp⟩

/-! ### Forgetting -/
/-- Less is known: every pair that fits the first fits the second, with the same ghost. -/
def fgt : List AV → List AV → Prop
  | [], [] => True
  | x :: xs, y :: ys => (y = x ∨ y = .top) ∧ fgt xs ys
  | _, _ => False

theorem fgt_rels {g : Ghost} : ∀ (xs ys : List AV), fgt xs ys → ∀ cs, VRels g xs cs → VRels g ys cs := by
  intro xs ys h cs hv
  have key : ∀ (xs ys : List AV), fgt xs ys → xs.length = ys.length ∧ ∀ i, ys.getD i .top = xs.getD i .top ∨ ys.getD i .top = .top := by
    intro xs
    induction xs with
    | nil => intro ys h; cases ys with
      | nil => exact ⟨rfl, fun i => .inl rfl⟩
      | cons y ys => exact h.elim
    | cons x xs ih => intro ys h; cases ys with
      | nil => exact h.elim
      | cons y ys =>
        obtain ⟨h1, h2⟩ := h
        obtain ⟨e, k⟩ := ih ys h2
        refine ⟨by simp [e], fun i => ?_⟩
        cases i with
        | zero => simpa using h1
        | succ i => simpa using k i
  obtain ⟨e, k⟩ := key xs ys h
  refine ⟨by rw [← e]; exact hv.1, fun i => ?_⟩
  rcases k i with h | h
  · rw [h]; exact hv.2 i
  · rw [h]; exact .top _

theorem WPc.forget {c : Code} {ts ts2 : List AV} {ds : List ADef} (h : fgt ts ts2) (k : WPc E N rd c Q ⟨ts2, ds⟩ H) : WPc E N rd c Q ⟨ts, ds⟩ H :=
  fun g0 g w a' hd hl hr ha => k g0 g w a' hd hl hr ⟨fgt_rels _ _ h _ ha.1, ha.2⟩

/-- A loop: a family of states at its head, by an index whose measure goes down. -/
theorem wpc_loop {c : Code} {ι : Type} (st : ι → AAct × List AO) (μ : ι → Nat) (i : ι)
    (h0 : (st i).1.defers = a.defers ∧ fgt a.tmps (st i).1.tmps ∧ H = (st i).2)
    (round : ∀ i, WPc E N rd c (AX.then (fun a' H' => ∃ j, μ j < μ i ∧ (st j).1.defers = a'.defers ∧ fgt a'.tmps (st j).1.tmps ∧ H' = (st j).2) Q) (st i).1 (st i).2) :
    WPc E N rd (.loop c) Q a H := by
  intro g0 g w a' hd hl hr ha
  refine wpV_loopI (I := fun i a' w' => ∃ g, GLe g0 g ∧ E.Rep g (st i).2 w' ∧ ARel g (st i).1 a') μ ?_ i
    ⟨g, hl, h0.2.2 ▸ hr, fgt_rels _ _ h0.2.1 _ ha.1, h0.1 ▸ ha.2⟩
  rintro i a1 w1 ⟨g1, hl1, hr1, ha1⟩
  refine wpV_mono (round i g0 g1 w1 a1 hd hl1 hr1 ha1) ?_
  rintro e a2 w2 ⟨x, A, H', g', hq, hl', hr', ha', hx⟩
  cases hx with
  | normal =>
    obtain ⟨j, hj, e1, e2, e3⟩ := hq
    exact ⟨j, ⟨g', hl', e3 ▸ hr', fgt_rels _ _ e2 _ ha'.1, e1 ▸ ha'.2⟩, hj⟩
  | exit id => exact ⟨.exit id, A, H', g', hq, hl', hr', ha', .exit id⟩
  | goto l => exact ⟨.goto l, A, H', g', hq, hl', hr', ha', .goto l⟩
  | ret => exact ⟨.ret, A, H', g', hq, hl', hr', ha', .ret⟩
  | panic hp => exact ⟨.panic _, A, H', g', hq, hl', hr', ha', .panic hp⟩

end Go.Ab

/- The abstract view, 3: operations that only compute: what they come to over abstract values, and that it is so. -/
set_option linter.unusedVariables false
set_option linter.unusedSimpArgs false
namespace Go.Ab
open Go Go.RowKit

def byteAV (b : UInt8) : AV := .int .u8 (b.toNat : Int)
def bytesAV (s : List UInt8) : List AV := s.map byteAV

def AV.one : AV → Bool
  | .top | .agg _ | .tup _ => false
  | _ => true

def cellsOf : AV → List AV
  | .agg xs => xs
  | v => [v]

/-! ### Numbers, strings -/
def bitsOf (op : BinOp) (k : IntKind) (x y : Int) : Int :=
  k.wrap (match op with
    | .and => ((BitVec.ofInt k.bits x &&& BitVec.ofInt k.bits y).toNat : Int)
    | .or => ((BitVec.ofInt k.bits x ||| BitVec.ofInt k.bits y).toNat : Int)
    | .xor => ((BitVec.ofInt k.bits x ^^^ BitVec.ofInt k.bits y).toNat : Int)
    | _ => ((BitVec.ofInt k.bits x &&& ~~~ BitVec.ofInt k.bits y).toNat : Int))

def evInt (op : BinOp) (k : IntKind) (x y : Int) : Option AV :=
  match op with
  | .add => some (.int k (k.wrap (x + y)))
  | .sub => some (.int k (k.wrap (x - y)))
  | .mul => some (.int k (k.wrap (x * y)))
  | .quo => if y = 0 then none else some (.int k (k.wrap (x.tdiv y)))
  | .rem => if y = 0 then none else some (.int k (x.tmod y))
  | .and => some (.int k (bitsOf .and k x y))
  | .or => some (.int k (bitsOf .or k x y))
  | .xor => some (.int k (bitsOf .xor k x y))
  | .andNot => some (.int k (bitsOf .andNot k x y))
  | .eql => some (.bool (decide (x = y)))
  | .neq => some (.bool (!decide (x = y)))
  | .lss => some (.bool (decide (x < y)))
  | .leq => some (.bool (decide (x ≤ y)))
  | .gtr => some (.bool (decide (x > y)))
  | .geq => some (.bool (decide (x ≥ y)))
  | _ => none

def evStr (op : BinOp) (x y : List UInt8) : Option AV :=
  match op with
  | .add => if x.length + y.length ≤ 9223372036854775807 then some (.str (x ++ y)) else none
  | .eql => some (.bool (decide (x = y)))
  | .neq => some (.bool (!decide (x = y)))
  | .lss => some (.bool (Op.bytesLess x y))
  | .leq => some (.bool (Op.bytesLess x y || decide (x = y)))
  | .gtr => some (.bool (!(Op.bytesLess x y || decide (x = y))))
  | .geq => some (.bool (!Op.bytesLess x y))
  | _ => none

/-- Equality of values that are not of one number's kind and no strings. -/
def evEq (u : UT) (x y : AV) : Option Bool :=
  match u, x, y with
  | .bool, .bool a, .bool b => some (decide (a = b))
  | .ptr, .nilp, .nilp => some true
  | .ptr, .nilp, .ref _ _ | .ptr, .ref _ _, .nilp | .ptr, .nilp, .row _ | .ptr, .row _, .nilp => some false
  | .iface _, .nili, .iface _ _ | .iface _, .iface _ _, .nili => some false
  | .iface _, .nili, .nili => some true
  | .func, .nilfn, .nilfn => some true
  | .func, .nilfn, .fn _ _ _ | .func, .fn _ _ _, .nilfn => some false
  | .map _ _, .nilmap, .nilmap => some true
  | .map _ _, .nilmap, .map _ | .map _ _, .map _, .nilmap => some false
  | _, _, _ => none

def isConstOp : Operand → Bool
  | .const _ => true
  | _ => false

def AV.isNili : AV → Bool
  | .nili => true
  | _ => false

/-- Cells of one kind of number. -/
def allInt (k : IntKind) : List AV → Bool
  | [] => true
  | .int q _ :: l => decide (q = k) && allInt k l
  | _ :: _ => false
/-- The numbers of cells. -/
def unints : List AV → List Int
  | [] => []
  | .int _ n :: l => n :: unints l
  | _ :: l => 0 :: unints l
theorem unints_length : ∀ l : List AV, (unints l).length = l.length
  | [] => rfl
  | x :: l => by
    have := unints_length l
    cases x <;> simp [unints, this]
theorem unints_get {k : IntKind} {m : Int} : ∀ {l : List AV} {i : Nat}, l.getD i .top = .int k m → (unints l).getD i 0 = m
  | [], i, h => by simp at h
  | x :: l, 0, h => by
    have h : x = .int k m := by simpa using h
    subst h; rfl
  | x :: l, i + 1, h => by
    have ih := unints_get (l := l) (i := i) (k := k) (m := m) (by simpa using h)
    cases x <;> simpa [unints] using ih
theorem unints_bytes (s : List UInt8) : unints (bytesAV s) = s.map fun b => (b.toNat : Int) := by
  induction s with
  | nil => rfl
  | cons b s ih => show (b.toNat : Int) :: unints (bytesAV s) = _; rw [ih]; rfl
theorem unints_inj {a b : List UInt8} : unints (bytesAV a) = unints (bytesAV b) ↔ a = b := by
  rw [unints_bytes, unints_bytes]
  refine ⟨fun h => ?_, fun h => by rw [h]⟩
  induction a generalizing b with
  | nil => cases b with
    | nil => rfl
    | cons y b => simp at h
  | cons x a ih => cases b with
    | nil => simp at h
    | cons y b =>
      simp only [List.map_cons, List.cons.injEq] at h
      have e : x = y := UInt8.toNat_inj.1 (by have := h.1; omega)
      rw [e, ih h.2]
theorem allInt_bytes : ∀ s : List UInt8, allInt .u8 (bytesAV s) = true
  | [] => rfl
  | _ :: s => by
    show (decide (IntKind.u8 = IntKind.u8) && allInt .u8 (bytesAV s)) = true
    rw [allInt_bytes s]; rfl
theorem allInt_get {k : IntKind} : ∀ {l : List AV}, allInt k l = true → ∀ i, i < l.length → ∃ m, l.getD i .top = .int k m
  | [], _, i, hi => by simp at hi
  | .int q m :: l, h, i, hi => by
    simp only [allInt, Bool.and_eq_true, decide_eq_true_eq] at h
    obtain ⟨rfl, h⟩ := h
    cases i with
    | zero => exact ⟨m, rfl⟩
    | succ i => simpa using allInt_get h i (by simpa using hi)
  | .top :: _, h, _, _ | .bool _ :: _, h, _, _ | .str _ :: _, h, _, _ | .nilp :: _, h, _, _ | .ref _ _ :: _, h, _, _ | .row _ :: _, h, _, _ | .sl _ _ _ :: _, h, _, _ | .msl _ _ _ :: _, h, _, _ | .vsl _ _ :: _, h, _, _ | .eref _ _ _ :: _, h, _, _ | .map _ :: _, h, _, _ | .nilmap :: _, h, _, _ | .fn _ _ _ :: _, h, _, _ | .yield _ :: _, h, _, _ | .nilfn :: _, h, _, _ | .iface _ _ :: _, h, _, _ | .nili :: _, h, _, _ | .agg _ :: _, h, _, _ | .tup _ :: _, h, _, _ => by simp [allInt] at h

def fieldsEq (E : Env) : List (Nat × TypeId) → List AV → List AV → Option Bool
  | [], _, _ => some true
  | (off, ft) :: fs, xs, ys => match E.ty ft with
    | some i => match i.u, xs.getD off .top, ys.getD off .top with
      | .str, .str a, .str b => (fieldsEq E fs xs ys).map (decide (a = b) && ·)
      | .int _, .int k1 m, .int k2 n => if k1 = k2 then (fieldsEq E fs xs ys).map (decide (m = n) && ·) else none
      | .bool, .bool a, .bool b => (fieldsEq E fs xs ys).map (decide (a = b) && ·)
      | .arr n e, _, _ => match E.ty e with
        | some ie => match ie.u with
          | .int k => if i.size = n ∧ 0 < n ∧ allInt k ((xs.drop off).take n) = true ∧ allInt k ((ys.drop off).take n) = true ∧ ((xs.drop off).take n).length = n ∧ ((ys.drop off).take n).length = n then (fieldsEq E fs xs ys).map (decide (unints ((xs.drop off).take n) = unints ((ys.drop off).take n)) && ·) else none
          | _ => none
        | none => none
      | _, _, _ => none
    | none => none
def eqsOk (E : Env) (t : TypeId) : Bool := !E.P.stoodInHeld t && !E.P.eqGuardType E.P.depth t
def structEq (E : Env) (t : TypeId) (x y : AV) : Option Bool := match E.ty t with
  | some i => match i.u, x, y with
    | .struct fs, .agg xs, .agg ys => if eqsOk E t = true then fieldsEq E fs xs ys else none
    | .arr n e, .agg xs, .agg ys => match E.ty e with
      | some ie => match ie.u with
        | .int k => if eqsOk E t = true ∧ allInt k xs = true ∧ allInt k ys = true ∧ xs.length = n ∧ ys.length = n then some (decide (unints xs = unints ys)) else none
        | _ => none
      | none => none
    | _, _, _ => none
  | none => none

def evCmp (E : Env) (t : TypeId) (ox oy : Operand) (x y : AV) : Option Bool :=
  match structEq E t x y with
  | some b => some b
  | none => match E.ty t with
    | none => none
    | some i => if (isConstOp ox || isConstOp oy) || !(x.isNili && y.isNili) then evEq i.u x y else none

def evArith (op : BinOp) (k : IntKind) (a : Int) (k' : IntKind) (b : Int) : Option AV :=
  match op with
  | .shl => if b < 0 then none else some (.int k (k.wrap (a * 2 ^ (min b.toNat k.bits))))
  | .shr => if b < 0 then none else some (.int k (a.fdiv (2 ^ (min b.toNat k.bits))))
  | op => if k = k' then evInt op k a b else none

def evBin (E : Env) (op : BinOp) (t : TypeId) (ox oy : Operand) (x y : AV) : Option AV :=
  match x, y with
  | .int k a, .int k' b => evArith op k a k' b
  | .str a, .str b => evStr op a b
  | x, y => match op with
    | .eql => (evCmp E t ox oy x y).map .bool
    | .neq => (evCmp E t ox oy x y).map fun b => .bool (!b)
    | _ => none

theorem und_of {E : Env} {t : TypeId} {i : TyI} (h : E.ty t = some i) : ∃ d, E.P.underlying t = some d ∧ URel E.P i.u d := (E.ok t i h).und

theorem run_und {E : Env} {t : TypeId} {d : TypeDesc} (h : E.P.underlying t = some d) (w : World) : (underlying t).run E.P w = .ok d w := by
  simp [underlying, h]

theorem run_intOp (P : Program) (w : World) (op : BinOp) (t : TypeId) (k : IntKind) (a b : Int) {v : AV} (h : evInt op k a b = some v) :
    ∃ c, (binOp op t (.int k a) (.int k b)).run P w = .ok c w ∧ ∀ g, VRel g v c := by
  cases op with
  | add => injection h with h; subst h; exact ⟨_, by simp [binOp, Op.intArith], fun g => .int _ _⟩
  | sub => injection h with h; subst h; exact ⟨_, by simp [binOp, Op.intArith], fun g => .int _ _⟩
  | mul => injection h with h; subst h; exact ⟨_, by simp [binOp, Op.intArith], fun g => .int _ _⟩
  | quo =>
    by_cases hb : b = 0
    · simp [evInt, hb] at h
    · simp only [evInt, if_neg hb] at h; injection h with h; subst h; exact ⟨_, by simp [binOp, Op.intDiv, hb], fun g => .int _ _⟩
  | rem =>
    by_cases hb : b = 0
    · simp [evInt, hb] at h
    · simp only [evInt, if_neg hb] at h; injection h with h; subst h; exact ⟨_, by simp [binOp, Op.intDiv, hb], fun g => .int _ _⟩
  | and => injection h with h; subst h; exact ⟨_, by simp [binOp, Op.intBits]; rfl, fun g => by simp only [bitsOf]; exact .int _ _⟩
  | or => injection h with h; subst h; exact ⟨_, by simp [binOp, Op.intBits]; rfl, fun g => by simp only [bitsOf]; exact .int _ _⟩
  | xor => injection h with h; subst h; exact ⟨_, by simp [binOp, Op.intBits]; rfl, fun g => by simp only [bitsOf]; exact .int _ _⟩
  | andNot => injection h with h; subst h; exact ⟨.int k (bitsOf .andNot k a b), by simp [binOp, Op.intBits, bitsOf], fun g => .int _ _⟩
  | shl => simp [evInt] at h
  | shr => simp [evInt] at h
  | eql => injection h with h; subst h; exact ⟨.bool (decide (a = b)), by simp [binOp, Op.intCmp]; rfl, fun g => .bool _⟩
  | neq => injection h with h; subst h; exact ⟨.bool (!decide (a = b)), by simp [binOp, Op.intCmp]; rfl, fun g => .bool _⟩
  | lss => injection h with h; subst h; exact ⟨_, by simp [binOp, Op.intCmp], fun g => .bool _⟩
  | leq => injection h with h; subst h; exact ⟨_, by simp [binOp, Op.intCmp], fun g => .bool _⟩
  | gtr => injection h with h; subst h; exact ⟨_, by simp [binOp, Op.intCmp], fun g => .bool _⟩
  | geq => injection h with h; subst h; exact ⟨_, by simp [binOp, Op.intCmp], fun g => .bool _⟩

theorem beq_dec (a b : List UInt8) : (a == b) = decide (a = b) := by rw [Bool.eq_iff_iff]; simp

theorem run_strOp (P : Program) (w : World) (op : BinOp) (t : TypeId) (a b : List UInt8) {v : AV} (h : evStr op a b = some v) :
    ∃ c, (binOp op t (.string ⟨a.toArray⟩) (.string ⟨b.toArray⟩)).run P w = .ok c w ∧ ∀ g, VRel g v c := by
  cases op with
  | add =>
    by_cases hb : a.length + b.length ≤ 9223372036854775807
    · simp only [evStr, if_pos hb] at h; injection h with h; subst h
      have hmax : IntKind.i64.max = 9223372036854775807 := by decide
      refine ⟨.string (⟨a.toArray⟩ ++ ⟨b.toArray⟩), ?_, fun g => .str _ _ (by simp)⟩
      simp only [binOp, Op.stringOp]
      rw [if_neg]
      · rfl
      · rw [hmax]
        show ¬ (((a.toArray.size + b.toArray.size : Nat) : Int) > 9223372036854775807)
        simp; omega
    · simp [evStr, hb] at h
  | eql => injection h with h; subst h; exact ⟨.bool (decide (a = b)), by simp [binOp, Op.stringOp, beq_dec], fun g => .bool _⟩
  | neq => injection h with h; subst h; exact ⟨.bool (!decide (a = b)), by simp [binOp, Op.stringOp, beq_dec], fun g => .bool _⟩
  | lss => injection h with h; subst h; exact ⟨_, by simp [binOp, Op.stringOp, beq_dec], fun g => .bool _⟩
  | leq => injection h with h; subst h; exact ⟨_, by simp [binOp, Op.stringOp, beq_dec], fun g => .bool _⟩
  | gtr => injection h with h; subst h; exact ⟨_, by simp [binOp, Op.stringOp, beq_dec], fun g => .bool _⟩
  | geq => injection h with h; subst h; exact ⟨_, by simp [binOp, Op.stringOp, beq_dec], fun g => .bool _⟩
  | _ => simp [evStr] at h

end Go.Ab

/- The abstract view, 4: all operations that turn no memory. -/
set_option linter.unusedVariables false
set_option linter.unusedSimpArgs false
namespace Go.Ab
open Go Go.RowKit

/-! ### Reading -/
def readCells (H : List AO) (n : Nat) : AV → Option (List AV)
  | .row xs => if n ≤ xs.length then some (xs.take n) else none
  | .ref id off => match H[id]? with
    | some (.cells xs) => if off + n ≤ xs.length then some ((xs.drop off).take n) else none
    | _ => none
  | .eref id k off => match H[id]? with
    | some (.vec _ k2 xs) => if k2 = k ∧ off + n ≤ xs.length ∧ 0 < n then some ((xs.drop off).take n) else none
    | _ => none
  | _ => none

theorem add_none (b o n : Nat) : (⟨b, o, none⟩ : Addr).add n = ⟨b, o + n, none⟩ := by
  unfold Addr.add
  split
  · rename_i h; subst h; rfl
  · rfl

theorem cell_of_heap {w : World} {b : Nat} {cs : Array Value} {T : TypeId} {fz : Nat × Nat} (h : w.heap[b]? = some (.cells cs T fz)) (o : Nat) : w.cell? ⟨b, o, none⟩ = cs[o]? := by
  simp [World.cell?, h]

theorem readCells_rel {E : Env} {g : Ghost} {H : List AO} {w : World} (hr : E.Rep g H w) {n : Nat} {v : AV} {c : Value} {xs : List AV} (h : readCells H n v = some xs) (hv : VRel g v c) :
    ∃ (b o : Nat) (vs : Nat → Value), c = .pointer (some ⟨b, o, none⟩) ∧ xs.length = n ∧ (∀ i, i < n → w.cell? ⟨b, o + i, none⟩ = some (vs i)) ∧ ∀ i, VRel g (xs.getD i .top) (vs i) := by
  cases v with
  | row ys =>
    simp only [readCells] at h
    split at h
    · rename_i hle; injection h with h; subst h
      cases hv with
      | row _ b o vs hk hv =>
        refine ⟨b, o, vs, rfl, by simp; omega, fun i hi => hr.know _ _ _ (hk i (by omega)), fun i => ?_⟩
        simp only [List.getD_eq_getElem?_getD, List.getElem?_take]
        split
        · simpa only [List.getD_eq_getElem?_getD] using hv i
        · exact .top _
    · simp at h
  | ref id off =>
    simp only [readCells] at h
    split at h
    · rename_i ys hH
      split at h
      · rename_i hle; injection h with h; subst h
        obtain ⟨b', cs, T, fz, hb, hn0, hh, hsz, hvs, hfz, hK⟩ := hr.objs _ _ hH
        cases hv with
        | ref _ _ b e =>
          rw [hb] at e; injection e with e; subst e
          refine ⟨b', off, fun i => cs.getD (off + i) undef, rfl, by simp; omega, fun i hi => ?_, fun i => ?_⟩
          · rw [cell_of_heap hh]
            rw [Array.getElem?_eq_getElem (by omega)]
            simp [Array.getD_eq_getD_getElem?, Array.getElem?_eq_getElem (show off + i < cs.size by omega)]
          · simp only [List.getD_eq_getElem?_getD, List.getElem?_take, List.getElem?_drop]
            split
            · have := hvs (off + i); simpa only [List.getD_eq_getElem?_getD] using this
            · exact .top _
      · simp at h
    · simp at h
  | eref id k off =>
    simp only [readCells] at h
    split at h
    · rename_i sz m ys hH
      split at h
      · rename_i hle; injection h with h; subst h
        obtain ⟨rfl, hle, hn0⟩ := hle
        obtain ⟨ti, h1, h2', h2, h3, h4, h5⟩ := hr.objs _ _ hH
        cases hv with
        | eref _ _ _ ti2 e =>
          rw [h1] at e; injection e with e; subst e
          rcases h5 with h5 | ⟨cs, T, fz, hn0, hh, hsz, hvs, hfz, hK⟩
          · have hy : ys.length = 0 := by rw [h3, show m = 0 by omega]; simp
            omega
          · have hle2 : ys.length ≤ cs.size := by rw [hsz, h3]; exact Nat.mul_le_mul_right _ h4
            refine ⟨ti.b, off, fun i => cs.getD (off + i) undef, rfl, by simp; omega, fun i hi => ?_, fun i => ?_⟩
            · rw [cell_of_heap hh]
              rw [Array.getElem?_eq_getElem (by omega)]
              simp [Array.getD_eq_getD_getElem?, Array.getElem?_eq_getElem (show off + i < cs.size by omega)]
            · simp only [List.getD_eq_getElem?_getD, List.getElem?_take, List.getElem?_drop]
              split
              · have := hvs (off + i); simpa only [List.getD_eq_getElem?_getD] using this
              · exact .top _
      · simp at h
    · simp at h
  | _ => simp [readCells] at h

theorem loadCells_run {P : Program} {w : World} {b o n : Nat} {vs : Nat → Value} (h : ∀ i, i < n → w.cell? ⟨b, o + i, none⟩ = some (vs i)) :
    (loadCells ⟨b, o, none⟩ n).run P w = .ok ((List.range n).map vs).toArray w := by
  have := run_loadCells (P := P) (w := w) ⟨b, o, none⟩ n vs (fun j hj => by rw [add_none]; exact h j hj)
  rw [this]

/-- What is read of a type. -/
def mkVal (i : TyI) (xs : List AV) : AV := if i.isAgg then .agg xs else xs.headD .top

theorem isAgg_run {E : Env} {t : TypeId} {i : TyI} (h : E.ty t = some i) (w : World) : (isAgg t).run E.P w = .ok i.isAgg w := by
  obtain ⟨d, hd, hu⟩ := und_of h
  simp only [isAgg, Sem.run_bind, run_und hd, Result.andThen_ok]
  unfold TyI.isAgg
  cases hi : i.u with
  | struct fs => rw [hi] at hu; obtain ⟨fields, rfl, _⟩ := hu; rfl
  | arr n e => rw [hi] at hu; simp only [URel] at hu; subst hu; rfl
  | other => rw [hi] at hu; simp only [URel] at hu; cases d <;> first | rfl | exact hu.elim
  | ptr => rw [hi] at hu; obtain ⟨e, rfl⟩ := hu; rfl
  | iface a => rw [hi] at hu; obtain ⟨ms, rfl, _⟩ := hu; rfl
  | func => rw [hi] at hu; obtain ⟨ps, rs, v, rfl⟩ := hu; rfl
  | _ => rw [hi] at hu; simp only [URel] at hu; subst hu; rfl

theorem sizeOf_run {E : Env} {t : TypeId} {i : TyI} (h : E.ty t = some i) (w : World) : (sizeOf t).run E.P w = .ok i.size w := by
  obtain ⟨z, inf, h1, h2, h3, _⟩ := (E.ok t i h).info
  simp [sizeOf, typeInfo, h1, h3]

theorem load_sound {E : Env} {g : Ghost} {H : List AO} {w : World} (hr : E.Rep g H w) {t : TypeId} {i : TyI} (ht : E.ty t = some i) {v : AV} {c : Value} {xs : List AV} (h : readCells H i.size v = some xs) (hv : VRel g v c) :
    ∃ u, (Instr.loadAt t c).run E.P w = .ok u w ∧ VRel g (mkVal i xs) u := by
  obtain ⟨b, o, vs, rfl, hl, hc, hvs⟩ := readCells_rel hr h hv
  simp only [Instr.loadAt, Instr.sureAddr, loadVar, Sem.run_bind, Sem.run_pure, Result.andThen_ok, isAgg_run ht]
  unfold mkVal
  cases hi : i.isAgg with
  | true =>
    simp only [if_true]
    rw [Sem.run_bind, sizeOf_run ht, Result.andThen_ok, Sem.run_bind, loadCells_run hc, Result.andThen_ok]
    refine ⟨_, rfl, .agg _ _ (by simp [hl]) fun k => ?_⟩
    by_cases hk : k < i.size
    · have := hvs k
      simpa [Array.getD_eq_getD_getElem?, hk] using this
    · have : xs.getD k .top = .top := by simp [List.getD_eq_getElem?_getD, List.getElem?_eq_none (show xs.length ≤ k by omega)]
      rw [this]; exact .top _
  | false =>
    simp only [if_false, Bool.false_eq_true]
    obtain ⟨z, inf, _, _, _, _, _, _, _, hz, _⟩ := (E.ok t i ht).info
    have h1 := (hz hi).2
    have h0 := hc 0 (by omega)
    rw [Nat.add_zero] at h0
    refine ⟨vs 0, by simp [run_load, h0], ?_⟩
    have := hvs 0
    rw [List.headD_eq_head?_getD, List.head?_eq_getElem?]
    simpa only [List.getD_eq_getElem?_getD] using this

/-! ### All that only compute -/
/-- The bytes of cells. -/
def unbytes : List AV → Option (List UInt8)
  | [] => some []
  | .int .u8 n :: xs => (unbytes xs).map (UInt8.ofNat n.toNat :: ·)
  | _ :: _ => none

def asInt? : AV → Option Int
  | .int _ n => some n
  | _ => none

/-- A bound of a slice expression. -/
def evBound (a : AAct) (gl : Nat → List AV) (x : Option Operand) (dflt : Nat) : Option Nat :=
  match x with
  | none => some dflt
  | some o => match a.ev gl o with
    | .int _ n => if 0 ≤ n then some n.toNat else none
    | _ => none

def evSlice (E : Env) (t : TypeId) (x : AV) (lo : Option Nat) (hi : Nat → Option Nat) : Option AV :=
  match E.ty t with
  | none => none
  | some ti => match ti.u, x with
    | .str, .str s => match lo, hi s.length with
      | some l, some h => if l ≤ h ∧ h ≤ s.length then some (.str ((s.take h).drop l)) else none
      | _, _ => none
    | .sl e, .sl n xs tok => match E.ty e, lo, hi n with
      | some i, some l, some h => if l ≤ h ∧ h ≤ n ∧ xs.length = n * i.size then some (.sl (h - l) ((xs.take (h * i.size)).drop (l * i.size)) (if h = n then tok else .ro)) else none
      | _, _, _ => none
    | .sl e, .msl id off n => match E.ty e, lo, hi n with
      | some i, some l, some h => if l ≤ h ∧ h ≤ n then some (.msl id (off + l * i.size) (h - l)) else none
      | _, _, _ => none
    | .arr n e, .ref id off => match E.ty e, lo, hi n with
      | some i, some l, some h => if l ≤ h ∧ h ≤ n then some (.msl id (off + l * i.size) (h - l)) else none
      | _, _, _ => none
    | .arr n e, .row xs => match E.ty e, lo, hi n with
      | some i, some l, some h => if l ≤ h ∧ h ≤ n ∧ n * i.size ≤ xs.length then some (.sl (h - l) ((xs.take (h * i.size)).drop (l * i.size)) .ro) else none
      | _, _, _ => none
    | _, _ => none

/-- A slice expression with a third bound. -/
def evSlice3 (E : Env) (t : TypeId) (x : AV) (lo hi mx : Option Nat) : Option AV :=
  match E.ty t with
  | none => none
  | some ti => match ti.u with
    | .sl e => match E.ty e, lo, hi, mx with
      | some i, some l, some h, some m => match x with
        | .sl n xs _ => if l ≤ h ∧ h ≤ m ∧ m ≤ n ∧ xs.length = n * i.size then (if l = m then some (.sl 0 [] .full) else some (.sl (h - l) ((xs.take (h * i.size)).drop (l * i.size)) (if h = m then .full else .ro))) else none
        | .msl _ _ n => if l = m ∧ h = m ∧ m ≤ n then some (.sl 0 [] .full) else none
        | .vsl _ n => if l = m ∧ h = m ∧ m ≤ n then some (.sl 0 [] .full) else none
        | _ => none
      | _, _, _, _ => none
    | _ => none

/-- A slice seen as an array's address. -/
def evArrayAt (E : Env) (t : TypeId) (x : AV) : Option AV :=
  match E.ty t with
  | some ⟨.arr n e, _, _, _⟩ => match E.ty e, x with
    | some i, .sl m xs _ => if n ≤ m ∧ 0 < m ∧ xs.length = m * i.size then some (.row (xs.take (n * i.size))) else none
    | some _, .msl id off m => if n ≤ m ∧ 0 < m then some (.ref id off) else none
    | _, _ => none
  | _ => none

def evField (E : Env) (s : TypeId) (f : Nat) : Option (Nat × TyI) :=
  match E.ty s with
  | some ⟨.struct fs, _, _, _⟩ => match fs[f]? with
    | some (off, ft) => (E.ty ft).map fun i => (off, i)
    | none => none
  | _ => none

def evIndexAddr (E : Env) (t : TypeId) (x : AV) (k : Int) : Option AV :=
  if 0 ≤ k then
    match E.ty t with
    | some ⟨.sl e, _, _, _⟩ => match E.ty e, x with
      | some i, .sl n xs _ => if k < n then some (.row (xs.drop (k.toNat * i.size))) else none
      | some i, .msl id off n => if k < n then some (.ref id (off + k.toNat * i.size)) else none
      | some i, .vsl id n => if k < n then some (.eref id n (k.toNat * i.size)) else none
      | _, _ => none
    | some ⟨.arr n e, _, _, _⟩ => match E.ty e, x with
      | some i, .row xs => if k < n then some (.row (xs.drop (k.toNat * i.size))) else none
      | some i, .ref id off => if k < n then some (.ref id (off + k.toNat * i.size)) else none
      | _, _ => none
    | _ => none
  else none

def evConv (E : Env) (H : List AO) (src dst : TypeId) (x : AV) : Option AV :=
  match E.ty src, E.ty dst with
  | some i, some j => match i.u, j.u, x with
    | .int _, .int k, .int _ n => some (.int k (k.wrap n))
    | .str, .str, .str s => some (.str s)
    | .sl e, .str, .sl n xs _ => match E.ty e with
      | some ⟨.int .u8, _, _, _⟩ => if xs.length = n then (unbytes xs).map .str else none
      | _ => none
    | .sl e, .str, .msl id off n => match E.ty e, readCells H n (.ref id off) with
      | some ⟨.int .u8, _, _, _⟩, some xs => (unbytes xs).map .str
      | _, _ => none
    | .sl e, .str, .vsl id n => match E.ty e, (if n = 0 then some [] else readCells H n (.eref id n 0)) with
      | some ⟨.int .u8, _, _, _⟩, some xs => (unbytes xs).map .str
      | _, _ => none
    | _, _, _ => none
  | _, _ => none

def evUn (op : UnOp) (x : AV) : Option AV :=
  match op, x with
  | .not, .bool b => some (.bool (!b))
  | .neg, .int k n => some (.int k (k.wrap (0 - n)))
  | .xor, .int k n => some (.int k (bitsOf .xor k (if k.signed then -1 else k.max) n))
  | _, _ => none

def evLen : UT → AV → Option AV
  | .str, .str s => some (.int .i64 s.length)
  | .sl _, .sl n _ _ => some (.int .i64 n)
  | .sl _, .msl _ _ n => some (.int .i64 n)
  | .sl _, .vsl _ n => some (.int .i64 n)
  | .map _ _, .nilmap => some (.int .i64 0)
  | _, _ => none

def evBuiltin (E : Env) (a : AAct) (c : Call) : Option AV :=
  match c.callee with
  | .builtin b => match b, c.args.toList, c.argTypes.toList with
    | .len, [x], [t] => match E.ty t with
      | some i => evLen i.u (a.ev E.gl x)
      | none => none
    | .min, [x, y], _ => match a.ev E.gl x, a.ev E.gl y with
      | .int k m, .int k' n => if k = k' then some (.int k (if n < m then n else m)) else none
      | _, _ => none
    | .max, [x, y], _ => match a.ev E.gl x, a.ev E.gl y with
      | .int k m, .int k' n => if k = k' then some (.int k (if n > m then n else m)) else none
      | _, _ => none
    | _, _, _ => none
  | _ => none

def evPure (E : Env) (a : AAct) (H : List AO) (o : Oper) : Option AV :=
  match o.op with
  | .move x | .assign x => some (a.ev E.gl x)
  | .pick c x y => match a.ev E.gl c with
    | .bool b => some (if b then a.ev E.gl x else a.ev E.gl y)
    | _ => none
  | .load t ad => match E.ty t with
    | some i => (readCells H i.size (a.ev E.gl ad)).map (mkVal i)
    | none => none
  | .nilCheck x => match a.ev E.gl x with
    | .ref id off => some (.ref id off)
    | .eref id n off => some (.eref id n off)
    | .row xs => some (.row xs)
    | .fn f as cs => some (.fn f as cs)
    | _ => none
  | .binOp op t x y _ => evBin E op t x y (a.ev E.gl x) (a.ev E.gl y)
  | .unOp op _ x => evUn op (a.ev E.gl x)
  | .convert src dst x => evConv E H src dst (a.ev E.gl x)
  | .makeInterface t x => match E.ty t with
    | some i => match i.u with
      | .iface _ => none
      | _ => some (.iface t (a.ev E.gl x))
    | none => none
  | .makeFunc (.func f) first cap => some (.fn f (first.toList.map (a.ev E.gl)) (cap.toList.map (a.ev E.gl)))
  | .slice t x lo hi none => evSlice E t (a.ev E.gl x) (evBound a E.gl lo 0) (fun n => evBound a E.gl hi n)
  | .slice t x lo (some hi) (some mx) => evSlice3 E t (a.ev E.gl x) (evBound a E.gl lo 0) (evBound a E.gl (some hi) 0) (evBound a E.gl (some mx) 0)
  | .sliceToArrayPointer t x => evArrayAt E t (a.ev E.gl x)
  | .fieldAddr s x f => match evField E s f with
    | some (off, i) => if i.size = 0 then none else match a.ev E.gl x with
      | .ref id o => some (.ref id (o + off))
      | .eref id n o => some (.eref id n (o + off))
      | .row xs => some (.row (xs.drop off))
      | _ => none
    | none => none
  | .field s x f => match evField E s f, a.ev E.gl x with
    | some (off, i), .agg xs => if off + i.size ≤ xs.length then some (mkVal i ((xs.drop off).take i.size)) else none
    | _, _ => none
  | .indexAddr t x k => match a.ev E.gl k with
    | .int _ n => evIndexAddr E t (a.ev E.gl x) n
    | _ => none
  | .index t x k => match E.ty t, a.ev E.gl x, a.ev E.gl k with
    | some ⟨.str, _, _, _⟩, .str s, .int _ n => if 0 ≤ n ∧ n < s.length then some (byteAV (s.getD n.toNat 0)) else none
    | some ⟨.arr m e, _, _, _⟩, .agg xs, .int _ n => match E.ty e with
      | some i => if 0 ≤ n ∧ n < m ∧ n.toNat * i.size + i.size ≤ xs.length then some (mkVal i ((xs.drop (n.toNat * i.size)).take i.size)) else none
      | none => none
    | _, _, _ => none
  | .typeAssert x _ t ok => match a.ev E.gl x, E.ty t with
    | .iface u v, some i => match i.u with
      | .iface _ => none
      | _ => if u = t then some (if ok then .tup [v, .bool true] else v) else if ok then some (.tup [mkVal i i.zero, .bool false]) else none
    | _, _ => none
  | .extract t k => match a.ev E.gl t with
    | .tup xs => xs[k]?
    | _ => none
  | .call c => evBuiltin E a c
  | _ => none

end Go.Ab

/- The abstract view, 5: what the computing operations come to, they come to. -/
set_option linter.unusedVariables false
set_option linter.unusedSimpArgs false
namespace Go.Ab
open Go Go.RowKit

/-- An operation that computes: a value, the world as it was. -/
def Gives (P : Program) (g : Ghost) (s : Sem Value) (w : World) (v : AV) : Prop := ∃ c, s.run P w = .ok c w ∧ VRel g v c

theorem unbytes_rel {g : Ghost} : ∀ (xs : List AV) (s : List UInt8), unbytes xs = some s → ∀ (vs : Nat → Value), (∀ i, i < xs.length → VRel g (xs.getD i .top) (vs i)) → ∃ ns : List Int, ns.length = xs.length ∧ (∀ i, i < xs.length → vs i = .int .u8 (ns.getD i 0)) ∧ s = ns.map (fun n => UInt8.ofNat n.toNat) := by
  intro xs
  induction xs with
  | nil => intro s h vs hv; simp only [unbytes] at h; injection h with h; subst h; exact ⟨[], rfl, fun i hi => by simp at hi, rfl⟩
  | cons x xs ih =>
    intro s h vs hv
    have h0 := hv 0 (by simp)
    simp only [List.getD_cons_zero] at h0
    cases x with
    | int k n =>
      cases k <;> simp only [unbytes] at h <;> try (simp at h; done)
      cases he : unbytes xs with
      | none => rw [he] at h; simp at h
      | some t =>
        rw [he] at h; simp only [Option.map_some] at h; injection h with h; subst h
        obtain ⟨ns, h1, h2, h3⟩ := ih t he (fun i => vs (i + 1)) (fun i hi => by have := hv (i + 1) (by simp; omega); simpa using this)
        refine ⟨n :: ns, by simp [h1], fun i hi => ?_, by simp [h3]⟩
        cases i with
        | zero => simpa using h0.int_inv
        | succ i => simpa using h2 i (by simpa using hi)
    | _ => simp [unbytes] at h

theorem run_bytes0 {P : Program} {w : World} (p : Option Addr) : (Conv.bytesToString (.slice p 0 0)).run P w = .ok (.string .empty) w := by cases p <;> rfl

theorem run_bytes {P : Program} {w : World} {b o : Nat} {ns : List Int} {vs : Nat → Value} {cap : Nat} (hc : ∀ i, i < ns.length → w.cell? ⟨b, o + i, none⟩ = some (vs i)) (h : ∀ i, i < ns.length → vs i = .int .u8 (ns.getD i 0)) :
    ∃ s : ByteArray, (Conv.bytesToString (.slice (some ⟨b, o, none⟩) ns.length cap)).run P w = .ok (.string s) w ∧ s.data.toList = ns.map (fun n => UInt8.ofNat n.toNat) := by
  have hl := loadCells_run (P := P) hc
  have hm : (List.range ns.length).map vs = ns.map (Value.int .u8) := by
    apply List.ext_getElem (by simp)
    intro i h1 h2
    simp at h1 h2
    simp [h i h2, List.getD_eq_getElem?_getD, List.getElem?_eq_getElem h2]
  rw [hm] at hl
  refine ⟨_, run_bytesToString w _ _ _ ns hl, ?_⟩
  have key : ∀ (ns : List Int) (acc : ByteArray), (ns.foldl (fun r n => r.push (UInt8.ofNat n.toNat)) acc).data.toList = acc.data.toList ++ ns.map (fun n => UInt8.ofNat n.toNat) := by
    intro ns
    induction ns with
    | nil => intro acc; simp
    | cons n ns ih => intro acc; simp [ih]
  simpa using key ns ByteArray.empty

theorem part_agg {E : Env} {t : TypeId} {i : TyI} (ht : E.ty t = some i) {g : Ghost} {xs : List AV} {cs : Array Value} (hl : cs.size = xs.length) (hv : ∀ k, VRel g (xs.getD k .top) (cs.getD k undef)) (off : Nat) (hb : off + i.size ≤ xs.length) (w : World) :
    Gives E.P g (part t cs off) w (mkVal i ((xs.drop off).take i.size)) := by
  unfold Gives
  simp only [part, Sem.run_bind, isAgg_run ht, Result.andThen_ok]
  unfold mkVal
  cases hi : i.isAgg with
  | true =>
    simp only [if_true]
    rw [Sem.run_bind, sizeOf_run ht, Result.andThen_ok]
    refine ⟨_, rfl, .agg _ _ (by simp; omega) fun k => ?_⟩
    by_cases hk : k < i.size
    · have := hv (off + k)
      simp only [List.getD_eq_getElem?_getD, Array.getD_eq_getD_getElem?, List.getElem?_take, List.getElem?_drop, Array.getElem?_extract, hk, if_true] at this ⊢
      rw [if_pos (by omega)]; exact this
    · have : ((xs.drop off).take i.size).getD k .top = .top := by simp [List.getD_eq_getElem?_getD, List.getElem?_take, hk]
      rw [this]; exact .top _
  | false =>
    simp only [if_false, Bool.false_eq_true]
    obtain ⟨z, inf, _, _, _, _, _, _, _, hz, _⟩ := (E.ok t i ht).info
    have h1 := (hz hi).2
    have := hv off
    rw [Array.getD_eq_getD_getElem?, Array.getElem?_eq_getElem (show off < cs.size by omega)] at this
    rw [Array.getElem?_eq_getElem (show off < cs.size by omega)]
    refine ⟨cs[off], rfl, ?_⟩
    rw [List.headD_eq_head?_getD, List.head?_take, if_neg (by omega), List.head?_drop]
    simpa [List.getD_eq_getElem?_getD] using this

theorem bound_run {E : Env} {g : Ghost} {H : List AO} {w : World} (hr : E.Rep g H w) {a : AAct} {a' : Act} (ha : ARel g a a') {x : Operand} {k : Nat} {d : Nat} (h : evBound a E.gl (some x) d = some k) :
    ∃ q, a'.eval x = .int q (k : Int) := by
  have hv := ev_rel hr ha x
  simp only [evBound] at h
  split at h
  · rename_i q n he
    rw [he] at hv
    split at h
    · injection h with h; subst h
      exact ⟨q, by rw [hv.int_inv, Int.toNat_of_nonneg (by assumption)]⟩
    · simp at h
  · simp at h

theorem sliceBound_run {P : Program} {w : World} {q : IntKind} {k y : Nat} (h : k ≤ y) (code : BoundsCode) : (Instr.sliceBound (.int q (k : Int)) y code).run P w = .ok k w := by
  simp only [Instr.sliceBound, asIntOf, Sem.run_bind, Sem.run_pure, Result.andThen_ok]
  rw [if_pos (by omega)]
  simp

/-- The bounds of a slice expression without a third. -/
theorem sliceBounds_run {E : Env} {g : Ghost} {H : List AO} {w : World} (hr : E.Rep g H w) {a : AAct} {a' : Act} (ha : ARel g a a') {lo hi : Option Operand} {l h len cap : Nat} (isSlice : Bool)
    (hl : evBound a E.gl lo 0 = some l) (hh : evBound a E.gl hi len = some h) (h1 : l ≤ h) (h2 : h ≤ cap) :
    (Instr.sliceBounds isSlice len cap (lo.map a'.eval) (hi.map a'.eval) none).run E.P w = .ok (l, h, cap) w := by
  unfold Instr.sliceBounds
  cases hi with
  | none =>
    simp only [evBound] at hh; injection hh with hh; subst hh
    cases lo with
    | none => simp only [evBound] at hl; injection hl with hl; subst hl; simp
    | some x =>
      obtain ⟨q, hq⟩ := bound_run hr ha hl
      simp [hq, sliceBound_run h1]
  | some y =>
    obtain ⟨r, hy⟩ := bound_run hr ha hh
    cases lo with
    | none => simp only [evBound] at hl; injection hl with hl; subst hl; simp [hy, sliceBound_run h2]
    | some x =>
      obtain ⟨q, hq⟩ := bound_run hr ha hl
      simp [hq, hy, sliceBound_run h1, sliceBound_run h2]

theorem mul_le_of {h n s : Nat} (k : h ≤ n) : h * s ≤ n * s := Nat.mul_le_mul_right s k

theorem cut_row {g : Ghost} {xs : List AV} {b o : Nat} {vs : Nat → Value} (hk : ∀ i, i < xs.length → g.K b (o + i) = some (vs i)) (hv : ∀ i, VRel g (xs.getD i .top) (vs i)) (p q : Nat) :
    (∀ i, i < ((xs.take q).drop p).length → g.K b (o + p + i) = some (vs (p + i))) ∧ ∀ i, VRel g (((xs.take q).drop p).getD i .top) (vs (p + i)) := by
  refine ⟨fun i hi => ?_, fun i => ?_⟩
  · simp at hi; have := hk (p + i) (by omega); rw [← this]; congr 1; omega
  · simp only [List.getD_eq_getElem?_getD, List.getElem?_drop, List.getElem?_take]
    split
    · have := hv (p + i); simpa only [List.getD_eq_getElem?_getD] using this
    · exact .top _

theorem slice_sound {E : Env} {g : Ghost} {H : List AO} {w : World} (hr : E.Rep g H w) {a : AAct} {a' : Act} (ha : ARel g a a') {t : TypeId} {x : AV} {c : Value} (hx : VRel g x c) {lo hi : Option Operand} {v : AV}
    (h : evSlice E t x (evBound a E.gl lo 0) (fun n => evBound a E.gl hi n) = some v) : Gives E.P g (Instr.sliceAt t c (lo.map a'.eval) (hi.map a'.eval) none) w v := by
  unfold evSlice at h
  cases ht : E.ty t with
  | none => rw [ht] at h; simp at h
  | some ti =>
    rw [ht] at h
    obtain ⟨d, hd, hu⟩ := und_of ht
    obtain ⟨u, tsz, tby, tz⟩ := ti
    simp only at h hu
    unfold Gives Instr.sliceAt
    simp only [Sem.run_bind, run_und hd, Result.andThen_ok]
    cases u <;> try (simp at h; done)
    case str =>
      simp only [URel] at hu; subst hu
      cases x <;> try (simp at h; done)
      rename_i s
      simp only at h
      split at h
      · rename_i l k hl hk
        split at h
        · rename_i hle; injection h with h; subst h
          rw [hx.str_inv]
          simp only [Instr.slice, Sem.run_bind, run_und hd, Result.andThen_ok, Option.isSome_none, Bool.false_eq_true, if_false]
          have hsz : (⟨s.toArray⟩ : ByteArray).size = s.length := by simp [ByteArray.size]
          rw [hsz, sliceBounds_run hr ha false hl hk hle.1 hle.2]
          exact ⟨_, rfl, .str _ _ (by rw [ByteArray.data_extract]; simp [List.drop_take])⟩
        · simp at h
      · simp at h
    case sl e =>
      simp only [URel] at hu; subst hu
      cases x <;> try (simp at h; done)
      case sl n xs tok =>
        simp only at h
        split at h
        · rename_i i l k hi hl hk
          split at h
          · rename_i hle; injection h with h; subst h
            obtain ⟨h1, h2, h3⟩ := hle
            cases hx with
            | nsl tok hn =>
              have hk0 : k = 0 := by omega
              subst hk0
              have hl0 : l = 0 := by omega
              subst hl0
              simp only [Instr.slice, Sem.run_bind, run_und hd, Result.andThen_ok]
              rw [sliceBounds_run hr ha true hl hk h1 (Nat.le_refl _)]
              simp only [Result.andThen_ok, sizeOf_run hi, Sem.run_bind]
              exact ⟨_, rfl, by simpa using VRel.nsl _ hn⟩
            | sl _ _ _ b o cap vs hn hk' hv ht =>
              simp only [Instr.slice, Sem.run_bind, run_und hd, Result.andThen_ok]
              rw [sliceBounds_run hr ha true hl hk h1 (Nat.le_trans h2 hn)]
              simp only [Result.andThen_ok, sizeOf_run hi, Sem.run_bind, Option.map_some, add_none]
              have hc := cut_row hk' hv (l * i.size) (k * i.size)
              have hlen : ((xs.take (k * i.size)).drop (l * i.size)).length = (k - l) * i.size := by
                have := mul_le_of (s := i.size) h2
                simp [Nat.sub_mul]; omega
              have htok : ∀ o', (l ≠ cap → o' = o + l * i.size) → TokOk g (if k = n then tok else .ro) b (o' + ((xs.take (k * i.size)).drop (l * i.size)).length) (cap - l - (k - l)) := by
                intro o' ho'
                by_cases hkn : k = n
                · subst hkn
                  rw [if_pos rfl]
                  have hsp : cap - l - (k - l) = cap - k := by omega
                  rw [hsp, hlen]
                  cases tok with
                  | ro => trivial
                  | full => exact ht
                  | «at» t e =>
                    obtain ⟨ti, g1, g2, g3⟩ := ht
                    refine ⟨ti, g1, g2, ?_⟩
                    rcases g3 with g3 | ⟨g3, g4⟩
                    · exact .inl g3
                    · by_cases hlc : l = cap
                      · left; omega
                      · right
                        refine ⟨g3, ?_⟩
                        rw [ho' hlc, g4, h3]
                        have := mul_le_of (s := i.size) h1
                        rw [Nat.sub_mul]; omega
                · rw [if_neg hkn]; trivial
              by_cases hlc : cap = l
              · rw [if_pos hlc]
                refine ⟨_, rfl, .sl (k - l) _ _ b o (cap - l) (fun i' => vs (l * i.size + i')) (by omega) (fun i' hi' => ?_) hc.2 (htok o (fun e => absurd hlc.symm e))⟩
                rw [hlen] at hi'
                have : k - l = 0 := by omega
                simp [this] at hi'
              · rw [if_neg hlc]
                exact ⟨_, rfl, .sl (k - l) _ _ b (o + l * i.size) (cap - l) (fun i' => vs (l * i.size + i')) (by omega) (fun i' hi' => hc.1 i' hi') hc.2 (htok _ (fun _ => rfl))⟩
          · simp at h
        · simp at h
      case msl id off n =>
        simp only at h
        split at h
        · rename_i i l k hi hl hk
          split at h
          · rename_i hle; injection h with h; subst h
            obtain ⟨h1, h2⟩ := hle
            cases hx with
            | msl _ _ _ b off' cap hp hn ho =>
              simp only [Instr.slice, Sem.run_bind, run_und hd, Result.andThen_ok]
              rw [sliceBounds_run hr ha true hl hk h1 (Nat.le_trans h2 hn)]
              simp only [Result.andThen_ok, sizeOf_run hi, Sem.run_bind, Option.map_some, add_none]
              by_cases hlc : cap = l
              · rw [if_pos hlc]
                exact ⟨_, rfl, .msl id _ _ b _ _ hp (by omega) (.inl (by omega))⟩
              · rw [if_neg hlc]
                refine ⟨_, rfl, .msl id _ _ b _ _ hp (by omega) ?_⟩
                rcases ho with ho | ho
                · left; omega
                · right; omega
          · simp at h
        · simp at h
    case arr n e =>
      simp only [URel] at hu; subst hu
      cases x <;> try (simp at h; done)
      case ref id off =>
        simp only at h
        split at h
        · rename_i i l k hi hl hk
          split at h
          · rename_i hle; injection h with h; subst h
            obtain ⟨h1, h2⟩ := hle
            cases hx with
            | ref _ _ b hp =>
              simp only [Instr.sureAddr, Sem.run_bind, Sem.run_pure, Result.andThen_ok]
              rw [sliceBounds_run hr ha false hl hk h1 h2]
              simp only [Result.andThen_ok, sizeOf_run hi, Sem.run_bind, add_none]
              by_cases hlc : n = l
              · rw [if_pos hlc]
                exact ⟨_, rfl, .msl id _ _ b _ _ hp (by omega) (.inl (by omega))⟩
              · rw [if_neg hlc]
                exact ⟨_, rfl, .msl id _ _ b _ _ hp (by omega) (.inr rfl)⟩
          · simp at h
        · simp at h
      case row xs =>
        simp only at h
        split at h
        · rename_i i l k hi hl hk
          split at h
          · rename_i hle; injection h with h; subst h
            obtain ⟨h1, h2, h3⟩ := hle
            cases hx with
            | row _ b o vs hk' hv =>
              simp only [Instr.sureAddr, Sem.run_bind, Sem.run_pure, Result.andThen_ok]
              rw [sliceBounds_run hr ha false hl hk h1 h2]
              simp only [Result.andThen_ok, sizeOf_run hi, Sem.run_bind, add_none]
              have hc := cut_row hk' hv (l * i.size) (k * i.size)
              by_cases hlc : n = l
              · rw [if_pos hlc]
                have hkl : k = l := by omega
                refine ⟨_, rfl, .sl (k - l) _ _ b o (n - l) (fun i' => vs (l * i.size + i')) (by omega) (fun i' hi' => ?_) hc.2 trivial⟩
                subst hkl
                simp at hi'
              · rw [if_neg hlc]
                exact ⟨_, rfl, .sl (k - l) _ _ b (o + l * i.size) (n - l) (fun i' => vs (l * i.size + i')) (by omega) (fun i' hi' => hc.1 i' hi') hc.2 trivial⟩
          · simp at h
        · simp at h

/-- The bounds of a slice expression with a third. -/
theorem sliceBounds3_run {E : Env} {g : Ghost} {H : List AO} {w : World} (hr : E.Rep g H w) {a : AAct} {a' : Act} (ha : ARel g a a') {lo : Option Operand} {hi mx : Operand} {l h m len cap : Nat} (isSlice : Bool)
    (hl : evBound a E.gl lo 0 = some l) (hh : evBound a E.gl (some hi) 0 = some h) (hm : evBound a E.gl (some mx) 0 = some m) (h1 : l ≤ h) (h2 : h ≤ m) (h3 : m ≤ cap) :
    (Instr.sliceBounds isSlice len cap (lo.map a'.eval) (some (a'.eval hi)) (some (a'.eval mx))).run E.P w = .ok (l, h, m) w := by
  unfold Instr.sliceBounds
  obtain ⟨q, hq⟩ := bound_run hr ha hm
  obtain ⟨r, hy⟩ := bound_run hr ha hh
  cases lo with
  | none => simp only [evBound] at hl; injection hl with hl; subst hl; simp [hq, hy, sliceBound_run h2, sliceBound_run h3]
  | some x =>
    obtain ⟨p, hp⟩ := bound_run hr ha hl
    simp [hq, hp, hy, sliceBound_run h1, sliceBound_run h2, sliceBound_run h3]

theorem slice3_sound {E : Env} {g : Ghost} {H : List AO} {w : World} (hr : E.Rep g H w) {a : AAct} {a' : Act} (ha : ARel g a a') {t : TypeId} {x : AV} {c : Value} (hx : VRel g x c) {lo : Option Operand} {hi mx : Operand} {v : AV}
    (h : evSlice3 E t x (evBound a E.gl lo 0) (evBound a E.gl (some hi) 0) (evBound a E.gl (some mx) 0) = some v) : Gives E.P g (Instr.sliceAt t c (lo.map a'.eval) (some (a'.eval hi)) (some (a'.eval mx))) w v := by
  unfold evSlice3 at h
  cases ht : E.ty t with
  | none => rw [ht] at h; simp at h
  | some ti =>
    rw [ht] at h
    obtain ⟨d, hd, hu⟩ := und_of ht
    obtain ⟨u, tsz, tby, tz⟩ := ti
    simp only at h hu
    unfold Gives Instr.sliceAt
    simp only [Sem.run_bind, run_und hd, Result.andThen_ok]
    cases u <;> try (simp at h; done)
    rename_i e
    simp only [URel] at hu; subst hu
    simp only at h
    split at h
    · rename_i i l k m hi2 hl hk hm
      have zero : ∀ {p : Option Addr} {q n cap : Nat}, l = m → k = m → m ≤ cap → ∃ c2, (Instr.slice t (.slice p n cap) (lo.map a'.eval) (some (a'.eval hi)) (some (a'.eval mx))).run E.P w = .ok c2 w ∧ VRel g (.sl 0 [] .full) c2 := by
        intro p q n cap e1 e2 e3
        simp only [Instr.slice, Sem.run_bind, run_und hd, Result.andThen_ok]
        rw [sliceBounds3_run hr ha true hl hk hm (by omega) (by omega) e3]
        simp only [Result.andThen_ok, sizeOf_run hi2, Sem.run_bind]
        refine ⟨_, rfl, ?_⟩
        rw [show k - l = 0 by omega, show m - l = 0 by omega]
        exact .nsl .full trivial
      split at h
      · rename_i n xs tok
        split at h
        · rename_i hle
          obtain ⟨h1, h2, h3, h4⟩ := hle
          have hcap : ∀ {p : Option Addr} {n' cap : Nat}, c = .slice p n' cap → n' = n ∧ n ≤ cap := by
            intro p n' cap e
            cases hx with
            | nsl tok hn => injection e with e1 e2 e3; exact ⟨by omega, by omega⟩
            | sl _ _ _ b o cap2 vs hn hk' hv ht => injection e with e1 e2 e3; exact ⟨by omega, by omega⟩
          split at h
          · rename_i hlm
            injection h with h; subst h
            cases hx with
            | nsl tok hn => exact zero (q := 0) hlm (by omega) (by omega)
            | sl _ _ _ b o cap2 vs hn hk' hv ht => exact zero (q := 0) hlm (by omega) (by omega)
          · rename_i hlm
            injection h with h; subst h
            cases hx with
            | nsl tok hn => omega
            | sl _ _ _ b o cap vs hn hk' hv ht =>
              simp only [Instr.slice, Sem.run_bind, run_und hd, Result.andThen_ok]
              rw [sliceBounds3_run hr ha true hl hk hm h1 h2 (Nat.le_trans h3 hn)]
              simp only [Result.andThen_ok, sizeOf_run hi2, Sem.run_bind, Option.map_some, add_none]
              have hc := cut_row hk' hv (l * i.size) (k * i.size)
              rw [if_neg (fun e => hlm e.symm)]
              refine ⟨_, rfl, .sl (k - l) _ _ b (o + l * i.size) (m - l) (fun i' => vs (l * i.size + i')) (by omega) hc.1 hc.2 ?_⟩
              split
              · rename_i e; subst e; show k - l - (k - l) = 0; omega
              · trivial
        · simp at h
      · split at h
        · rename_i hle
          injection h with h; subst h
          cases hx with
          | msl _ _ _ b off' cap hb hn ho => exact zero (q := 0) hle.1 hle.2.1 (by omega)
        · simp at h
      · split at h
        · rename_i hle
          injection h with h; subst h
          cases hx with
          | vsl _ _ ti2 ht2 h0 hn hs => exact zero (q := 0) hle.1 hle.2.1 (by omega)
          | vslN _ ti2 ht2 hs => exact zero (q := 0) hle.1 hle.2.1 (by omega)
          | vslZ _ ti2 b o ht2 hs => exact zero (q := 0) hle.1 hle.2.1 (by omega)
        · simp at h
      · simp at h
    · simp at h

theorem arrayAt_sound {E : Env} {g : Ghost} {w : World} {t : TypeId} {x : AV} {c : Value} (hx : VRel g x c) {v : AV} (h : evArrayAt E t x = some v) : Gives E.P g (Instr.arrayAt t c) w v := by
  unfold evArrayAt at h
  split at h
  · rename_i n e s1 s2 s3 ht
    obtain ⟨d, hd, hu⟩ := und_of ht
    simp only [URel] at hu; subst hu
    unfold Gives Instr.arrayAt
    simp only [Sem.run_bind, run_und hd, Result.andThen_ok]
    split at h
    · rename_i i m xs tok he
      split at h
      · rename_i hc
        injection h with h; subst h
        cases hx with
        | nsl tok hn => omega
        | sl _ _ _ b o cap vs hn hk hv ht =>
          simp only
          rw [if_neg (by omega)]
          refine ⟨_, rfl, .row _ b o vs (fun i' hi' => hk i' (by rw [List.length_take] at hi'; omega)) (fun i' => ?_)⟩
          simp only [List.getD_eq_getElem?_getD, List.getElem?_take]
          split
          · simpa only [List.getD_eq_getElem?_getD] using hv i'
          · exact .top _
      · simp at h
    · rename_i i id off m he
      split at h
      · rename_i hc
        injection h with h; subst h
        cases hx with
        | msl _ _ _ b off' cap hb hn ho =>
          obtain rfl : off' = off := by rcases ho with ho | ho <;> omega
          simp only
          rw [if_neg (by omega)]
          exact ⟨_, rfl, .ref _ _ _ hb⟩
      · simp at h
    · simp at h
  · simp at h

end Go.Ab

/- The abstract view, 6: every computing operation is sound. -/
set_option linter.unusedVariables false
set_option linter.unusedSimpArgs false
namespace Go.Ab
open Go Go.RowKit

variable {E : Env} {g : Ghost} {H : List AO} {w : World} {a : AAct} {a' : Act}

theorem evField_run {s : TypeId} {f off : Nat} {i : TyI} (h : evField E s f = some (off, i)) :
    ∃ fields fl ft, E.P.underlying s = some (.struct fields) ∧ fields[f]? = some fl ∧ fl.offset = off ∧ fl.type = ft ∧ E.ty ft = some i := by
  unfold evField at h
  split at h
  · rename_i fs x1 x2 x3 hs
    split at h
    · rename_i o ft hf
      cases he : E.ty ft with
      | none => rw [he] at h; simp at h
      | some j =>
        rw [he] at h; simp only [Option.map_some] at h; injection h with h; injection h with h1 h2; subst h1; subst h2
        obtain ⟨d, hd, hu⟩ := und_of hs
        obtain ⟨fields, rfl, hsz, hfl, _⟩ := hu
        have hlt : f < fields.size := by
          rw [hsz]
          exact (List.getElem?_eq_some_iff.1 hf).1
        have h1 := hfl f fields[f] (Array.getElem?_eq_getElem hlt)
        rw [hf] at h1; injection h1 with h1; injection h1 with h1 h2
        exact ⟨fields, fields[f], ft, hd, Array.getElem?_eq_getElem hlt, h1.symm, h2.symm, he⟩
    · simp at h
  · simp at h

theorem row_drop {xs : List AV} {b o : Nat} (h : VRel g (.row xs) (.pointer (some ⟨b, o, none⟩))) (k : Nat) : VRel g (.row (xs.drop k)) (.pointer (some ⟨b, o + k, none⟩)) := by
  cases h with
  | row _ _ _ vs hk hv =>
    refine .row _ b (o + k) (fun i => vs (k + i)) (fun i hi => ?_) fun i => ?_
    · simp at hi; have := hk (k + i) (by omega); rw [← this]; congr 1; omega
    · have := hv (k + i)
      simpa only [List.getD_eq_getElem?_getD, List.getElem?_drop] using this

theorem fieldAddr_sound {s : TypeId} {f off : Nat} {i : TyI} (h : evField E s f = some (off, i)) (h0 : i.size ≠ 0) (b o : Nat) : (Instr.fieldAt s (.pointer (some ⟨b, o, none⟩)) f).run E.P w = .ok (.pointer (some ⟨b, o + off, none⟩)) w := by
  obtain ⟨fields, fl, ft, hd, hfl, rfl, rfl, he⟩ := evField_run h
  simp only [Instr.fieldAt, Sem.run_bind, run_und hd, Result.andThen_ok, hfl, Instr.sureAddr, Sem.run_pure, fieldPlace, sizeOf_run he, Sem.run_ite]
  rw [if_neg h0]
  simp [add_none]

theorem field_sound {s : TypeId} {f off : Nat} {i : TyI} (h : evField E s f = some (off, i)) {xs : List AV} {c : Value} (hx : VRel g (.agg xs) c) (hb : off + i.size ≤ xs.length) : Gives E.P g (Instr.field s c f) w (mkVal i ((xs.drop off).take i.size)) := by
  obtain ⟨fields, fl, ft, hd, hfl, rfl, rfl, he⟩ := evField_run h
  cases hx with
  | agg _ cs hl hv =>
    unfold Gives
    simp only [Instr.field, Sem.run_bind, run_und hd, Result.andThen_ok, hfl, asAgg, Sem.run_pure]
    exact part_agg he hl hv fl.offset hb w

theorem indexAddr_sound {t : TypeId} {x : AV} {c : Value} (hx : VRel g x c) {q : IntKind} {k : Int} {v : AV} (h : evIndexAddr E t x k = some v) : Gives E.P g (Instr.indexAt t c (.int q k)) w v := by
  unfold evIndexAddr at h
  split at h
  · rename_i h0
    split at h
    · rename_i e y1 y2 y3 ht
      obtain ⟨d, hd, hu⟩ := und_of ht
      simp only [URel] at hu; subst hu
      unfold Gives Instr.indexAt
      simp only [asIntOf, Sem.run_bind, Sem.run_pure, Result.andThen_ok, run_und hd]
      split at h
      · rename_i i n xs tok hi
        split at h
        · rename_i hlt; injection h with h; subst h
          cases hx with
          | nsl tok hn => simp at hlt; omega
          | sl _ _ _ b o cap vs hn hk hv htk =>
            simp only [Sem.run_bind, Sem.run_pure, Result.andThen_ok, run_und hd]
            rw [if_pos ⟨h0, by exact_mod_cast hlt⟩]
            simp only [Sem.run_bind, sizeOf_run hi, Result.andThen_ok, Sem.run_pure, add_none]
            exact ⟨_, rfl, row_drop (.row xs b o vs hk hv) _⟩
        · simp at h
      · rename_i i id off n hi
        split at h
        · rename_i hlt; injection h with h; subst h
          cases hx with
          | msl _ _ _ b off' cap hp hn ho =>
            simp only [Sem.run_bind, Sem.run_pure, Result.andThen_ok, run_und hd]
            rw [if_pos ⟨h0, by exact_mod_cast hlt⟩]
            simp only [Sem.run_bind, sizeOf_run hi, Result.andThen_ok, Sem.run_pure, add_none]
            have : off' = off := by rcases ho with ho | ho; · omega
                                    · exact ho
            subst this
            exact ⟨_, rfl, .ref id _ b hp⟩
        · simp at h
      · rename_i i id n hi
        split at h
        · rename_i hlt; injection h with h; subst h
          cases hx with
          | vslN => simp at hlt; omega
          | vslZ => simp at hlt; omega
          | vsl _ _ ti ht h0' hn hs =>
            simp only [Sem.run_bind, Sem.run_pure, Result.andThen_ok, run_und hd]
            rw [if_pos ⟨h0, by exact_mod_cast hlt⟩]
            simp only [Sem.run_bind, sizeOf_run hi, Result.andThen_ok, Sem.run_pure, add_none]
            exact ⟨_, rfl, by simpa using VRel.eref id n _ ti ht⟩
        · simp at h
      · simp at h
    · rename_i n e y1 y2 y3 ht
      obtain ⟨d, hd, hu⟩ := und_of ht
      simp only [URel] at hu; subst hu
      unfold Gives Instr.indexAt
      simp only [asIntOf, Sem.run_bind, Sem.run_pure, Result.andThen_ok, run_und hd]
      split at h
      · rename_i i xs hi
        split at h
        · rename_i hlt; injection h with h; subst h
          cases hx with
          | row _ b o vs hk hv =>
            simp only [Instr.sureAddr, Sem.run_bind, Sem.run_pure, Result.andThen_ok, run_und hd]
            rw [if_pos ⟨h0, by exact_mod_cast hlt⟩]
            simp only [Sem.run_bind, sizeOf_run hi, Result.andThen_ok, Sem.run_pure, add_none]
            exact ⟨_, rfl, row_drop (.row xs b o vs hk hv) _⟩
        · simp at h
      · rename_i i id off hi
        split at h
        · rename_i hlt; injection h with h; subst h
          cases hx with
          | ref _ _ b hp =>
            simp only [Instr.sureAddr, Sem.run_bind, Sem.run_pure, Result.andThen_ok, run_und hd]
            rw [if_pos ⟨h0, by exact_mod_cast hlt⟩]
            simp only [Sem.run_bind, sizeOf_run hi, Result.andThen_ok, Sem.run_pure, add_none]
            exact ⟨_, rfl, .ref id _ b hp⟩
        · simp at h
      · simp at h
    · simp at h
  · simp at h

theorem conv_sound (hr : E.Rep g H w) {src dst : TypeId} {x : AV} {c : Value} (hx : VRel g x c) {v : AV} (h : evConv E H src dst x = some v) : Gives E.P g (convert src dst c) w v := by
  unfold evConv at h
  split at h
  · rename_i i j hs hd
    obtain ⟨ds, hds, hus⟩ := und_of hs
    obtain ⟨dd, hdd, hud⟩ := und_of hd
    unfold Gives convert
    simp only [Sem.run_bind, run_und hds, run_und hdd, Result.andThen_ok]
    split at h
    · rename_i k1 k k2 n e1 e2
      rw [e1] at hus; rw [e2] at hud; simp only [URel] at hus hud; subst hus; subst hud
      injection h with h; subst h
      rw [hx.int_inv]
      exact ⟨_, rfl, .int _ _⟩
    · rename_i s e1 e2
      rw [e1] at hus; rw [e2] at hud; simp only [URel] at hus hud; subst hus; subst hud
      injection h with h; subst h
      rw [hx.str_inv]
      exact ⟨_, rfl, .str _ _ (by simp)⟩
    · rename_i e n xs tok e1 e2
      rw [e1] at hus; rw [e2] at hud; simp only [URel] at hus hud; subst hus; subst hud
      split at h
      · rename_i y1 y2 y3 he
        obtain ⟨de, hde, hue⟩ := und_of he
        simp only [URel] at hue; subst hue
        split at h
        · rename_i hlen
          cases hu : unbytes xs with
          | none => rw [hu] at h; simp at h
          | some s =>
            rw [hu] at h; simp only [Option.map_some] at h; injection h with h; subst h
            cases hx with
            | nsl tok hn =>
              simp only [unbytes] at hu; injection hu with hu; subst hu
              simp only [Sem.run_bind, run_und hde, Result.andThen_ok, run_bytes0]
              exact ⟨_, rfl, .str _ _ rfl⟩
            | sl _ _ _ b o cap vs hn hk hv htk =>
              obtain ⟨ns, h1, h2, h3⟩ := unbytes_rel xs s hu vs (fun i _ => hv i)
              obtain ⟨st, h4, h5⟩ := run_bytes (P := E.P) (w := w) (b := b) (o := o) (ns := ns) (vs := vs) (cap := cap) (fun i hi => hr.know _ _ _ (hk i (by omega))) (fun i hi => h2 i (by omega))
              simp only [Sem.run_bind, run_und hde, Result.andThen_ok]
              rw [show n = ns.length by omega, h4]
              exact ⟨_, rfl, .str _ _ (by rw [h5, h3])⟩
        · simp at h
      · simp at h
    · rename_i e id off n e1 e2
      rw [e1] at hus; rw [e2] at hud; simp only [URel] at hus hud; subst hus; subst hud
      split at h
      · rename_i y1 y2 y3 xs he hrd
        obtain ⟨de, hde, hue⟩ := und_of he
        simp only [URel] at hue; subst hue
        cases hu : unbytes xs with
        | none => rw [hu] at h; simp at h
        | some s =>
          rw [hu] at h; simp only [Option.map_some] at h; injection h with h; subst h
          cases hx with
          | msl _ _ _ b off' cap hp hn ho =>
            obtain ⟨b2, o2, vs, hc, hl, hcs, hvs⟩ := readCells_rel hr hrd (.ref id off b hp)
            injection hc with hc; injection hc with hc; injection hc with hc1 hc2 _; subst hc1; subst hc2
            obtain ⟨ns, h1, h2, h3⟩ := unbytes_rel xs s hu vs (fun i _ => hvs i)
            obtain ⟨st, h4, h5⟩ := run_bytes (P := E.P) (w := w) (b := b) (o := off') (ns := ns) (vs := vs) (cap := cap)
              (fun i hi => by
                rcases ho with ho | ho
                · omega
                · subst ho; exact hcs i (by omega)) (fun i hi => h2 i (by omega))
            simp only [Sem.run_bind, run_und hde, Result.andThen_ok]
            rw [show n = ns.length by omega, h4]
            exact ⟨_, rfl, .str _ _ (by rw [h5, h3])⟩
      · simp at h
    · rename_i e id n e1 e2
      rw [e1] at hus; rw [e2] at hud; simp only [URel] at hus hud; subst hus; subst hud
      split at h
      · rename_i y1 y2 y3 xs he hrd
        obtain ⟨de, hde, hue⟩ := und_of he
        simp only [URel] at hue; subst hue
        cases hu : unbytes xs with
        | none => rw [hu] at h; simp at h
        | some s =>
          rw [hu] at h; simp only [Option.map_some] at h; injection h with h; subst h
          have hempty : n = 0 → s = [] := by
            rintro rfl
            rw [if_pos rfl] at hrd
            injection hrd with hrd; subst hrd
            simp [unbytes] at hu; exact hu
          cases hx with
          | vslN =>
            rw [hempty rfl]
            simp only [Sem.run_bind, run_und hde, Result.andThen_ok, run_bytes0]
            exact ⟨_, rfl, .str _ _ rfl⟩
          | vslZ _ ti b o =>
            rw [hempty rfl]
            have h4 := run_bytes (P := E.P) (w := w) (b := b) (o := o) (ns := []) (vs := fun _ => undef) (cap := 0) (fun i hi => by simp at hi) (fun i hi => by simp at hi)
            obtain ⟨st, h4, h5⟩ := h4
            simp only [Sem.run_bind, run_und hde, Result.andThen_ok]
            exact ⟨_, h4, .str _ _ (by rw [h5]; rfl)⟩
          | vsl _ _ ti ht h0 hn hs =>
            by_cases hn0 : n = 0
            · rw [hempty hn0]
              have h4 := run_bytes (P := E.P) (w := w) (b := ti.b) (o := 0) (ns := []) (vs := fun _ => undef) (cap := ti.spare) (fun i hi => by simp at hi) (fun i hi => by simp at hi)
              obtain ⟨st, h4, h5⟩ := h4
              simp only [Sem.run_bind, run_und hde, Result.andThen_ok]
              subst hn0
              exact ⟨_, h4, .str _ _ (by rw [h5]; rfl)⟩
            rw [if_neg hn0] at hrd
            obtain ⟨b2, o2, vs, hc, hl, hcs, hvs⟩ := readCells_rel hr hrd (.eref id n 0 ti ht)
            injection hc with hc; injection hc with hc; injection hc with hc1 hc2 _; subst hc1; subst hc2
            obtain ⟨ns, h1, h2, h3⟩ := unbytes_rel xs s hu vs (fun i _ => hvs i)
            obtain ⟨st, h4, h5⟩ := run_bytes (P := E.P) (w := w) (b := ti.b) (o := 0) (ns := ns) (vs := vs) (cap := ti.spare)
              (fun i hi => hcs i (by omega)) (fun i hi => h2 i (by omega))
            simp only [Sem.run_bind, run_und hde, Result.andThen_ok]
            rw [show n = ns.length by omega, h4]
            exact ⟨_, rfl, .str _ _ (by rw [h5, h3])⟩
      · simp at h
    · simp at h
  · simp at h

theorem un_sound {op : UnOp} {x : AV} {c : Value} (hx : VRel g x c) {v : AV} (h : evUn op x = some v) : Gives E.P g (Op.unary op c) w v := by
  unfold evUn at h
  split at h
  · injection h with h; subst h; rw [hx.bool_inv]; exact ⟨_, rfl, .bool _⟩
  · injection h with h; subst h; rw [hx.int_inv]; exact ⟨_, rfl, .int _ _⟩
  · rename_i k n
    injection h with h; subst h; rw [hx.int_inv]; exact ⟨.int k (bitsOf .xor k (if k.signed then -1 else k.max) n), by simp [Op.unary, Op.intBits, bitsOf], .int _ _⟩
  · simp at h

theorem eqGuard_ok {op : BinOp} {t : TypeId} {x y : Operand} {u v : Value} (h : (isConstOp x || isConstOp y) = true ∨ ¬ (u = .nilIface ∧ v = .nilIface)) (hagg : ∀ cs, u ≠ .agg cs) : (eqGuard op t x y u v).run E.P w = .ok () w := by
  unfold eqGuard
  cases op <;> first | rfl | skip
  all_goals
    simp only [Bool.not_true, Bool.false_eq_true, if_false]
    split
    · rcases h with h | h
      · cases x <;> cases y <;> first | rfl | (simp [isConstOp] at h)
      · exact absurd ⟨rfl, rfl⟩ h
    · exact absurd rfl (hagg _)
    · rfl

theorem eqIn_sound (dep : Nat) {t : TypeId} {i : TyI} (ht : E.ty t = some i) {x y : AV} {u v : Value} (hx : VRel g x u) (hy : VRel g y v) {b : Bool} (h : evEq i.u x y = some b) : (Op.equalIn (dep + 1) t u v).run E.P w = .ok b w ∧ (∀ cs, u ≠ .agg cs) := by
  obtain ⟨d, hd, hu⟩ := und_of ht
  simp only [Op.equalIn, Sem.run_bind, run_und hd, Result.andThen_ok]
  obtain ⟨iu, s1, s2, s3⟩ := i
  simp only at h hu
  cases iu
  case bool =>
    simp only [URel] at hu; subst hu
    cases x <;> cases y <;> simp only [evEq] at h <;> try (simp at h; done)
    injection h with h; subst h
    rw [hx.bool_inv, hy.bool_inv]
    refine ⟨?_, fun _ hh => by cases hh⟩
    simp only [Sem.run_pure]; congr 1
  case ptr =>
    obtain ⟨e, rfl⟩ := hu
    cases x <;> cases y <;> simp only [evEq] at h <;> try (simp at h; done)
    all_goals (injection h with h; subst h; cases hx; cases hy; exact ⟨rfl, fun _ hh => by cases hh⟩)
  case iface any =>
    obtain ⟨ms, rfl, _⟩ := hu
    cases x <;> cases y <;> simp only [evEq] at h <;> try (simp at h; done)
    all_goals (injection h with h; subst h; cases hx; cases hy; exact ⟨rfl, fun _ hh => by cases hh⟩)
  case func =>
    obtain ⟨ps, rs, vv, rfl⟩ := hu
    cases x <;> cases y <;> simp only [evEq] at h <;> try (simp at h; done)
    all_goals (injection h with h; subst h; cases hx; cases hy; exact ⟨rfl, fun _ hh => by cases hh⟩)
  case map k e =>
    simp only [URel] at hu; subst hu
    cases x <;> cases y <;> simp only [evEq] at h <;> try (simp at h; done)
    all_goals (injection h with h; subst h; cases hx; cases hy; exact ⟨rfl, fun _ hh => by cases hh⟩)
  all_goals (unfold evEq at h; split at h <;> first | (simp at h; done) | (rename_i hq; cases hq))

theorem eq_sound {t : TypeId} {i : TyI} (ht : E.ty t = some i) {x y : AV} {u v : Value} (hx : VRel g x u) (hy : VRel g y v) {b : Bool} (h : evEq i.u x y = some b) : (Op.equal t u v).run E.P w = .ok b w ∧ (∀ cs, u ≠ .agg cs) :=
  eqIn_sound 9999 ht hx hy h

theorem arith_sound {op : BinOp} {t : TypeId} {k : IntKind} {m : Int} {k' : IntKind} {n : Int} {r : AV} (h : evArith op k m k' n = some r) : Gives E.P g (binOp op t (.int k m) (.int k' n)) w r := by
  have other : (if k = k' then evInt op k m n else none) = some r → Gives E.P g (binOp op t (.int k m) (.int k' n)) w r := by
    clear h
    intro h'
    by_cases hk : k = k'
    · subst hk
      rw [if_pos rfl] at h'
      obtain ⟨c, h1, h2⟩ := run_intOp E.P w op t k m n h'
      exact ⟨c, h1, h2 g⟩
    · rw [if_neg hk] at h'; simp at h'
  cases op <;> first
    | exact other h
    | (simp only [evArith] at h
       split at h
       · simp at h
       · rename_i hn; injection h with h; subst h
         exact ⟨_, by simp [binOp, Op.shift, hn], .int _ _⟩)

theorem binEq_run {t : TypeId} {i : UT} {x y : AV} {u v : Value} (hx : VRel g x u) (hy : VRel g y v) {b : Bool} (h : evEq i x y = some b) :
    binOp .eql t u v = (do pure (.bool (← Op.equal t u v))) ∧ binOp .neq t u v = (do pure (.bool (!(← Op.equal t u v)))) := by
  unfold evEq at h
  split at h <;> first | (simp at h; done) | skip
  all_goals (cases hx; cases hy; exact ⟨rfl, rfl⟩)

theorem nili_inv {x : AV} {u : Value} (hx : VRel g x u) (hu : u = .nilIface) (h : x ≠ .top) : x.isNili = true := by
  subst hu; cases hx <;> first | rfl | exact absurd rfl h

theorem leaf_part {t : TypeId} {i : TyI} (ht : E.ty t = some i) (hi : i.isAgg = false) {xs : List AV} {cs : Array Value} (hl : cs.size = xs.length) (hv : ∀ k, VRel g (xs.getD k .top) (cs.getD k undef)) (off : Nat) (hx : xs.getD off .top ≠ .top) (w : World) :
    ∃ c, (part t cs off).run E.P w = .ok c w ∧ VRel g (xs.getD off .top) c := by
  have hlt : off < xs.length := Nat.lt_of_not_le fun h => hx (by simp [List.getD_eq_getElem?_getD, h])
  obtain ⟨z, inf, _, _, _, _, _, _, _, hz, _⟩ := (E.ok t i ht).info
  have h1 := (hz hi).2
  obtain ⟨c, h2, h3⟩ := part_agg ht hl hv off (by omega) w
  refine ⟨c, h2, ?_⟩
  unfold mkVal at h3
  rw [hi, h1] at h3
  simp only [Bool.false_eq_true, if_false] at h3
  rw [List.headD_eq_head?_getD, List.head?_take, if_neg (by omega), List.head?_drop] at h3
  simpa [List.getD_eq_getElem?_getD] using h3

/-- Equality of arrays of numbers. -/
theorem arrEq_run (d : Nat) {t e : TypeId} {n : Nat} {k : IntKind} (hu : E.P.underlying t = some (.array n e)) {ie : TyI} (hie : E.ty e = some ie) (hk : ie.u = .int k) {l1 l2 : List AV} (h1 : allInt k l1 = true) (h2 : allInt k l2 = true) (e1 : l1.length = n) (e2 : l2.length = n)
    {cs ds : Array Value} (hl1 : cs.size = l1.length) (hv1 : ∀ i, VRel g (l1.getD i .top) (cs.getD i undef)) (hl2 : ds.size = l2.length) (hv2 : ∀ i, VRel g (l2.getD i .top) (ds.getD i undef)) : (Op.equalIn (d + 2) t (.agg cs) (.agg ds)).run E.P w = .ok (decide (unints l1 = unints l2)) w := by
  obtain ⟨dd, hd, hu2⟩ := und_of hie
  rw [hk] at hu2
  simp only [URel] at hu2
  subst hu2
  have hagg : ie.isAgg = false := by unfold TyI.isAgg; rw [hk]
  obtain ⟨z, inf, p1, _, p3, _, _, _, _, hz, _⟩ := (E.ok e ie hie).info
  have hsz := (hz hagg).2
  have hc : E.P.cellsOf e = 1 := by
    have := run_sizeOf (P := E.P) w p1
    rw [sizeOf_run hie] at this
    simp only [Result.ok.injEq] at this
    rw [← this.1, hsz]
  rw [run_equalIn_array w (d + 1) cs ds hu p1, hc]
  have key : ∀ is : List Nat, (∀ i ∈ is, i < n) → (Op.eqItems (d + 1) e 1 cs ds is).run E.P w = .ok (decide (∀ i ∈ is, (unints l1).getD i 0 = (unints l2).getD i 0)) w := by
    intro is
    induction is with
    | nil => intro _; simp [Op.eqItems]
    | cons i is ih =>
      intro hi
      have hin := hi i (by simp)
      obtain ⟨m1, q1⟩ := allInt_get h1 i (by omega)
      obtain ⟨m2, q2⟩ := allInt_get h2 i (by omega)
      obtain ⟨u, r1, r2⟩ := leaf_part (w := w) hie hagg hl1 hv1 i (by rw [q1]; simp)
      obtain ⟨v, s1, s2⟩ := leaf_part (w := w) hie hagg hl2 hv2 i (by rw [q2]; simp)
      rw [q1] at r2; rw [q2] at s2
      rw [r2.int_inv] at r1; rw [s2.int_inv] at s1
      simp only [Op.eqItems, Nat.mul_one, Sem.run_bind, r1, s1, Result.andThen_ok, run_equalIn_int w d e k k m1 m2 hd]
      by_cases hm : m1 = m2
      · subst hm
        simp only [beq_self_eq_true, Bool.not_true, Bool.false_eq_true, if_false]
        rw [ih (fun j hj => hi j (by simp [hj]))]
        congr 1
        rw [decide_eq_decide]
        constructor
        · intro h j hj
          rcases List.mem_cons.1 hj with e | e
          · subst e; rw [unints_get q1, unints_get q2]
          · exact h j e
        · intro h j hj; exact h j (List.mem_cons_of_mem _ hj)
      · have : (m1 == m2) = false := by simpa using hm
        simp only [this, Bool.not_false, if_true, Sem.run_pure]
        congr 1
        symm
        rw [decide_eq_false_iff_not]
        intro h
        have := h i (by simp)
        rw [unints_get q1, unints_get q2] at this
        exact hm this
  rw [key (List.range n) (fun i hi => List.mem_range.1 hi)]
  congr 1
  rw [decide_eq_decide]
  constructor
  · intro h
    have u1 := unints_length l1
    have u2 := unints_length l2
    apply List.ext_getElem (by omega)
    intro i k1 k2
    have := h i (List.mem_range.2 (by omega))
    simpa [List.getD_eq_getElem?_getD, k1, k2] using this
  · intro h i _; rw [h]

theorem fieldsEq_run (d : Nat) {xs ys : List AV} {cs ds : Array Value} (hl1 : cs.size = xs.length) (hv1 : ∀ k, VRel g (xs.getD k .top) (cs.getD k undef)) (hl2 : ds.size = ys.length) (hv2 : ∀ k, VRel g (ys.getD k .top) (ds.getD k undef)) :
    ∀ (fl : List Field), (∀ f ∈ fl, f.name ≠ "_") → ∀ b, fieldsEq E (fl.map fun f => (f.offset, f.type)) xs ys = some b → (Op.eqFields (d + 2) cs ds fl).run E.P w = .ok b w
  | [], _, b, h => by
    simp only [List.map_nil, fieldsEq, Option.some.injEq] at h; subst h; simp [Op.eqFields]
  | f :: fl, hn, b, h => by
    have ih := fieldsEq_run d hl1 hv1 hl2 hv2 fl (fun f' hf => hn f' (by simp [hf]))
    have hnf : f.name ≠ "_" := hn f (by simp)
    simp only [List.map_cons, fieldsEq] at h
    cases ht : E.ty f.type with
    | none => rw [ht] at h; simp at h
    | some i =>
      rw [ht] at h
      simp only at h
      obtain ⟨dd, hd, hu⟩ := und_of ht
      obtain ⟨iu, s1, s2, s3⟩ := i
      simp only at h hu
      have step : ∀ {x y : AV} {r : Bool}, xs.getD f.offset .top = x → ys.getD f.offset .top = y → x ≠ .top → y ≠ .top → TyI.isAgg ⟨iu, s1, s2, s3⟩ = false →
          (∀ u v, VRel g x u → VRel g y v → (Op.equalIn (d + 2) f.type u v).run E.P w = .ok r w) → ∀ {b'}, fieldsEq E (fl.map fun f => (f.offset, f.type)) xs ys = some b' → (r && b') = b → (Op.eqFields (d + 2) cs ds (f :: fl)).run E.P w = .ok b w := by
        intro x y r h1 h2 h3 h4 ha h5 b' h6 h7
        obtain ⟨u, p1, p2⟩ := leaf_part (w := w) ht ha hl1 hv1 f.offset (by rw [h1]; exact h3)
        obtain ⟨v, q1, q2⟩ := leaf_part (w := w) ht ha hl2 hv2 f.offset (by rw [h2]; exact h4)
        rw [h1] at p2
        rw [h2] at q2
        simp only [Op.eqFields, hnf, ne_eq, not_false_eq_true, if_true, Sem.run_bind, p1, q1, h5 u v p2 q2, Result.andThen_ok]
        cases r
        · simp only [Bool.not_false, if_true, Sem.run_pure]
          rw [← h7]; rfl
        · simp only [Bool.not_true, Bool.false_eq_true, if_false]
          rw [ih b' h6, ← h7]; rfl
      split at h
      · rename_i a c e1 e2
        rw [Option.map_eq_some_iff] at h
        obtain ⟨b', h6, h7⟩ := h
        refine step e1 e2 (by simp) (by simp) rfl (fun u v hu' hv' => ?_) h6 h7
        rw [hu'.str_inv, hv'.str_inv, run_equalIn_string w (d + 1) _ _ _ (by rw [hd]; simpa [URel] using hu)]
        congr 1
        simp [Bool.beq_eq_decide_eq]
      · rename_i kk k1 m k2 n e1 e2
        split at h
        · rename_i hk
          subst hk
          rw [Option.map_eq_some_iff] at h
          obtain ⟨b', h6, h7⟩ := h
          refine step e1 e2 (by simp) (by simp) rfl (fun u v hu' hv' => ?_) h6 h7
          rw [hu'.int_inv, hv'.int_inv, run_equalIn_int w (d + 1) _ _ _ _ _ (by rw [hd]; simp only [URel] at hu; rw [hu])]
          congr 1
        · simp at h
      · rename_i a c e1 e2
        rw [Option.map_eq_some_iff] at h
        obtain ⟨b', h6, h7⟩ := h
        refine step e1 e2 (by simp) (by simp) rfl (fun u v hu' hv' => ?_) h6 h7
        rw [hu'.bool_inv, hv'.bool_inv, run_equalIn_bool' w (d + 1) _ _ _ (by rw [hd]; simpa [URel] using hu)]
        congr 1
      · rename_i n e
        split at h
        · rename_i ie hie
          split at h
          · rename_i k hk
            split at h
            · rename_i hc
              obtain ⟨c1, c0, c2, c3, c4, c5⟩ := hc
              subst c1
              rw [Option.map_eq_some_iff] at h
              obtain ⟨b', h6, h7⟩ := h
              simp only [URel] at hu
              subst hu
              have k4 := c4; have k5 := c5
              simp only [List.length_take, List.length_drop] at k4 k5
              obtain ⟨u, p1, p2⟩ := part_agg ht hl1 hv1 f.offset (by simp only; omega) w
              obtain ⟨v, q1, q2⟩ := part_agg ht hl2 hv2 f.offset (by simp only; omega) w
              simp only [mkVal, TyI.isAgg, if_true] at p2 q2
              cases p2 with
              | agg _ cs' m1 m2 => cases q2 with
                | agg _ ds' m3 m4 =>
                  have hq := arrEq_run (w := w) d hd hie hk c2 c3 c4 c5 m1 m2 m3 m4
                  simp only [Op.eqFields, hnf, ne_eq, not_false_eq_true, if_true, Sem.run_bind, p1, q1, hq, Result.andThen_ok]
                  by_cases hr : unints (List.take s1 (List.drop f.offset xs)) = unints (List.take s1 (List.drop f.offset ys))
                  · simp only [decide_eq_true hr, Bool.not_true, Bool.false_eq_true, if_false]
                    rw [ih b' h6, ← h7, decide_eq_true hr]; rfl
                  · simp only [decide_eq_false hr, Bool.not_false, if_true, Sem.run_pure]
                    rw [← h7, decide_eq_false hr]; rfl
            · simp at h
          · simp at h
        · simp at h
      · simp at h

theorem structEq_sound {op : BinOp} {t : TypeId} {ox oy : Operand} {x y : AV} {u v : Value} (hx : VRel g x u) (hy : VRel g y v) {b : Bool} (h : structEq E t x y = some b) :
    (eqGuard op t ox oy u v).run E.P w = .ok () w ∧ (Op.equal t u v).run E.P w = .ok b w ∧ binOp .eql t u v = (do pure (.bool (← Op.equal t u v))) ∧ binOp .neq t u v = (do pure (.bool (!(← Op.equal t u v)))) := by
  unfold structEq at h
  split at h
  · rename_i i ht
    split at h
    · rename_i fs xs ys hu0
      split at h
      · rename_i hok
        simp only [eqsOk, Bool.and_eq_true, Bool.not_eq_true'] at hok
        obtain ⟨dd, hd, hu⟩ := und_of ht
        rw [hu0] at hu
        obtain ⟨fields, rfl, hsz, hfs, hnm⟩ := hu
        have hfo : E.P.fieldsOf t = fields := by unfold Program.fieldsOf; rw [hd]
        have hmap : fields.toList.map (fun f => (f.offset, f.type)) = fs := by
          apply List.ext_getElem?
          intro k
          rw [List.getElem?_map, Array.getElem?_toList]
          cases hk : fields[k]? with
          | none =>
            have : fs[k]? = none := List.getElem?_eq_none (by have := Array.getElem?_eq_none_iff.1 hk; omega)
            rw [this]; rfl
          | some f => rw [hfs k f hk]; rfl
        cases hx with
        | agg _ cs hl1 hv1 => cases hy with
          | agg _ ds hl2 hv2 =>
            refine ⟨run_eqGuard_agg w op t ox oy cs ds hok.2, ?_, rfl, rfl⟩
            show (Op.equalIn 10000 t (.agg cs) (.agg ds)).run E.P w = _
            rw [run_equalIn_struct w 9999 t cs ds (by rw [hfo]; exact hd) hok.1, hfo]
            exact fieldsEq_run 9997 hl1 hv1 hl2 hv2 fields.toList (fun f hf => hnm f (by simpa using hf)) b (by rw [hmap]; exact h)
      · simp at h
    · rename_i n e xs ys hu0
      split at h
      · rename_i ie hie
        split at h
        · rename_i k hk
          split at h
          · rename_i hc
            obtain ⟨hok, c2, c3, c4, c5⟩ := hc
            simp only [eqsOk, Bool.and_eq_true, Bool.not_eq_true'] at hok
            injection h with h
            subst h
            obtain ⟨dd, hd, hu⟩ := und_of ht
            rw [hu0] at hu
            simp only [URel] at hu
            subst hu
            cases hx with
            | agg _ cs hl1 hv1 => cases hy with
              | agg _ ds hl2 hv2 =>
                refine ⟨run_eqGuard_agg w op t ox oy cs ds hok.2, ?_, rfl, rfl⟩
                exact arrEq_run (w := w) 9998 hd hie hk c2 c3 c4 c5 hl1 hv1 hl2 hv2
          · simp at h
        · simp at h
      · simp at h
    · simp at h
  · simp at h

theorem cmp_sound {op : BinOp} {t : TypeId} {ox oy : Operand} {x y : AV} {u v : Value} (hx : VRel g x u) (hy : VRel g y v) {b : Bool} (h : evCmp E t ox oy x y = some b) :
    (eqGuard op t ox oy u v).run E.P w = .ok () w ∧ (Op.equal t u v).run E.P w = .ok b w ∧ binOp .eql t u v = (do pure (.bool (← Op.equal t u v))) ∧ binOp .neq t u v = (do pure (.bool (!(← Op.equal t u v)))) := by
  unfold evCmp at h
  split at h
  · rename_i b' hs
    injection h with h; subst h
    exact structEq_sound hx hy hs
  split at h
  · simp at h
  · rename_i i ht
    split at h
    · rename_i hc
      have he := eq_sound (w := w) ht hx hy h
      refine ⟨eqGuard_ok ?_ he.2, he.1, binEq_run hx hy h⟩
      rw [Bool.or_eq_true] at hc
      rcases hc with hc | hc
      · exact .inl hc
      · right
        rintro ⟨rfl, rfl⟩
        have h1 : x ≠ .top := by rintro rfl; unfold evEq at h; split at h <;> simp_all
        have h2 : y ≠ .top := by rintro rfl; unfold evEq at h; split at h <;> simp_all
        rw [nili_inv hx rfl h1, nili_inv hy rfl h2] at hc
        simp at hc
    · simp at h

theorem bin_sound {op : BinOp} {t : TypeId} {ox oy : Operand} {x y : AV} {u v : Value} (hx : VRel g x u) (hy : VRel g y v) {r : AV} (h : evBin E op t ox oy x y = some r) :
    Gives E.P g (do eqGuard op t ox oy u v; binOp op t u v) w r := by
  unfold Gives
  rw [Sem.run_bind]
  have triv : ∀ (u v : Value), (∀ cs, u ≠ .agg cs) → u ≠ .nilIface → (eqGuard op t ox oy u v).run E.P w = .ok () w := fun u v h1 h2 => eqGuard_ok (.inr fun h => h2 h.1) h1
  unfold evBin at h
  split at h
  · rename_i k m k' n
    rw [hx.int_inv, hy.int_inv, triv _ _ (fun _ hh => by cases hh) (fun hh => by cases hh), Result.andThen_ok]
    exact arith_sound h
  · rename_i p q
    rw [hx.str_inv, hy.str_inv, triv _ _ (fun _ hh => by cases hh) (fun hh => by cases hh), Result.andThen_ok]
    obtain ⟨c, h1, h2⟩ := run_strOp E.P w op t p q h
    exact ⟨c, h1, h2 g⟩
  · split at h
    · cases hc : evCmp E t ox oy x y with
      | none => rw [hc] at h; simp at h
      | some b =>
        rw [hc] at h; simp only [Option.map_some] at h; injection h with h; subst h
        obtain ⟨h1, h2, h3, h4⟩ := cmp_sound (op := .eql) (w := w) hx hy hc
        rw [h1, Result.andThen_ok, h3, Sem.run_bind, h2]
        exact ⟨_, rfl, .bool _⟩
    · cases hc : evCmp E t ox oy x y with
      | none => rw [hc] at h; simp at h
      | some b =>
        rw [hc] at h; simp only [Option.map_some] at h; injection h with h; subst h
        obtain ⟨h1, h2, h3, h4⟩ := cmp_sound (op := .neq) (w := w) hx hy hc
        rw [h1, Result.andThen_ok, h4, Sem.run_bind, h2]
        exact ⟨_, rfl, .bool _⟩
    · simp at h

end Go.Ab
