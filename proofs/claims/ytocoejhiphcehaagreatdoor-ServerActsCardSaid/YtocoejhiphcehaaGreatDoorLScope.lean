/- A scope of labels, gone through without a jump. -/
import Derived.Test.YtocoejhiphcehaaGreatDoorFrE
import Derived.Scope
set_option linter.unusedSimpArgs false
set_option linter.unusedVariables false
namespace Go.Ab
open Go
section
variable {ρ : Option Nat} {P : Program} {b : Frame} {a : Act} {k : List Item} {cs : List Frame} {w : World} {Q : Exit → Act → World → Prop}
theorem stepR_scope {c : Code} : step P (lone (b.atR a (.code (.scope c) :: k)) cs w) = .next (lone (b.atR a (.code c :: .inScope c :: k)) cs w) :=
  step_lone_go (by simp [stepG, stepG.exec, Frame.atR])
theorem stepR_inScope {c : Code} : step P (lone (b.atR a (.inScope c :: k)) cs w) = .next (lone (b.atR a k) cs w) :=
  step_lone_go (by simp [stepG, stepG.exec, Frame.atR])
theorem wpV_scope {c : Code} (h : wpV ρ P c (Exit.noGoto Q) a w) : wpV ρ P (.scope c) Q a w := by
  intro b k cs hro hb
  have h0 : (lone (b.atR a (.code (.scope c) :: k)) cs w).fenced P (FW ρ) := fw _ _ _
  obtain ⟨e, a₁, w₁, hq, harr⟩ := h b (.inScope c :: k) cs hro hb
  cases e with
  | normal => exact ⟨.normal, a₁, w₁, hq, .head h0 stepR_scope (StepsIn.trans harr (.one (fw _ _ _) stepR_inScope))⟩
  | exit id' =>
    have hx : exitTo id' (.inScope c :: k) = exitTo id' k := by simp [exitTo]
    exact ⟨.exit id', a₁, w₁, hq, fun k' hk => .head h0 stepR_scope (harr.1 k' (by rw [hx]; exact hk)),
      fun hr' hk => let ⟨k₁, h1, h2⟩ := harr.2 hr' (by rw [hx]; exact hk); ⟨k₁, h1, .head h0 stepR_scope h2⟩⟩
  | goto l => exact hq.elim
  | ret => exact ⟨_, a₁, w₁, hq, .of_steps (.one h0 stepR_scope) harr⟩
  | panic ch => exact ⟨_, a₁, w₁, hq, .of_steps (.one h0 stepR_scope) harr⟩
  | outgrown => exact ⟨_, a₁, w₁, hq, .of_steps (.one h0 stepR_scope) harr⟩
end
variable {E : Env} {N : Nat} {rd : Option Nat} {md : Nat → Nat} {Q : APost} {a : AAct} {H : List AO}
def AX.scope (Q : APost) : APost
  | .goto _, _, _ => False
  | x, a, H => Q x a H
theorem w_scope {c : Code} (h : W E N rd md c (AX.scope Q) a H) : W E N rd md (.scope c) Q a H := by
  show WPc E N rd (.scope c) Q a H
  intro g0 g w a' hd hl hr ha
  refine wpV_scope (wpV_mono (W_sound _ _ _ _ h g0 g w a' hd hl hr ha) ?_)
  rintro e a2 w2 ⟨x, A, H', g', hq, hl', hr', ha', hx⟩
  cases hx with
  | normal => exact ⟨.normal, A, H', g', hq, hl', hr', ha', .normal⟩
  | exit id' => exact ⟨.exit id', A, H', g', hq, hl', hr', ha', .exit id'⟩
  | goto l => exact hq.elim
  | ret => exact ⟨.ret, A, H', g', hq, hl', hr', ha', .ret⟩
  | panic hp => exact ⟨.panic _, A, H', g', hq, hl', hr', ha', .panic hp⟩
theorem scope_ret (h : Q .ret a H) : AX.scope Q .ret a H := h
theorem scope_normal (h : Q .normal a H) : AX.scope Q .normal a H := h
theorem scope_exit {i : Nat} (h : Q (.exit i) a H) : AX.scope Q (.exit i) a H := h
theorem scope_panic {ch : List APanic} (h : Q (.panic ch) a H) : AX.scope Q (.panic ch) a H := h
end Go.Ab
