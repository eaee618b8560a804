/- BounceTells: the card. -/
import Derived.Test.YtbncpinpfmfjiaaDoorCards
import Derived.Test.YtbncpinpfmfjiaaDoorTie
import Derived.Test.YtbncpinpfmfjiaaDoorLLaw23
import Derived.Test.YtbncpinpfmfjiaaDoorLArgs

import Derived.Test.YtbncpinpfmfjiaaDoorLTab

import Derived.Test.YtbncpinpfmfjiaaDoorLArgs11
import Derived.Test.YtbncpinpfmfjiaaDoorLArgs23
import Derived.WalkKit
import Derived.ProofKit
import Derived.OpenShut
import Derived.Deep.DeepHandedRow
import Derived.Lib.LaidTab
set_option linter.unusedVariables false
set_option linter.unusedSimpArgs false
set_option maxRecDepth 1000000
namespace Go.Proofs.YtbncpinpfmfjiaaDoor.bounceTells
open Go.ChangeShapes Go.WideShapes Go.ChangeAt Go.RowKit

theorem own : ownKnob Tryd.prog.godebug = none := by kernel_rfl

theorem contract (H : Type) (enc : TypeId × Value → H) (W : World) (base : Nat) (args : Array Value) (ds gs : List (DataW H)) (before : List MemPlace) (hsh : W.ShapedOpen Tryd.prog) (hL : laidMetH Tryd.prog Rows.bounceTellsRow.laid W)
    (hval : ∀ (j : Nat) t v, Tryd.f8.params[j]? = some t → args[j]? = some v → Value.okWide Tryd.prog W .any base t v)
    (hW : DataW.Whole enc Tryd.prog Tryd.f8.params.toList Rows.bounceTellsSpec.vars false W args.toList ds gs before) :
    Calls Tryd.prog 8 args W fun e W' => ∃ v, e = .returned v ∧ Rows.bounceTellsSpec.post enc Tryd.prog Tryd.f8 false true false false W args v W' := by
  have hW' := hW
  obtain ⟨p, q, hA0, hV, rfl, hfz, hnd⟩ := hW
  have hA : DataW.TrodAll enc Tryd.prog W 0 (fun _ => true) true Tryd.f8.params.toList args.toList ds p := hA0
  rw [Tryd.params8] at hA hval
  obtain ⟨v0, vs0, d0, ds0, p0, q0, hargs, rfl, rfl, h0, r0⟩ := trodAll_cons hA
  obtain ⟨v1, vs1, d1, ds1, p1, q1, rfl, rfl, rfl, h1, r1⟩ := trodAll_cons r0
  obtain ⟨v2, vs2, d2, ds2, p2, q2, rfl, rfl, rfl, h2, r2⟩ := trodAll_cons r1
  obtain ⟨v3, vs3, d3, ds3, p3, q3, rfl, rfl, rfl, h3, r3⟩ := trodAll_cons r2
  obtain ⟨rfl, rfl, rfl⟩ := trodAll_nil r3
  obtain rfl : args = #[v0, v1, v2, v3] := by cases args; simp_all
  obtain ⟨rfl, rfl⟩ := trodVars_none hV
  have hp0 := Ab.param_ok hval (j := 0) (t := 9) (v := v0) (by simp) (by simp)
  obtain ⟨b0, hv0, hl0⟩ := Ab.Tryd.arg_string hp0 h0
  have hp1 := Ab.param_ok hval (j := 1) (t := 2) (v := v1) (by simp) (by simp)
  obtain ⟨n1, hv1, hl1⟩ := Ab.Tryd.arg_int64 hp1 h1
  have hp2 := Ab.param_ok hval (j := 2) (t := 28) (v := v2) (by simp) (by simp)
  obtain ⟨f2, to2, a2, hv2, hl2⟩ := Ab.Tryd.arg_env hp2 h2
  have hp3 := Ab.param_ok hval (j := 3) (t := 40) (v := v3) (by simp) (by simp)
  obtain ⟨b3, hv3, hl3, hq3⟩ := Ab.Tryd.arg_jobs hp3 h3
  have hg0 := Ab.Tryd.gl_maxLen hsh
  have ht0 := Ab.Tryd.tab10_of hL rfl
  have hP : (Ab.Tryd.env W.heap.size W (Ab.glW W)).P = Tryd.prog := Ab.Tryd.env_P
  have hn := Ab.Tryd.env_n0 (n0 := W.heap.size) (w0 := W) (gl := Ab.glW W)
  have hw := Ab.Tryd.env_w0 (n0 := W.heap.size) (w0 := W) (gl := Ab.glW W)
  have hg := Ab.Tryd.env_gl (n0 := W.heap.size) (w0 := W) (gl := Ab.glW W)
  refine Ab.calls_of_law hP hn hw hg (Ab.Tryd.bounceTells_t (n0 := W.heap.size) (w0 := W) (gl := Ab.glW W) (H := []) b0 n1 f2 to2 a2 b3 hl0 hl1 hl2 hl3 hq3) ⟨rfl, fun i => match i with | 0 => hv0 | 1 => hv1 | 2 => hv2 | 3 => hv3 | _ + 4 => .top _⟩ fun W' hb => ⟨_, rfl, ?_⟩
  have hr : ∀ t ∈ Tryd.f8.params.toList, Tryd.prog.readableRec t = true ∧ t < Tryd.prog.types.size := by
    rw [Tryd.params8]
    intro t ht
    simp only [Array.toList, List.mem_cons, List.not_mem_nil, or_false] at ht
    rcases ht with rfl | rfl | rfl | rfl
    · exact ⟨by kernel_rfl, of_decide_eq_true (by kernel_rfl)⟩
    · exact ⟨by kernel_rfl, of_decide_eq_true (by kernel_rfl)⟩
    · exact ⟨by kernel_rfl, of_decide_eq_true (by kernel_rfl)⟩
    · exact ⟨by kernel_rfl, of_decide_eq_true (by kernel_rfl)⟩
  exact Ab.law_post hW' rfl (by kernel_rfl) Tryd.underlying4 ⟨rfl, rfl, rfl⟩ Ab.Tryd.laidOut hr hb


/-- A world for the witness: the settled one, the listed tables laid. -/
noncomputable def laidWorld (os : Os) : World := Ab.layBlock (Ab.layBlock (Ab.layBlock (Ab.layBlock (Ab.layBlock (World.holding Tryd.prog os ⟨#[], #[], []⟩) 4 (Ab.cellsD (Rows.laid_math_bits_deBruijn32tab (H := Unit)))) 5 (Ab.cellsD (Rows.laid_math_bits_deBruijn64tab (H := Unit)))) 1 (Ab.cellsD (Rows.laid_internal_strconv_uint64pow10 (H := Unit)))) 7 (Ab.cellsD (Rows.laid_unicode_utf8_acceptRanges (H := Unit)))) 6 (Ab.cellsD (Rows.laid_unicode_utf8_first ))
theorem laid_met (os : Os) : laidMet Tryd.prog Rows.bounceTellsRow.laid ((laidWorld os).forCall (fun _ _ => 0) ⟨#[], #[.string ⟨#[]⟩, .int .i64 0, .agg #[.string ⟨#[]⟩, .slice .none 0 0, .int .i64 0], .slice .none 0 0], []⟩).memory :=
  laidMet_of_run' 8 (by kernel_rfl) (by kernel_rfl)
theorem reads (os : Os) {H : Type} (enc : TypeId × Value → H) : ∃ places, DataW.whole enc Tryd.prog ((laidWorld os).forCall (fun _ _ => 0) ⟨#[], #[.string ⟨#[]⟩, .int .i64 0, .agg #[.string ⟨#[]⟩, .slice .none 0 0, .int .i64 0], .slice .none 0 0], []⟩).memory Tryd.f8.params.toList Rows.bounceTellsSpec.vars false (#[.string ⟨#[]⟩, .int .i64 0, .agg #[.string ⟨#[]⟩, .slice .none 0 0, .int .i64 0], .slice .none 0 0] : Array Value).toList 8 = some ([.lit (.string []), .lit (.int .i64 0), .agg [.lit (.string []), .nil, .lit (.int .i64 0)], .nil], [], places) :=
  ⟨[], by kernel_rfl⟩

theorem lifted (os : Os) (started : os.Started) (H : Type) (enc : TypeId × Value → H) (F : Stop.Interp) :
    ReturnsInHanded {} Tryd.checked os 8 .any ((OpenSpec.ofChange Rows.bounceTellsSpec).preRow enc Tryd.prog Tryd.f8 Rows.bounceTellsRow.domain false Rows.bounceTellsRow.laid) (((OpenSpec.ofChange Rows.bounceTellsSpec).at F).post enc Tryd.prog Tryd.f8 false true false false) := by
  obtain ⟨places, hx⟩ := reads os enc
  refine returnsInHanded_of_row (C := Tryd.checked) (s := OpenSpec.ofChange Rows.bounceTellsSpec) own started (by kernel_rfl) Tryd.func8
    (witness_row_at (enc := enc) (C := Tryd.checked) false (laidWorld os) #[.string ⟨#[]⟩, .int .i64 0, .agg #[.string ⟨#[]⟩, .slice .none 0 0, .int .i64 0], .slice .none 0 0] rfl (by kernel_rfl) (by kernel_rfl) (by kernel_rfl)
      (OpenSpec.preRow_of_cond 8 hx (by kernel_rfl) (fun k hk => by cases hk) (by kernel_rfl) (laid_met os))) ?_
  intro W base args ds gs before hval hW _ _ _ hL hsh _
  exact contract H enc W base args ds gs before hsh hL hval hW

theorem said : Rows.BounceTellsSaid :=
  OpenClaim.holds_of_cond 8 Tryd.f8 rfl rfl rfl rfl rfl rfl rfl ⟨rfl, rfl, rfl, rfl, rfl⟩ rfl rfl rfl rfl rfl (by kernel_rfl) Tryd.func8 (by kernel_rfl)
    (of_decide_eq_true (by kernel_rfl)) (by unfold Func.isWrapper; first | (rw [if_pos (by decide +kernel)]; kernel_rfl) | (rw [if_neg (by decide +kernel)]; exact ⟨rfl, rfl⟩))
    (fun os started H enc _ F => by rw [OpenClaim.pre_eq_preRow]; exact lifted os started H enc F)

theorem plain (f : FuncId) (fn : Func) (hf : Tryd.pinned.checked.prog.funcNamed "scriptorium/scriptoriumlaw23.BounceTells" = some f) (hfn : Tryd.pinned.checked.prog.funcs[f]? = some fn) :
    true = Tryd.pinned.checked.prog.looks [] ∧ ∀ (j : Nat) t, fn.params[j]? = some t → Tryd.pinned.checked.prog.wantsStandIn t = false := by
  obtain rfl : f = 8 := Option.some.inj ((show Tryd.prog.funcNamed "scriptorium/scriptoriumlaw23.BounceTells" = some 8 by kernel_rfl).symm.trans hf) |>.symm
  obtain rfl : fn = Tryd.f8 := (Option.some.inj (Tryd.func8.symm.trans hfn)).symm
  refine ⟨by kernel_rfl, fun j t ht => ?_⟩
  rw [Tryd.params8] at ht
  have hm := Array.mem_of_getElem? ht
  simp only [List.mem_toArray, List.mem_cons, List.not_mem_nil, or_false] at hm
  rcases hm with rfl | rfl | rfl | rfl
  · exact (show Tryd.prog.wantsStandIn 9 = false by kernel_rfl)
  · exact (show Tryd.prog.wantsStandIn 2 = false by kernel_rfl)
  · exact (show Tryd.prog.wantsStandIn 28 = false by kernel_rfl)
  · exact (show Tryd.prog.wantsStandIn 40 = false by kernel_rfl)

theorem card : Rows.BounceTellsCardSaid :=
  Claim7.holds_tied_plain_at .later [] _ _ _ _ said (fun _ h => by cases h) (by kernel_rfl) (fun _ h => by cases h) bounceTells_row_tie rfl ⟨rfl, rfl⟩ (by kernel_rfl) rfl plain (by kernel_rfl)

end Go.Proofs.YtbncpinpfmfjiaaDoor.bounceTells
