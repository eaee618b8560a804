/- RecordEncodes: the card. -/
import Derived.Test.YtpdjgbpmlckepaaGreatDoorCards
import Derived.Test.YtpdjgbpmlckepaaGreatDoorTie
import Derived.Test.YtpdjgbpmlckepaaGreatDoorLRecC
import Derived.Test.YtpdjgbpmlckepaaGreatDoorLArgs

import Derived.Test.YtpdjgbpmlckepaaGreatDoorLTab





import Derived.Test.YtpdjgbpmlckepaaGreatDoorLArgR
import Derived.WalkKit
import Derived.ProofKit
import Derived.OpenShut
import Derived.Deep.DeepHandedRow
import Derived.Lib.LaidTab
set_option linter.unusedVariables false
set_option linter.unusedSimpArgs false
set_option maxRecDepth 1000000
namespace Go.Proofs.YtpdjgbpmlckepaaGreatDoor.recordEncodes
open Go.ChangeShapes Go.WideShapes Go.ChangeAt Go.RowKit

theorem own : ownKnob Tryz.prog.godebug = none := by kernel_rfl

theorem contract (H : Type) (enc : TypeId × Value → H) (W : World) (base : Nat) (args : Array Value) (ds gs : List (DataW H)) (before : List MemPlace) (hsh : W.ShapedOpen Tryz.prog) (hL : laidMetH Tryz.prog Rows.recordEncodesRow.laid W)
    (hval : ∀ (j : Nat) t v, Tryz.f3.params[j]? = some t → args[j]? = some v → Value.okWide Tryz.prog W .any base t v)
    (hW : DataW.Whole enc Tryz.prog Tryz.f3.params.toList Rows.recordEncodesSpec.vars false W args.toList ds gs before) :
    Calls Tryz.prog 3 args W fun e W' => ∃ v, e = .returned v ∧ Rows.recordEncodesSpec.post enc Tryz.prog Tryz.f3 false true false false W args v W' := by
  have hW' := hW
  obtain ⟨p, q, hA0, hV, rfl, hfz, hnd⟩ := hW
  have hA : DataW.TrodAll enc Tryz.prog W 0 (fun _ => true) true Tryz.f3.params.toList args.toList ds p := hA0
  rw [Tryz.params3] at hA hval
  obtain ⟨v0, vs0, d0, ds0, p0, q0, hargs, rfl, rfl, h0, r0⟩ := trodAll_cons hA
  obtain ⟨rfl, rfl, rfl⟩ := trodAll_nil r0
  obtain rfl : args = #[v0] := by cases args; simp_all
  obtain ⟨rfl, rfl⟩ := trodVars_none hV
  have hp0 := Ab.param_ok hval (j := 0) (t := 36) (v := v0) (by simp) (by simp)
  obtain ⟨b0, hv0, hl0⟩ := Ab.Tryz.arg_rec hp0 h0
  have hg0 := Ab.Tryz.gl_maxLen hsh
  have ht0 := Ab.Tryz.tab10_of hL rfl

  have hP : (Ab.Tryz.env W.heap.size W (Ab.glW W)).P = Tryz.prog := Ab.Tryz.env_P
  have hn := Ab.Tryz.env_n0 (n0 := W.heap.size) (w0 := W) (gl := Ab.glW W)
  have hw := Ab.Tryz.env_w0 (n0 := W.heap.size) (w0 := W) (gl := Ab.glW W)
  have hg := Ab.Tryz.env_gl (n0 := W.heap.size) (w0 := W) (gl := Ab.glW W)
  refine Ab.calls_of_law hP hn hw hg (Ab.Tryz.recordEncodes_t (n0 := W.heap.size) (w0 := W) (gl := Ab.glW W) (H := []) b0 hl0) ⟨rfl, fun i => match i with | 0 => hv0 | _ + 1 => .top _⟩ fun W' hb => ⟨_, rfl, ?_⟩
  have hr : ∀ t ∈ Tryz.f3.params.toList, Tryz.prog.readableRec t = true ∧ t < Tryz.prog.types.size := by
    rw [Tryz.params3]
    intro t ht
    simp only [Array.toList, List.mem_cons, List.not_mem_nil, or_false] at ht
    rcases ht with rfl
    · exact ⟨by kernel_rfl, of_decide_eq_true (by kernel_rfl)⟩
  exact Ab.law_post hW' rfl (by kernel_rfl) Tryz.underlying4 ⟨rfl, rfl, rfl⟩ Ab.Tryz.laidOut hr hb

/-- A variable that holds an error of one text. -/
noncomputable def layErr (w : World) (g : Nat) (s : List UInt8) : World :=
  Ab.layBlock { w with heap := w.heap.push (.cells #[.string ⟨s.toArray⟩] 237 (0, 0)) } g [.iface 235 (.pointer (some ⟨w.heap.size, 0, none⟩))]

/-- A world for the witness: the settled one, the listed tables laid. -/
noncomputable def laidWorld (os : Os) : World := layErr (layErr (Ab.layBlock (Ab.layBlock (Ab.layBlock (World.holding Tryz.prog os ⟨#[], #[], []⟩) 6 (Ab.cellsD (Rows.laid_math_bits_deBruijn32tab (H := Unit)))) 7 (Ab.cellsD (Rows.laid_math_bits_deBruijn64tab (H := Unit)))) 3 (Ab.cellsD (Rows.laid_internal_strconv_uint64pow10 (H := Unit)))) 2 [118, 97, 108, 117, 101, 32, 111, 117, 116, 32, 111, 102, 32, 114, 97, 110, 103, 101]) 1 [105, 110, 118, 97, 108, 105, 100, 32, 115, 121, 110, 116, 97, 120]
theorem laid_met (os : Os) : laidMet Tryz.prog Rows.recordEncodesRow.laid ((laidWorld os).forCall (fun _ _ => 0) ⟨#[], #[Ab.Tryz.recWit], []⟩).memory :=
  laidMet_of_run' 8 (by kernel_rfl) (by kernel_rfl)
theorem reads (os : Os) {H : Type} (enc : TypeId × Value → H) : ∃ places, DataW.whole enc Tryz.prog ((laidWorld os).forCall (fun _ _ => 0) ⟨#[], #[Ab.Tryz.recWit], []⟩).memory Tryz.f3.params.toList Rows.recordEncodesSpec.vars false (#[Ab.Tryz.recWit] : Array Value).toList 8 = some ([Ab.Tryz.recDat], [], places) :=
  ⟨[], by kernel_rfl⟩

theorem lifted (os : Os) (started : os.Started) (H : Type) (enc : TypeId × Value → H) (F : Stop.Interp) :
    ReturnsInHanded {} Tryz.checked os 3 .any ((OpenSpec.ofChange Rows.recordEncodesSpec).preRow enc Tryz.prog Tryz.f3 Rows.recordEncodesRow.domain false Rows.recordEncodesRow.laid) (((OpenSpec.ofChange Rows.recordEncodesSpec).at F).post enc Tryz.prog Tryz.f3 false true false false) := by
  obtain ⟨places, hx⟩ := reads os enc
  refine returnsInHanded_of_row (C := Tryz.checked) (s := OpenSpec.ofChange Rows.recordEncodesSpec) own started (by kernel_rfl) Tryz.func3
    (witness_row_at (enc := enc) (C := Tryz.checked) false (laidWorld os) #[Ab.Tryz.recWit] rfl (by kernel_rfl) (by kernel_rfl) (by kernel_rfl)
      (OpenSpec.preRow_of_cond 8 hx (by kernel_rfl) (fun k hk => by cases hk) (by kernel_rfl) (laid_met os))) ?_
  intro W base args ds gs before hval hW _ _ _ hL hsh _
  exact contract H enc W base args ds gs before hsh hL hval hW

theorem said : Rows.RecordEncodesSaid :=
  OpenClaim.holds_of_cond 3 Tryz.f3 rfl rfl rfl rfl rfl rfl rfl ⟨rfl, rfl, rfl, rfl, rfl⟩ rfl rfl rfl rfl rfl (by kernel_rfl) Tryz.func3 (by kernel_rfl)
    (of_decide_eq_true (by kernel_rfl)) (by unfold Func.isWrapper; first | (rw [if_pos (by decide +kernel)]; kernel_rfl) | (rw [if_neg (by decide +kernel)]; exact ⟨rfl, rfl⟩))
    (fun os started H enc _ F => by rw [OpenClaim.pre_eq_preRow]; exact lifted os started H enc F)

theorem plain (f : FuncId) (fn : Func) (hf : Tryz.pinned.checked.prog.funcNamed "scriptorium/scriptoriumlaw16.RecordEncodes" = some f) (hfn : Tryz.pinned.checked.prog.funcs[f]? = some fn) :
    true = Tryz.pinned.checked.prog.looks [] ∧ ∀ (j : Nat) t, fn.params[j]? = some t → Tryz.pinned.checked.prog.wantsStandIn t = false := by
  obtain rfl : f = 3 := Option.some.inj ((show Tryz.prog.funcNamed "scriptorium/scriptoriumlaw16.RecordEncodes" = some 3 by kernel_rfl).symm.trans hf) |>.symm
  obtain rfl : fn = Tryz.f3 := (Option.some.inj (Tryz.func3.symm.trans hfn)).symm
  refine ⟨by kernel_rfl, fun j t ht => ?_⟩
  rw [Tryz.params3] at ht
  have hm := Array.mem_of_getElem? ht
  simp only [List.mem_toArray, List.mem_cons, List.not_mem_nil, or_false] at hm
  rcases hm with rfl
  · exact (show Tryz.prog.wantsStandIn 36 = false by kernel_rfl)

theorem card : Rows.RecordEncodesCardSaid :=
  Claim7.holds_tied_plain_at .later [] _ _ _ _ said (fun _ h => by cases h) (by kernel_rfl) (fun _ h => by cases h) recordEncodes_row_tie rfl ⟨rfl, rfl⟩ (by kernel_rfl) rfl plain (by kernel_rfl)

end Go.Proofs.YtpdjgbpmlckepaaGreatDoor.recordEncodes
