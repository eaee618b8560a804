/- RecordBack: the card. -/
import Derived.Test.YtpdjgbpmlckepaaDoorCards
import Derived.Test.YtpdjgbpmlckepaaDoorTie
import Derived.Test.YtpdjgbpmlckepaaDoorLRecB
import Derived.Test.YtpdjgbpmlckepaaDoorLArgs

import Derived.Test.YtpdjgbpmlckepaaDoorLTab





import Derived.Test.YtpdjgbpmlckepaaDoorLArgR
import Derived.WalkKit
import Derived.ProofKit
import Derived.OpenShut
import Derived.Deep.DeepHandedRow
import Derived.Lib.LaidTab
set_option linter.unusedVariables false
set_option linter.unusedSimpArgs false
set_option maxRecDepth 1000000
namespace Go.Proofs.YtpdjgbpmlckepaaDoor.recordBack
open Go.ChangeShapes Go.WideShapes Go.ChangeAt Go.RowKit

theorem own : ownKnob Tryd.prog.godebug = none := by kernel_rfl

theorem contract (H : Type) (enc : TypeId × Value → H) (W : World) (base : Nat) (args : Array Value) (ds gs : List (DataW H)) (before : List MemPlace) (hsh : W.ShapedOpen Tryd.prog) (hL : laidMetH Tryd.prog Rows.recordBackRow.laid W)
    (hval : ∀ (j : Nat) t v, Tryd.f8.params[j]? = some t → args[j]? = some v → Value.okWide Tryd.prog W .any base t v)
    (hW : DataW.Whole enc Tryd.prog Tryd.f8.params.toList Rows.recordBackSpec.vars false W args.toList ds gs before) :
    Calls Tryd.prog 8 args W fun e W' => ∃ v, e = .returned v ∧ Rows.recordBackSpec.post enc Tryd.prog Tryd.f8 false true false false W args v W' := by
  have hW' := hW
  obtain ⟨p, q, hA0, hV, rfl, hfz, hnd⟩ := hW
  have hA : DataW.TrodAll enc Tryd.prog W 0 (fun _ => true) true Tryd.f8.params.toList args.toList ds p := hA0
  rw [Tryd.params8] at hA hval
  obtain ⟨v0, vs0, d0, ds0, p0, q0, hargs, rfl, rfl, h0, r0⟩ := trodAll_cons hA
  obtain ⟨rfl, rfl, rfl⟩ := trodAll_nil r0
  obtain rfl : args = #[v0] := by cases args; simp_all
  obtain ⟨rfl, rfl⟩ := trodVars_none hV
  have hp0 := Ab.param_ok hval (j := 0) (t := 62) (v := v0) (by simp) (by simp)
  obtain ⟨b0, hv0, hl0⟩ := Ab.Tryd.arg_rec hp0 h0
  have hg0 := Ab.Tryd.gl_maxLen hsh
  have ht0 := Ab.Tryd.tab10_of hL rfl

  have hP : (Ab.Tryd.env W.heap.size W (Ab.glW W)).P = Tryd.prog := Ab.Tryd.env_P
  have hn := Ab.Tryd.env_n0 (n0 := W.heap.size) (w0 := W) (gl := Ab.glW W)
  have hw := Ab.Tryd.env_w0 (n0 := W.heap.size) (w0 := W) (gl := Ab.glW W)
  have hg := Ab.Tryd.env_gl (n0 := W.heap.size) (w0 := W) (gl := Ab.glW W)
  refine Ab.calls_of_law hP hn hw hg (Ab.Tryd.recordBack_t (n0 := W.heap.size) (w0 := W) (gl := Ab.glW W) (H := []) b0 hl0) ⟨rfl, fun i => match i with | 0 => hv0 | _ + 1 => .top _⟩ fun W' hb => ⟨_, rfl, ?_⟩
  have hr : ∀ t ∈ Tryd.f8.params.toList, Tryd.prog.readableRec t = true ∧ t < Tryd.prog.types.size := by
    rw [Tryd.params8]
    intro t ht
    simp only [Array.toList, List.mem_cons, List.not_mem_nil, or_false] at ht
    rcases ht with rfl
    · exact ⟨by kernel_rfl, of_decide_eq_true (by kernel_rfl)⟩
  exact Ab.law_post hW' rfl (by kernel_rfl) Tryd.underlying4 ⟨rfl, rfl, rfl⟩ Ab.Tryd.laidOut hr hb

/-- A variable that holds an error of one text. -/
noncomputable def layErr (w : World) (g : Nat) (s : List UInt8) : World :=
  Ab.layBlock { w with heap := w.heap.push (.cells #[.string ⟨s.toArray⟩] 210 (0, 0)) } g [.iface 208 (.pointer (some ⟨w.heap.size, 0, none⟩))]

/-- A world for the witness: the settled one, the listed tables laid. -/
noncomputable def laidWorld (os : Os) : World := layErr (layErr (Ab.layBlock (Ab.layBlock (Ab.layBlock (World.holding Tryd.prog os ⟨#[], #[], []⟩) 6 (Ab.cellsD (Rows.laid_math_bits_deBruijn32tab (H := Unit)))) 7 (Ab.cellsD (Rows.laid_math_bits_deBruijn64tab (H := Unit)))) 3 (Ab.cellsD (Rows.laid_internal_strconv_uint64pow10 (H := Unit)))) 2 [118, 97, 108, 117, 101, 32, 111, 117, 116, 32, 111, 102, 32, 114, 97, 110, 103, 101]) 1 [105, 110, 118, 97, 108, 105, 100, 32, 115, 121, 110, 116, 97, 120]
theorem laid_met (os : Os) : laidMet Tryd.prog Rows.recordBackRow.laid ((laidWorld os).forCall (fun _ _ => 0) ⟨#[], #[Ab.Tryd.recWit], []⟩).memory :=
  laidMet_of_run' 8 (by kernel_rfl) (by kernel_rfl)
theorem reads (os : Os) {H : Type} (enc : TypeId × Value → H) : ∃ places, DataW.whole enc Tryd.prog ((laidWorld os).forCall (fun _ _ => 0) ⟨#[], #[Ab.Tryd.recWit], []⟩).memory Tryd.f8.params.toList Rows.recordBackSpec.vars false (#[Ab.Tryd.recWit] : Array Value).toList 8 = some ([Ab.Tryd.recDat], [], places) :=
  ⟨[], by kernel_rfl⟩

theorem lifted (os : Os) (started : os.Started) (H : Type) (enc : TypeId × Value → H) (F : Stop.Interp) :
    ReturnsInHanded {} Tryd.checked os 8 .any ((OpenSpec.ofChange Rows.recordBackSpec).preRow enc Tryd.prog Tryd.f8 Rows.recordBackRow.domain false Rows.recordBackRow.laid) (((OpenSpec.ofChange Rows.recordBackSpec).at F).post enc Tryd.prog Tryd.f8 false true false false) := by
  obtain ⟨places, hx⟩ := reads os enc
  refine returnsInHanded_of_row (C := Tryd.checked) (s := OpenSpec.ofChange Rows.recordBackSpec) own started (by kernel_rfl) Tryd.func8
    (witness_row_at (enc := enc) (C := Tryd.checked) false (laidWorld os) #[Ab.Tryd.recWit] rfl (by kernel_rfl) (by kernel_rfl) (by kernel_rfl)
      (OpenSpec.preRow_of_cond 8 hx (by kernel_rfl) (fun k hk => by cases hk) (by kernel_rfl) (laid_met os))) ?_
  intro W base args ds gs before hval hW _ _ _ hL hsh _
  exact contract H enc W base args ds gs before hsh hL hval hW

theorem said : Rows.RecordBackSaid :=
  OpenClaim.holds_of_cond 8 Tryd.f8 rfl rfl rfl rfl rfl rfl rfl ⟨rfl, rfl, rfl, rfl, rfl⟩ rfl rfl rfl rfl rfl (by kernel_rfl) Tryd.func8 (by kernel_rfl)
    (of_decide_eq_true (by kernel_rfl)) (by unfold Func.isWrapper; first | (rw [if_pos (by decide +kernel)]; kernel_rfl) | (rw [if_neg (by decide +kernel)]; exact ⟨rfl, rfl⟩))
    (fun os started H enc _ F => by rw [OpenClaim.pre_eq_preRow]; exact lifted os started H enc F)

theorem plain (f : FuncId) (fn : Func) (hf : Tryd.pinned.checked.prog.funcNamed "scriptorium/scriptoriumlaw16.RecordBack" = some f) (hfn : Tryd.pinned.checked.prog.funcs[f]? = some fn) :
    true = Tryd.pinned.checked.prog.looks [] ∧ ∀ (j : Nat) t, fn.params[j]? = some t → Tryd.pinned.checked.prog.wantsStandIn t = false := by
  obtain rfl : f = 8 := Option.some.inj ((show Tryd.prog.funcNamed "scriptorium/scriptoriumlaw16.RecordBack" = some 8 by kernel_rfl).symm.trans hf) |>.symm
  obtain rfl : fn = Tryd.f8 := (Option.some.inj (Tryd.func8.symm.trans hfn)).symm
  refine ⟨by kernel_rfl, fun j t ht => ?_⟩
  rw [Tryd.params8] at ht
  have hm := Array.mem_of_getElem? ht
  simp only [List.mem_toArray, List.mem_cons, List.not_mem_nil, or_false] at hm
  rcases hm with rfl
  · exact (show Tryd.prog.wantsStandIn 62 = false by kernel_rfl)

theorem card : Rows.RecordBackCardSaid :=
  Claim7.holds_tied_plain_at .later [] _ _ _ _ said (fun _ h => by cases h) (by kernel_rfl) (fun _ h => by cases h) recordBack_row_tie rfl ⟨rfl, rfl⟩ (by kernel_rfl) rfl plain (by kernel_rfl)

end Go.Proofs.YtpdjgbpmlckepaaDoor.recordBack
