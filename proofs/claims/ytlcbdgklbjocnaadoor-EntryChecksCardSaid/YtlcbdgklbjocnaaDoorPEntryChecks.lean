/- EntryChecks: the card. -/
import Derived.Test.YtlcbdgklbjocnaaDoorCards
import Derived.Test.YtlcbdgklbjocnaaDoorTie
import Derived.Test.YtlcbdgklbjocnaaDoorWLaw15
import Derived.Test.YtlcbdgklbjocnaaDoorWMsg
import Derived.Test.YtlcbdgklbjocnaaDoorAb22
import Derived.WalkKit
import Derived.ProofKit
import Derived.OpenShut
import Derived.Deep.DeepHandedRow
import Derived.Lib.LaidTab
set_option linter.unusedVariables false
set_option maxRecDepth 1000000
namespace Go.Proofs.YtlcbdgklbjocnaaDoor.entryChecks
open Go.ChangeShapes Go.WideShapes Go.ChangeAt Go.RowKit

theorem own : ownKnob Tryd.prog.godebug = none := by kernel_rfl

theorem contract (H : Type) (enc : TypeId × Value → H) (W : World) (base : Nat) (args : Array Value) (ds gs : List (DataW H)) (before : List MemPlace)
    (hval : ∀ (j : Nat) t v, Tryd.f3.params[j]? = some t → args[j]? = some v → Value.okWide Tryd.prog W .any base t v)
    (hW : DataW.Whole enc Tryd.prog Tryd.f3.params.toList Rows.entryChecksSpec.vars false W args.toList ds gs before) :
    Calls Tryd.prog 3 args W fun e W' => ∃ v, e = .returned v ∧ Rows.entryChecksSpec.post enc Tryd.prog Tryd.f3 false true false false W args v W' := by
  have hW' := hW
  obtain ⟨p, q, hA0, hV, rfl, hfz, hnd⟩ := hW
  have hA : DataW.TrodAll enc Tryd.prog W 0 (fun _ => true) true Tryd.f3.params.toList args.toList ds p := hA0
  rw [Tryd.params3] at hA hval
  obtain ⟨v0, vs0, d0, ds0, p0, q0, hargs, rfl, rfl, h0, r0⟩ := trodAll_cons hA
  obtain ⟨rfl, rfl, rfl⟩ := trodAll_nil r0
  obtain rfl : args = #[v0] := by cases args; simp_all
  obtain ⟨rfl, rfl⟩ := trodVars_none hV
  have i1 : (#[27] : Array TypeId)[0]? = some 27 := by simp
  have i2 : (#[v0] : Array Value)[0]? = some v0 := by simp
  have hv0 := Ab.param_ok hval i1 i2
  obtain ⟨id, at_, cls, fro, to, body, hv, _, hfro, hto, htl, _⟩ := Ab.Tryd.read_msg hv0 h0
  have hP : (Ab.Tryd.env W.heap.size W (fun _ => [])).P = Tryd.prog := Ab.Tryd.env_P
  have hn := Ab.Tryd.env_n0 (n0 := W.heap.size) (w0 := W) (gl := fun _ => [])
  have hw := Ab.Tryd.env_w0 (n0 := W.heap.size) (w0 := W) (gl := fun _ => [])
  have hg := Ab.Tryd.env_gl (n0 := W.heap.size) (w0 := W) (gl := fun _ => [])
  refine Ab.calls_of_enter hP hn hw hg (Ab.Tryd.entryChecks_t id at_ cls fro to body.length (Ab.bytesAV body) .ro .ro hfro hto htl) ⟨rfl, fun i => match i with | 0 => hv | _ + 1 => .top _⟩ fun W' hb => ⟨_, rfl, ?_⟩
  have hr : ∀ t ∈ Tryd.f3.params.toList, Tryd.prog.readableRec t = true ∧ t < Tryd.prog.types.size := by
    rw [Tryd.params3]
    intro t ht
    obtain rfl : t = 27 := by simpa using ht
    exact ⟨by kernel_rfl, of_decide_eq_true (by kernel_rfl)⟩
  exact Ab.law_post hW' rfl (by kernel_rfl) Tryd.underlying4 ⟨rfl, rfl, rfl⟩ Ab.Tryd.laid_out hr hb

/-- A message that fits: the empty one. -/
noncomputable def mail : Value := .agg #[.int .i64 0, .string ⟨#[]⟩, .string ⟨#[]⟩, .slice .none 0 0, .int .i64 0, .slice .none 0 0]
/-- A world for the witness: the settled one, the listed tables laid. -/
noncomputable def laidWorld (os : Os) : World :=
  Ab.layBlock (Ab.layBlock (Ab.layBlock (World.holding Tryd.prog os ⟨#[], #[], []⟩) 3 (Ab.cellsD (Rows.laid_internal_strconv_uint64pow10 (H := Unit)))) 6 (Ab.cellsD (Rows.laid_math_bits_deBruijn32tab (H := Unit)))) 7 (Ab.cellsD (Rows.laid_math_bits_deBruijn64tab (H := Unit)))
theorem laid_met (os : Os) : laidMet Tryd.prog Rows.entryChecksRow.laid ((laidWorld os).forCall (fun _ _ => 0) ⟨#[], #[mail], []⟩).memory :=
  laidMet_of_run' 8 (by kernel_rfl) (by kernel_rfl)
theorem reads (os : Os) {H : Type} (enc : TypeId × Value → H) : ∃ places, DataW.whole enc Tryd.prog ((laidWorld os).forCall (fun _ _ => 0) ⟨#[], #[mail], []⟩).memory Tryd.f3.params.toList Rows.entryChecksSpec.vars false #[mail].toList 8 = some ([.agg [.lit (.int .i64 0), .lit (.string []), .agg [.lit (.string []), .nil, .lit (.int .i64 0)], .nil]], [], places) :=
  ⟨[], by kernel_rfl⟩

theorem lifted (os : Os) (started : os.Started) (H : Type) (enc : TypeId × Value → H) (F : Stop.Interp) :
    ReturnsInHanded {} Tryd.checked os 3 .any ((OpenSpec.ofChange Rows.entryChecksSpec).preRow enc Tryd.prog Tryd.f3 Rows.entryChecksRow.domain false Rows.entryChecksRow.laid) (((OpenSpec.ofChange Rows.entryChecksSpec).at F).post enc Tryd.prog Tryd.f3 false true false false) := by
  obtain ⟨places, hx⟩ := reads os enc
  refine returnsInHanded_of_row (C := Tryd.checked) (s := OpenSpec.ofChange Rows.entryChecksSpec) own started (by kernel_rfl) Tryd.func3
    (witness_row_at (enc := enc) (C := Tryd.checked) false (laidWorld os) #[mail] rfl (by kernel_rfl) (by kernel_rfl) (by kernel_rfl)
      (OpenSpec.preRow_of_cond 8 hx (by kernel_rfl) (fun k hk => by cases hk) (by kernel_rfl) (laid_met os))) ?_
  intro W base args ds gs before hval hW _ _ _ hL _ _
  exact contract H enc W base args ds gs before hval hW

theorem said : Rows.EntryChecksSaid :=
  OpenClaim.holds_of_cond 3 Tryd.f3 rfl rfl rfl rfl rfl rfl rfl ⟨rfl, rfl, rfl, rfl, rfl⟩ rfl rfl rfl rfl rfl (by kernel_rfl) Tryd.func3 (by kernel_rfl)
    (of_decide_eq_true (by kernel_rfl)) (by unfold Func.isWrapper; first | (rw [if_pos (by decide +kernel)]; kernel_rfl) | (rw [if_neg (by decide +kernel)]; exact ⟨rfl, rfl⟩))
    (fun os started H enc _ F => by rw [OpenClaim.pre_eq_preRow]; exact lifted os started H enc F)

theorem plain (f : FuncId) (fn : Func) (hf : Tryd.pinned.checked.prog.funcNamed "scriptorium/scriptoriumlaw15.EntryChecks" = some f) (hfn : Tryd.pinned.checked.prog.funcs[f]? = some fn) :
    true = Tryd.pinned.checked.prog.looks [] ∧ ∀ (j : Nat) t, fn.params[j]? = some t → Tryd.pinned.checked.prog.wantsStandIn t = false := by
  obtain rfl : f = 3 := Option.some.inj ((show Tryd.prog.funcNamed "scriptorium/scriptoriumlaw15.EntryChecks" = some 3 by kernel_rfl).symm.trans hf) |>.symm
  obtain rfl : fn = Tryd.f3 := (Option.some.inj (Tryd.func3.symm.trans hfn)).symm
  refine ⟨by kernel_rfl, fun j t ht => ?_⟩
  rw [Tryd.params3] at ht
  obtain rfl : t = 27 := by simpa using Array.mem_of_getElem? ht
  exact (show Tryd.prog.wantsStandIn 27 = false by kernel_rfl)

theorem card : Rows.EntryChecksCardSaid :=
  Claim7.holds_tied_plain_at .later [] _ _ _ _ said (fun _ h => by cases h) (by kernel_rfl) (fun _ h => by cases h) entryChecks_row_tie rfl ⟨rfl, rfl⟩ (by kernel_rfl) rfl plain (by kernel_rfl)

end Go.Proofs.YtlcbdgklbjocnaaDoor.entryChecks
