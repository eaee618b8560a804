/- ServerActs: the card. -/
import Derived.Test.YtocoejhiphcehaaGreatDoorCards
import Derived.Test.YtocoejhiphcehaaGreatDoorTie
import Derived.Test.YtocoejhiphcehaaGreatDoorLActs
import Derived.Test.YtocoejhiphcehaaGreatDoorLArgs
import Derived.Test.YtocoejhiphcehaaGreatDoorLFacts

import Derived.Test.YtocoejhiphcehaaGreatDoorLTab





import Derived.Test.YtocoejhiphcehaaGreatDoorLArgs25

import Derived.WalkKit
import Derived.ProofKit
import Derived.OpenShut
import Derived.Deep.DeepHandedRow
import Derived.Lib.LaidTab
set_option linter.unusedVariables false
set_option linter.unusedSimpArgs false
set_option maxRecDepth 1000000
namespace Go.Proofs.YtocoejhiphcehaaGreatDoor.serverActs
open Go.ChangeShapes Go.WideShapes Go.ChangeAt Go.RowKit

theorem own : ownKnob Tryz.prog.godebug = none := by kernel_rfl

theorem contract (H : Type) (enc : TypeId × Value → H) (W : World) (base : Nat) (args : Array Value) (ds gs : List (DataW H)) (before : List MemPlace) (hsh : W.ShapedOpen Tryz.prog) (hL : laidMetH Tryz.prog Rows.serverActsRow.laid W)
    (hval : ∀ (j : Nat) t v, Tryz.f3.params[j]? = some t → args[j]? = some v → Value.okWide Tryz.prog W .any base t v)
    (hW : DataW.Whole enc Tryz.prog Tryz.f3.params.toList Rows.serverActsSpec.vars false W args.toList ds gs before) :
    Calls Tryz.prog 3 args W fun e W' => ∃ v, e = .returned v ∧ Rows.serverActsSpec.post enc Tryz.prog Tryz.f3 false true false false W args v W' := by
  have hW' := hW
  obtain ⟨p, q, hA0, hV, rfl, hfz, hnd⟩ := hW
  have hA : DataW.TrodAll enc Tryz.prog W 0 (fun _ => true) true Tryz.f3.params.toList args.toList ds p := hA0
  rw [Tryz.params3] at hA hval
  obtain ⟨v0, vs0, d0, ds0, p0, q0, hargs, rfl, rfl, h0, r0⟩ := trodAll_cons hA
  obtain ⟨v1, vs1, d1, ds1, p1, q1, rfl, rfl, rfl, h1, r1⟩ := trodAll_cons r0
  obtain ⟨v2, vs2, d2, ds2, p2, q2, rfl, rfl, rfl, h2, r2⟩ := trodAll_cons r1
  obtain ⟨rfl, rfl, rfl⟩ := trodAll_nil r2
  obtain rfl : args = #[v0, v1, v2] := by cases args; simp_all
  obtain ⟨rfl, rfl⟩ := trodVars_none hV
  have hp0 := Ab.param_ok hval (j := 0) (t := 23) (v := v0) (by simp) (by simp)
  obtain ⟨ft0, rc0, sz0, hv0, hl0⟩ := Ab.Tryz.arg_bounds hp0 h0
  have hp1 := Ab.param_ok hval (j := 1) (t := 24) (v := v1) (by simp) (by simp)
  obtain ⟨b1, hv1, hl1, hq1⟩ := Ab.Tryz.arg_pieces hp1 h1
  have hp2 := Ab.param_ok hval (j := 2) (t := 25) (v := v2) (by simp) (by simp)
  obtain ⟨b2, hv2, hl2, hq2⟩ := Ab.Tryz.arg_ints hp2 h2
  have hg0 := Ab.Tryz.gl_maxLen hsh
  have ht0 := Ab.Tryz.tab10_of hL rfl

  have hP : (Ab.Tryz.env W.heap.size W (Ab.glW W)).P = Tryz.prog := Ab.Tryz.env_P
  have hn := Ab.Tryz.env_n0 (n0 := W.heap.size) (w0 := W) (gl := Ab.glW W)
  have hw := Ab.Tryz.env_w0 (n0 := W.heap.size) (w0 := W) (gl := Ab.glW W)
  have hg := Ab.Tryz.env_gl (n0 := W.heap.size) (w0 := W) (gl := Ab.glW W)
  refine Ab.calls_of_law hP hn hw hg (Ab.Tryz.serverActs_t (n0 := W.heap.size) (w0 := W) (gl := Ab.glW W) (H := []) ft0 rc0 sz0 b1 b2 hl0 hl1 hq1 hl2 hq2) ⟨rfl, fun i => match i with | 0 => hv0 | 1 => hv1 | 2 => hv2 | _ + 3 => .top _⟩ fun W' hb => ⟨_, rfl, ?_⟩
  have hr : ∀ t ∈ Tryz.f3.params.toList, Tryz.prog.readableRec t = true ∧ t < Tryz.prog.types.size := by
    rw [Tryz.params3]
    intro t ht
    simp only [Array.toList, List.mem_cons, List.not_mem_nil, or_false] at ht
    rcases ht with rfl | rfl | rfl
    · exact ⟨by kernel_rfl, of_decide_eq_true (by kernel_rfl)⟩
    · exact ⟨by kernel_rfl, of_decide_eq_true (by kernel_rfl)⟩
    · exact ⟨by kernel_rfl, of_decide_eq_true (by kernel_rfl)⟩
  exact Ab.law_post hW' rfl (by kernel_rfl) Tryz.underlying4 ⟨rfl, rfl, rfl⟩ Ab.Tryz.laidOut hr hb

/-- A variable that holds an error of one text. -/
noncomputable def layErr (w : World) (g : Nat) (s : List UInt8) : World :=
  Ab.layBlock { w with heap := w.heap.push (.cells #[.string ⟨s.toArray⟩] 162 (0, 0)) } g [.iface 160 (.pointer (some ⟨w.heap.size, 0, none⟩))]

/-- A world for the witness: the settled one, the listed tables laid. -/
noncomputable def laidWorld (os : Os) : World := Ab.layBlock (layErr (layErr (Ab.layBlock (Ab.layBlock (Ab.layBlock (Ab.layBlock (World.holding Tryz.prog os ⟨#[], #[], []⟩) 4 (Ab.cellsD (Rows.laid_math_bits_deBruijn32tab (H := Unit)))) 5 (Ab.cellsD (Rows.laid_math_bits_deBruijn64tab (H := Unit)))) 1 (Ab.cellsD (Rows.laid_internal_strconv_uint64pow10 (H := Unit)))) 7 (Ab.cellsD (Rows.laid_unicode_utf8_acceptRanges (H := Unit)))) 3 [118, 97, 108, 117, 101, 32, 111, 117, 116, 32, 111, 102, 32, 114, 97, 110, 103, 101]) 2 [105, 110, 118, 97, 108, 105, 100, 32, 115, 121, 110, 116, 97, 120]) 6 (Ab.cellsD (Rows.laid_unicode_utf8_first ))
theorem laid_met (os : Os) : laidMet Tryz.prog Rows.serverActsRow.laid ((laidWorld os).forCall (fun _ _ => 0) ⟨#[], #[.agg #[.string ⟨#[]⟩, .int .i64 0, .int .i64 0], .slice .none 0 0, .slice .none 0 0], []⟩).memory :=
  laidMet_of_run' 8 (by kernel_rfl) (by kernel_rfl)
theorem reads (os : Os) {H : Type} (enc : TypeId × Value → H) : ∃ places, DataW.whole enc Tryz.prog ((laidWorld os).forCall (fun _ _ => 0) ⟨#[], #[.agg #[.string ⟨#[]⟩, .int .i64 0, .int .i64 0], .slice .none 0 0, .slice .none 0 0], []⟩).memory Tryz.f3.params.toList Rows.serverActsSpec.vars false (#[.agg #[.string ⟨#[]⟩, .int .i64 0, .int .i64 0], .slice .none 0 0, .slice .none 0 0] : Array Value).toList 8 = some ([.agg [.lit (.string []), .lit (.int .i64 0), .lit (.int .i64 0)], .nil, .nil], [], places) :=
  ⟨[], by kernel_rfl⟩

theorem lifted (os : Os) (started : os.Started) (H : Type) (enc : TypeId × Value → H) (F : Stop.Interp) :
    ReturnsInHanded {} Tryz.checked os 3 .any ((OpenSpec.ofChange Rows.serverActsSpec).preRow enc Tryz.prog Tryz.f3 Rows.serverActsRow.domain false Rows.serverActsRow.laid) (((OpenSpec.ofChange Rows.serverActsSpec).at F).post enc Tryz.prog Tryz.f3 false true false false) := by
  obtain ⟨places, hx⟩ := reads os enc
  refine returnsInHanded_of_row (C := Tryz.checked) (s := OpenSpec.ofChange Rows.serverActsSpec) own started (by kernel_rfl) Tryz.func3
    (witness_row_at (enc := enc) (C := Tryz.checked) false (laidWorld os) #[.agg #[.string ⟨#[]⟩, .int .i64 0, .int .i64 0], .slice .none 0 0, .slice .none 0 0] rfl (by kernel_rfl) (by kernel_rfl) (by kernel_rfl)
      (OpenSpec.preRow_of_cond 8 hx (by kernel_rfl) (fun k hk => by cases hk) (by kernel_rfl) (laid_met os))) ?_
  intro W base args ds gs before hval hW _ _ _ hL hsh _
  exact contract H enc W base args ds gs before hsh hL hval hW

theorem q0 : Rows.serverActsRow.wf (OpenSpec.ofChange (OpenSpec.ofChange Rows.serverActsSpec).bare) = true := by kernel_rfl
theorem q3 : Tryz.f3.params.all (Tryz.prog.readableRec ·) = true := by kernel_rfl
theorem q4 : namedTie Tryz.prog Rows.serverActsRow.named (OpenSpec.ofChange Rows.serverActsSpec).bare.vars = true := by kernel_rfl
theorem q5 : (Rows.serverActsRow.stops == []) = true := by kernel_rfl
theorem q7 : (Rows.serverActsRow.knobs == []) = true := by kernel_rfl
theorem q9 : (Rows.serverActsRow.inPlace == Tryz.prog.inPlace 3) = true := by kernel_rfl
theorem q10 : (Rows.serverActsRow.unfollowed == Tryz.prog.unfollowed 3) = true := by kernel_rfl
theorem q11 : (Rows.serverActsRow.recurses == Tryz.prog.recurses 3) = true := by kernel_rfl
theorem q12 : (Rows.serverActsRow.named == Tryz.prog.varsNamed 3) = true := by kernel_rfl
theorem q13 : (Rows.serverActsRow.maps == (Tryz.f3.params.toList ++ (OpenSpec.ofChange Rows.serverActsSpec).bare.plain.varTypes Tryz.prog).any (Tryz.prog.mapsRec ·)) = true := by kernel_rfl
theorem q14 : (Rows.serverActsRow.ifaces == (Tryz.f3.params.toList ++ (OpenSpec.ofChange Rows.serverActsSpec).bare.plain.varTypes Tryz.prog).any (Tryz.prog.ifacesRec ·)) = true := by kernel_rfl
theorem q15 : (Rows.serverActsRow.mapsOut == Tryz.prog.mapsAmong Tryz.f3.resultTypes.toList) = true := by kernel_rfl
theorem q16 : (Rows.serverActsRow.loops == (Tryz.f3.params.toList ++ (OpenSpec.ofChange Rows.serverActsSpec).bare.plain.varTypes Tryz.prog).any (Tryz.prog.loopsFrom ·)) = true := by kernel_rfl
theorem q17 : (Rows.serverActsRow.wideKeys == ((Tryz.f3.params.toList ++ (OpenSpec.ofChange Rows.serverActsSpec).bare.plain.varTypes Tryz.prog) ++ Tryz.f3.resultTypes.toList).any (Tryz.prog.wideKeysFrom ·)) = true := by kernel_rfl
theorem q18 : (OpenSpec.ofChange Rows.serverActsSpec).bare.vars.all (Tryz.prog.varReadable ·) = true := by kernel_rfl
theorem q19 : Tryz.f3.resultTypes.all (fun t => Tryz.prog.readableRec t && decide (t < Tryz.prog.types.size)) = true := by kernel_rfl
theorem q20 : (Rows.serverActsRow.ifacesOut == Tryz.f3.resultTypes.toList.any (Tryz.prog.ifacesRec ·)) = true := by kernel_rfl
theorem q21 : (Rows.serverActsRow.loopsOut == Tryz.f3.resultTypes.toList.any (Tryz.prog.loopsFrom ·)) = true := by kernel_rfl
theorem q22 : (Rows.serverActsRow.plainKeys == Tryz.prog.plainKeys) = true := by kernel_rfl
theorem q23 : Rows.serverActsRow.shortTexts.isNone = true := by kernel_rfl
theorem q26 : (Rows.serverActsRow.lifted == Tryz.prog.liftsFinal) = true := by kernel_rfl
theorem q27 : (Tryz.prog.make == some Rows.serverActsRow.make) = true := by kernel_rfl
theorem q28 : (Rows.serverActsRow.kinds == (if Rows.serverActsRow.domain.isEmpty then [] else Tryz.f3.params.toList.map fun t => match Tryz.prog.underlying t with | some (.int k) => some k | _ => none)) = true := by kernel_rfl
theorem q29 : (Rows.serverActsRow.pinned == Rows.serverActsRow.pinnedBy) = true := by kernel_rfl
theorem q30 : (Rows.serverActsRow.veiled == ((Tryz.f3.params.toList ++ (OpenSpec.ofChange Rows.serverActsSpec).bare.plain.varTypes Tryz.prog) ++ Tryz.f3.resultTypes.toList).any (Tryz.prog.veiledRec ·)) = true := by kernel_rfl
theorem q31 : Rows.serverActsRow.veiledFits Tryz.prog Tryz.f3.params.toList ((Tryz.f3.params.toList ++ (OpenSpec.ofChange Rows.serverActsSpec).bare.plain.varTypes Tryz.prog) ++ Tryz.f3.resultTypes.toList) = true := by kernel_rfl
theorem closed : joinedFacts Tryz.prog 3 Tryz.f3 (OpenSpec.ofChange Rows.serverActsSpec).bare Rows.serverActsRow = true := by
  unfold joinedFacts
  simp only [Bool.and_eq_true]
  exact ⟨⟨⟨⟨⟨⟨⟨⟨⟨⟨⟨⟨⟨⟨⟨⟨⟨⟨⟨⟨⟨⟨⟨⟨⟨⟨⟨⟨⟨⟨⟨q0, Facts.laidOut⟩, Facts.maps⟩, q3⟩, q4⟩, q5⟩, Facts.stops⟩, q7⟩, Facts.knobs⟩, q9⟩, q10⟩, q11⟩, q12⟩, q13⟩, q14⟩, q15⟩, q16⟩, q17⟩, q18⟩, q19⟩, q20⟩, q21⟩, q22⟩, q23⟩, Facts.heard⟩, Facts.enter⟩, q26⟩, q27⟩, q28⟩, q29⟩, q30⟩, q31⟩

theorem wrap : Tryz.f3.isWrapper Tryz.prog Rows.serverActsRow.wrapper Rows.serverActsRow.mainSum := by unfold Func.isWrapper; first | (rw [if_pos (by decide +kernel)]; kernel_rfl) | (rw [if_neg (by decide +kernel)]; exact ⟨rfl, rfl⟩)
theorem named_f : Tryz.prog.funcNamed "scriptorium/scriptoriumlaw25.ServerActs" = some 3 := by kernel_rfl
theorem inst_f : decide (Tryz.f3.isInstance Tryz.prog Rows.serverActsRow.origin Rows.serverActsRow.targs) = true := by kernel_rfl

theorem said : Rows.ServerActsSaid :=
  OpenClaim.holds_of_cond 3 Tryz.f3 rfl rfl rfl rfl rfl rfl rfl ⟨rfl, rfl, rfl, rfl, rfl⟩ rfl rfl rfl rfl rfl named_f Tryz.func3 closed
    (of_decide_eq_true inst_f) wrap
    (fun os started H enc _ F => by rw [OpenClaim.pre_eq_preRow]; exact lifted os started H enc F)

theorem looks_f : true = Tryz.prog.looks [] := by kernel_rfl
theorem plain (f : FuncId) (fn : Func) (hf : Tryz.pinned.checked.prog.funcNamed "scriptorium/scriptoriumlaw25.ServerActs" = some f) (hfn : Tryz.pinned.checked.prog.funcs[f]? = some fn) :
    true = Tryz.pinned.checked.prog.looks [] ∧ ∀ (j : Nat) t, fn.params[j]? = some t → Tryz.pinned.checked.prog.wantsStandIn t = false := by
  obtain rfl : f = 3 := Option.some.inj ((show Tryz.prog.funcNamed "scriptorium/scriptoriumlaw25.ServerActs" = some 3 from named_f).symm.trans hf) |>.symm
  obtain rfl : fn = Tryz.f3 := (Option.some.inj (Tryz.func3.symm.trans hfn)).symm
  refine ⟨looks_f, fun j t ht => ?_⟩
  rw [Tryz.params3] at ht
  have hm := Array.mem_of_getElem? ht
  simp only [List.mem_toArray, List.mem_cons, List.not_mem_nil, or_false] at hm
  rcases hm with rfl | rfl | rfl
  · exact (show Tryz.prog.wantsStandIn 23 = false by kernel_rfl)
  · exact (show Tryz.prog.wantsStandIn 24 = false by kernel_rfl)
  · exact (show Tryz.prog.wantsStandIn 25 = false by kernel_rfl)

theorem wf_f : Rows.serverActsRow.wfByText (OpenSpec.ofChange Rows.serverActsSpec) = true := by kernel_rfl
theorem goes_f : false = Rows.serverActsRow.goesBy Tryz.prog := by kernel_rfl
theorem card : Rows.ServerActsCardSaid :=
  Claim7.holds_tied_plain_at .later [] _ _ _ _ said (fun _ h => by cases h) wf_f (fun _ h => by cases h) serverActs_row_tie rfl ⟨rfl, rfl⟩ (by kernel_rfl) rfl plain goes_f

end Go.Proofs.YtocoejhiphcehaaGreatDoor.serverActs
