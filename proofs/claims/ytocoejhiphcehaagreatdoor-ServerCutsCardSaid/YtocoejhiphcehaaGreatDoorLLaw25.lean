/- Walks: the laws on sessions: what wakes them; a session that nobody made. -/
import Derived.Test.YtocoejhiphcehaaGreatDoorLSrvD
import Derived.Test.YtocoejhiphcehaaGreatDoorLBnc6
import Derived.Test.YtocoejhiphcehaaGreatDoorSThr
set_option linter.unusedSimpArgs false
set_option linter.unusedVariables false
set_option maxHeartbeats 8000000
set_option maxRecDepth 10000
namespace Go.Ab.Tryz
open Go Go.Ab Go.Proofs
attribute [local irreducible] W Wl Wop TrA WSeq WLoopS WLoopM FPost DPost RPost WRound DK onEnd
attribute [local simp] belowL_bytesAV belowL_strsM belowL_linesAV
variable {n0 : Nat} {w0 : World} {gl : Nat → List AV} {H : List AO}

instance closed_nil : Ctr (env n0 w0 gl) 19 [.nilp] H True (.bool true) H := .of fun _ => by
  refine enter (md := fun _ => 0) Tryz.func19 (fun hfit hgl => ?_)
  repeat' (first | refine go ?_ | (refine br (fun hc => ?_) (fun hc => ?_) <;> try (exfalso; omega)) | fail)
  exact .now ⟨rfl, rfl⟩
instance pend_nil : Ctr (env n0 w0 gl) 14 [.nilp] H True (.tup [.agg [.str [], .sl 0 [] .full, .int .i64 0], .sl 0 [] .full, .bool false]) H := .of fun _ => by
  refine enter (md := fun _ => 0) Tryz.func14 (fun hfit hgl => ?_)
  repeat' (first | refine go ?_ | (refine br (fun hc => ?_) (fun hc => ?_) <;> try (exfalso; omega)) | fail)
  exact .junkd ⟨rfl, rfl⟩
instance feed_nil (n : Nat) (xs : List AV) (tok : Tok) : Ctr (env n0 w0 gl) 12 [.nilp, .sl n xs tok] H True (.sl 0 [] .full) H := .of fun _ => by
  refine enter (md := fun _ => 0) Tryz.func12 (fun hfit hgl => ?_)
  repeat' (first | refine go ?_ | (refine br (fun hc => ?_) (fun hc => ?_) <;> try (exfalso; omega)) | fail)
  exact .now ⟨rfl, rfl⟩
instance ans_nil (c : Int) : Ctr (env n0 w0 gl) 16 [.nilp, .int .i64 c] H True (.sl 0 [] .full) H := .of fun _ => by
  refine enter (md := fun _ => 0) Tryz.func16 (fun hfit hgl => ?_)
  repeat' (first | refine go ?_ | (refine br (fun hc => ?_) (fun hc => ?_) <;> try (exfalso; omega)) | fail)
  exact .now ⟨rfl, rfl⟩

/-- A session's memory as it is made. -/
def sesH (H : List AO) (s : Ses) (ek et : Nat) (l : List AO) : List AO := H ++ (.dead :: .cells (sesAV s (H.length + 2) ek (H.length + 3) et) :: .tail 1 ek :: .tail 1 et :: l)
theorem sesH_at (H : List AO) (s : Ses) (ek et : Nat) (l : List AO) : SesAt (sesH H s ek et l) (H.length + 1) (H.length + 2) (H.length + 3) s ek et := by
  unfold sesH
  refine ⟨?_, ?_, ?_, by omega⟩ <;> simp [getE, getE0]
theorem sesH_put (H : List AO) (s s' : Ses) (ek et ek' et' : Nat) (l : List AO) : sput (sesH H s ek et l) (H.length + 1) (H.length + 2) (H.length + 3) s' ek' et' = sesH H s' ek' et' l := by
  unfold sput sesH
  simp [setE, setE0]
theorem cmdP_noop : cmdP [78, 79, 79, 80] = (7, [], 0, 0) := by
  have hc : cutB [78, 79, 79, 80] = ([78, 79, 79, 80], []) := by decide +kernel
  have hv : verbU (([78, 79, 79, 80] : List UInt8).map upB) = 7 := by decide +kernel
  unfold cmdP
  rw [tf_true ⟨by decide, by unfold Clean; decide +kernel⟩, hc]
  simp only [hv]
  have hB : fillB 7 [] = true := by unfold fillB; rw [if_neg (by omega), if_neg (by omega), if_neg (by omega), if_pos (by omega)]
  have hT : fillT 7 [] = [] := by unfold fillT; rw [if_neg (by omega), if_neg (by omega), if_neg (by omega)]
  have hN : fillN 7 [] = 0 := by unfold fillN; rw [if_neg (by omega)]
  rw [hB, hT, hN]
  rfl
theorem dom_h : DomainOk [104] := by
  refine ⟨?_, by simp⟩
  intro p hp
  simp [parts] at hp
  subst hp
  refine ⟨by simp, by simp, by simp, by simp, fun i hi => ?_⟩
  obtain rfl : i = 0 := by simp at hi; omega
  left; decide
theorem awake_feed : feedS (newS [104] 5 100) [78, 79, 79, 80, 13, 10] = ([50, 50, 48, 32, 104, 32, 114, 101, 97, 100, 121, 13, 10, 50, 53, 48, 32, 111, 107, 13, 10], { newS [104] 5 100 with told := true }) := by
  have h1 : stepO { newS [104] 5 100 with kept := [78, 79, 79, 80, 13, 10], told := true } = some ([50, 53, 48, 32, 111, 107, 13, 10], { newS [104] 5 100 with told := true }) := by
    unfold stepO
    rw [if_neg (by simp [newS]), if_neg (by simp [newS])]
    rw [show crlfAt ({ newS [104] 5 100 with kept := [78, 79, 79, 80, 13, 10], told := true } : Ses).kept = some ([78, 79, 79, 80], []) by decide]
    simp only
    unfold cmdA
    rw [cmdP_noop]
    rfl
  have h2 : stepO { newS [104] 5 100 with told := true } = none := by
    unfold stepO
    rw [if_neg (by simp [newS]), if_neg (by simp [newS])]
    rfl
  unfold feedS
  rw [if_neg (by simp [newS])]
  have e : ({ newS [104] 5 100 with kept := (newS [104] 5 100).kept ++ [78, 79, 79, 80, 13, 10], told := true } : Ses) = { newS [104] 5 100 with kept := [78, 79, 79, 80, 13, 10], told := true } := rfl
  rw [e, onS_some h1, onS_none h2]
  rfl
instance awake25_t [hml : GLInt gl 0] [ht : Tab10 n0 w0] : Ctr (env n0 w0 gl) 8 [] H True (.bool true) H := .of fun _ => by
  have hn : Ctr (env n0 w0 gl) 10 [.agg [.str [104], .int .i64 5, .int .i64 100]] H True (.ref (H.length + 1) 0) (sesH H (newS [104] 5 100) 1 1 []) := .of fun _ => by
    have := new_e (n0 := n0) (w0 := w0) (gl := gl) (H := H) [104] 5 100 (by decide)
    rw [show hostN [104] = [104] by unfold hostN; rw [if_pos (tf_true dom_h)], show clampN 100 5 = 5 by decide, show clampN 500000 100 = 100 by decide] at this
    exact this
  have hg : (newS [104] 5 100).Good := good_new [104] (by decide) (by decide) (by decide)
  have hf : ∀ l tok, Ctr (env n0 w0 gl) 12 [.ref (H.length + 1) 0, .sl 6 [.int .u8 78, .int .u8 79, .int .u8 79, .int .u8 80, .int .u8 13, .int .u8 10] tok] (sesH H (newS [104] 5 100) 1 1 [] ++ l) True (.sl 21 (bytesAV [50, 50, 48, 32, 104, 32, 114, 101, 97, 100, 121, 13, 10, 50, 53, 48, 32, 111, 107, 13, 10]) .ro) (sesH H { newS [104] 5 100 with told := true } (feedT ⟨newS [104] 5 100, 1, 1⟩ [78, 79, 79, 80, 13, 10]).ek (feedT ⟨newS [104] 5 100, 1, 1⟩ [78, 79, 79, 80, 13, 10]).et [] ++ l) := fun l tok => .of fun _ => by
    have := feed_e (n0 := n0) (w0 := w0) (gl := gl) ((sesH_at H (newS [104] 5 100) 1 1 []).app l) hg.lim [78, 79, 79, 80, 13, 10] tok (by decide)
    rw [sput_app (sesH_at ..), sesH_put, feedT_s, awake_feed] at this
    exact this
  have hc : ∀ ek et l, Ctr (env n0 w0 gl) 19 [.ref (H.length + 1) 0] (sesH H { newS [104] 5 100 with told := true } ek et [] ++ l) True (.bool false) (sesH H { newS [104] 5 100 with told := true } ek et [] ++ l) := fun ek et l => .of fun _ => closed_e ((sesH_at ..).app l) (by decide)
  refine enter (md := fun t => if t = 8 then 2 else 0) Tryz.func8 (fun hfit hgl => ?_)
  repeat' (first | refine go ?_ | (refine br (fun hc => ?_) (fun hc => ?_) <;> try (exfalso; omega)) | fail)
  unfold sesH
  rw [List.append_assoc]
  exact Out.junk _ hfit rfl ⟨rfl, rfl⟩
theorem serverNone_t [hml : GLInt gl 0] [ht : Tab10 n0 w0] (b : List UInt8) (n : Int) (hb : b.length ≤ 9223372036854775807) (hn : -9223372036854775808 ≤ n ∧ n ≤ 9223372036854775807) : AEnter (env n0 w0 gl) 6 [.sl b.length (bytesAV b) .ro, .int .i64 n] H (fun y H' => y = .ret (.bool true) ∧ H' = H) := by
  by_cases hl : b.length ≤ 1500
  · have hl2 : ¬ ((b.length : Int) > 1500) := by omega
    have hh := hl2
    refine enter (md := fun _ => 0) Tryz.func6 (fun hfit hgl => ?_)
    repeat' (first | refine go ?_ | (refine br (fun hc => ?_) (fun hc => ?_) <;> try (exfalso; omega)) | fail)
    exact .junkd ⟨rfl, rfl⟩
  · have hl2 : (b.length : Int) > 1500 := by omega
    have hh := hl2
    refine enter (md := fun _ => 0) Tryz.func6 (fun hfit hgl => ?_)
    repeat' (first | refine go ?_ | (refine br (fun hc => ?_) (fun hc => ?_) <;> try (exfalso; omega)) | fail)
    exact .now ⟨rfl, rfl⟩
end Go.Ab.Tryz
