/- Walks: the laws on boundaries and on reports. -/
import Derived.Test.YtpdjgbpmlckepaaDoorLMime3
set_option linter.unusedSimpArgs false
set_option linter.unusedVariables false
set_option maxHeartbeats 4000000
set_option maxRecDepth 4000
namespace Go.Ab
open Go Go.RowKit
/-- A contract holds where less is known of its arguments. -/
theorem ACall.weaker {E : Env} {f : FuncId} {a b : List AV} {H : List AO} {R : AE → List AO → Prop} (k : ACall E f a H R) (h : ∀ g cs, VRels g b cs → VRels g a cs) : ACall E f b H R := fun g w cs hr hv => k g w cs hr (h g cs hv)
end Go.Ab
namespace Go.Ab.Tryd
open Go Go.Ab Go.Proofs
attribute [local irreducible] W Wl Wop TrA WSeq WLoopS FPost DPost RPost WRound DK onEnd
variable {n0 : Nat} {w0 : World} {gl : Nat → List AV} {H : List AO}
attribute [local simp] belowL_bytesAV belowL_strsM

theorem bdN_nil : bdN [] = 0 := (bdN_eq (b := []) (n := 0) (by decide +kernel) (Nat.zero_le _)).symm
theorem bdN_one : bdN [45, 45, 106, 111, 117, 114, 110, 97, 108, 45, 48] = 1 := by
  refine (bdN_eq (n := 1) (by decide +kernel) ?_).symm
  rcases Nat.eq_zero_or_pos (bdN [45, 45, 106, 111, 117, 114, 110, 97, 108, 45, 48]) with h | h
  · have := bdN_at [45, 45, 106, 111, 117, 114, 110, 97, 108, 45, 48]
    rw [h] at this
    exact absurd this (by decide +kernel)
  · exact h
theorem env_ab : EnvOk [] [[97, 64, 98]] 0 := ⟨.inl rfl, by simp, by omega, fun i hi => by
  obtain rfl : i = 0 := by simp at hi; omega
  exact mail_ab⟩
theorem rep_len : 100 < (repS [] [[97, 64, 98]] 0 []).length := by
  unfold repS bdS; rw [bdN_nil]; decide +kernel

theorem rels_env {g : Ghost} {fro : List UInt8} {n m : Nat} {xs ys : List AV} {a : AV} {tok tok2 : Tok} {cs : Array Value} (h : VRels g [.agg [.str fro, .sl n xs tok, a], .sl m ys tok2] cs) : VRels g [.agg [.str fro, .sl n xs .ro, a], .sl m ys .ro] cs := ⟨h.1, fun i => match i with
  | 0 => by
    have := h.2 0
    simp only [List.getD_cons_zero] at this ⊢
    generalize cs.getD 0 undef = c at this
    cases this with
    | agg _ cs2 hl hv => exact .agg _ _ hl (fun j => match j with
      | 0 => hv 0
      | 1 => sl_ro g _ (hv 1)
      | 2 => hv 2
      | j + 3 => .top _)
  | 1 => sl_ro g _ (h.2 1)
  | i + 2 => .top _⟩

theorem awake11_e [ht : Tab10 n0 w0] [hml : GLInt gl 0] : AEnter (env n0 w0 gl) 13 [] H (fun y H' => y = .ret (.bool true) ∧ H' = H) := by
  have h0 : chkE [] [[97, 64, 98]] 0 ([] : List UInt8).length = 0 := by unfold chkE; rw [tf_true env_ab]; rfl
  have hR : ∀ H tok tok2, Ctr (env n0 w0 gl) 18 [.agg [.str [], .sl 1 [.str [97, 64, 98]] tok, .int .i64 0], .sl 0 [] tok2] H True (.tup [.sl (repS [] [[97, 64, 98]] 0 []).length (bytesAV (repS [] [[97, 64, 98]] 0 [])) .ro, .int .i64 0]) H := fun H tok tok2 => ⟨fun _ => by
    have := (report_e (n0 := n0) (w0 := w0) (gl := gl) (H := H) [] [[97, 64, 98]] 0 [] (by decide) (by decide) (fun i hi => by
      obtain rfl : i = 0 := by simp at hi; omega
      decide) (by decide) (by decide)).call
    unfold repV at this
    rw [if_pos h0] at this
    exact this.weaker fun g cs h => rels_env h⟩
  have hB : ∀ H, Ctr (env n0 w0 gl) 45 [.sl 11 [.int .u8 45, .int .u8 45, .int .u8 106, .int .u8 111, .int .u8 117, .int .u8 114, .int .u8 110, .int .u8 97, .int .u8 108, .int .u8 45, .int .u8 48] .ro] H True (.str [106, 111, 117, 114, 110, 97, 108, 45, 49]) H := fun H => .of fun _ => by
    have := boundary_e (n0 := n0) (w0 := w0) (gl := gl) (H := H) [45, 45, 106, 111, 117, 114, 110, 97, 108, 45, 48] (by decide)
    unfold bdS at this
    rw [bdN_one, show journalB ++ Lib.decDigits 1 = [106, 111, 117, 114, 110, 97, 108, 45, 49] by decide +kernel] at this
    exact this
  have hlen := rep_len
  generalize repS [] [[97, 64, 98]] 0 [] = r at *
  refine enter (md := fun t => if t = 9 then 2 else 0) Tryd.func13 (fun hfit hgl => ?_)
  repeat' (first | refine go ?_ | (refine br (fun hc => ?_) (fun hc => ?_) <;> try (exfalso; omega)) | fail)
  rw [decide_eq_true (by omega)]
  exact .junkd ⟨rfl, rfl⟩
instance awake11_t [ht : Tab10 n0 w0] [hml : GLInt gl 0] : Ctr (env n0 w0 gl) 13 [] H True (.bool true) H := .of fun _ => awake11_e

/-- An envelope's parts at most; whether an envelope and bytes are few. -/
def EnvBig (fro : List UInt8) (to : List (List UInt8)) (a : Int) : Prop := fro.length ≤ 9223372036854775807 ∧ to.length ≤ 9223372036854775807 ∧ (∀ i, i < to.length → (to.getD i []).length ≤ 9223372036854775807) ∧ a ≤ 9223372036854775807
def EnvFew (fro : List UInt8) (to : List (List UInt8)) (n : Nat) : Prop := fro.length ≤ 300 ∧ (to.length ≤ 10 ∨ to.length = 101) ∧ n ≤ 1000
theorem few11_e (fro : List UInt8) (to : List (List UInt8)) (a : Int) (b : List AV) (n : Nat) (h : EnvBig fro to a) (hn : n ≤ 9223372036854775807) : AEnter (env n0 w0 gl) 17 [.agg [.str fro, .sl to.length (to.map .str) .ro, .int .i64 a], .sl n b .ro] H (fun y H' => y = .ret (.bool (tf (EnvFew fro to n))) ∧ H' = H) := by
  obtain ⟨h1, h2, h3, h4⟩ := h
  refine enter (md := fun _ => 0) Tryd.func17 (fun hfit hgl => ?_)
  repeat' (first | refine go ?_ | (refine br (fun hc => ?_) (fun hc => ?_) <;> try (exfalso; omega)) | fail)
  all_goals first
    | (rw [tf_false (p := EnvFew fro to n) (by rintro ⟨g1, g2, g3⟩; omega)]; exact .junkd ⟨rfl, rfl⟩)
    | (rw [show tf (EnvFew fro to n) = decide ((n : Int) ≤ 1000) from by
        by_cases h5 : n ≤ 1000
        · rw [tf_true (p := EnvFew fro to n) ⟨by omega, by omega, h5⟩, decide_eq_true (by omega)]
        · rw [tf_false (p := EnvFew fro to n) (fun h => h5 h.2.2), decide_eq_false (by omega)]]
       exact .junkd ⟨rfl, rfl⟩)

end Go.Ab.Tryd
