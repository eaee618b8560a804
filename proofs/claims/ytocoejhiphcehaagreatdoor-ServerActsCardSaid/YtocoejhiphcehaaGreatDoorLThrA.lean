/- Walks: the laws on sessions: what wakes them; a session that nobody made. -/
import Derived.Test.YtocoejhiphcehaaGreatDoorLSrvD
import Derived.Test.YtocoejhiphcehaaGreatDoorLBnc6
import Derived.Test.YtocoejhiphcehaaGreatDoorSThr
section
set_option linter.unusedSimpArgs false
set_option linter.unusedVariables false
set_option maxHeartbeats 8000000
set_option maxRecDepth 10000
namespace Go.Ab.Tryz
open Go Go.Ab Go.Proofs
attribute [local irreducible] W Wl Wop TrA WSeq WLoopS WLoopM FPost DPost RPost WRound DK onEnd
attribute [local simp] belowL_bytesAV belowL_strsM belowL_linesAV
variable {n0 : Nat} {w0 : World} {gl : Nat → List AV} {H : List AO}

instance closed_nil : Ctr (env n0 w0 gl) 19 [.nilp] H True (.bool true) H := .of fun _ => by
  refine enter (md := fun _ => 0) Tryz.func19 (fun hfit hgl => ?_)
  repeat' (first | refine go ?_ | (refine br (fun hc => ?_) (fun hc => ?_) <;> try (exfalso; omega)) | fail)
  exact .now ⟨rfl, rfl⟩
instance pend_nil : Ctr (env n0 w0 gl) 14 [.nilp] H True (.tup [.agg [.str [], .sl 0 [] .full, .int .i64 0], .sl 0 [] .full, .bool false]) H := .of fun _ => by
  refine enter (md := fun _ => 0) Tryz.func14 (fun hfit hgl => ?_)
  repeat' (first | refine go ?_ | (refine br (fun hc => ?_) (fun hc => ?_) <;> try (exfalso; omega)) | fail)
  exact .junkd ⟨rfl, rfl⟩
instance feed_nil (n : Nat) (xs : List AV) (tok : Tok) : Ctr (env n0 w0 gl) 12 [.nilp, .sl n xs tok] H True (.sl 0 [] .full) H := .of fun _ => by
  refine enter (md := fun _ => 0) Tryz.func12 (fun hfit hgl => ?_)
  repeat' (first | refine go ?_ | (refine br (fun hc => ?_) (fun hc => ?_) <;> try (exfalso; omega)) | fail)
  exact .now ⟨rfl, rfl⟩
instance ans_nil (c : Int) : Ctr (env n0 w0 gl) 16 [.nilp, .int .i64 c] H True (.sl 0 [] .full) H := .of fun _ => by
  refine enter (md := fun _ => 0) Tryz.func16 (fun hfit hgl => ?_)
  repeat' (first | refine go ?_ | (refine br (fun hc => ?_) (fun hc => ?_) <;> try (exfalso; omega)) | fail)
  exact .now ⟨rfl, rfl⟩

/-- A session's memory as it is made. -/
def sesH (H : List AO) (s : Ses) (ek et : Nat) (l : List AO) : List AO := H ++ (.dead :: .cells (sesAV s (H.length + 2) ek (H.length + 3) et) :: .tail 1 ek :: .tail 1 et :: l)
theorem sesH_at (H : List AO) (s : Ses) (ek et : Nat) (l : List AO) : SesAt (sesH H s ek et l) (H.length + 1) (H.length + 2) (H.length + 3) s ek et := by
  unfold sesH
  refine ⟨?_, ?_, ?_, by omega⟩ <;> simp [getE, getE0]
theorem sesH_put (H : List AO) (s s' : Ses) (ek et ek' et' : Nat) (l : List AO) : sput (sesH H s ek et l) (H.length + 1) (H.length + 2) (H.length + 3) s' ek' et' = sesH H s' ek' et' l := by
  unfold sput sesH
  simp [setE, setE0]
theorem cmdP_noop : cmdP [78, 79, 79, 80] = (7, [], 0, 0) := by
  have hc : cutB [78, 79, 79, 80] = ([78, 79, 79, 80], []) := by decide +kernel
  have hv : verbU (([78, 79, 79, 80] : List UInt8).map upB) = 7 := by decide +kernel
  unfold cmdP
  rw [tf_true ⟨by decide, by unfold Clean; decide +kernel⟩, hc]
  simp only [hv]
  have hB : fillB 7 [] = true := by unfold fillB; rw [if_neg (by omega), if_neg (by omega), if_neg (by omega), if_pos (by omega)]
  have hT : fillT 7 [] = [] := by unfold fillT; rw [if_neg (by omega), if_neg (by omega), if_neg (by omega)]
  have hN : fillN 7 [] = 0 := by unfold fillN; rw [if_neg (by omega)]
  rw [hB, hT, hN]
  rfl
theorem dom_h : DomainOk [104] := by
  refine ⟨?_, by simp⟩
  intro p hp
  simp [parts] at hp
  subst hp
  refine ⟨by simp, by simp, by simp, by simp, fun i hi => ?_⟩
  obtain rfl : i = 0 := by simp at hi; omega
  left; decide
theorem awake_feed : feedS (newS [104] 5 100) [78, 79, 79, 80, 13, 10] = ([50, 50, 48, 32, 104, 32, 114, 101, 97, 100, 121, 13, 10, 50, 53, 48, 32, 111, 107, 13, 10], { newS [104] 5 100 with told := true }) := by
  have h1 : stepO { newS [104] 5 100 with kept := [78, 79, 79, 80, 13, 10], told := true } = some ([50, 53, 48, 32, 111, 107, 13, 10], { newS [104] 5 100 with told := true }) := by
    unfold stepO
    rw [if_neg (by simp [newS]), if_neg (by simp [newS])]
    rw [show crlfAt ({ newS [104] 5 100 with kept := [78, 79, 79, 80, 13, 10], told := true } : Ses).kept = some ([78, 79, 79, 80], []) by decide]
    simp only
    unfold cmdA
    rw [cmdP_noop]
    rfl
  have h2 : stepO { newS [104] 5 100 with told := true } = none := by
    unfold stepO
    rw [if_neg (by simp [newS]), if_neg (by simp [newS])]
    rfl
  unfold feedS
  rw [if_neg (by simp [newS])]
  have e : ({ newS [104] 5 100 with kept := (newS [104] 5 100).kept ++ [78, 79, 79, 80, 13, 10], told := true } : Ses) = { newS [104] 5 100 with kept := [78, 79, 79, 80, 13, 10], told := true } := rfl
  rw [e, onS_some h1, onS_none h2]
  rfl
instance awake25_t [hml : GLInt gl 0] [ht : Tab10 n0 w0] : Ctr (env n0 w0 gl) 8 [] H True (.bool true) H := .of fun _ => by
  have hn : Ctr (env n0 w0 gl) 10 [.agg [.str [104], .int .i64 5, .int .i64 100]] H True (.ref (H.length + 1) 0) (sesH H (newS [104] 5 100) 1 1 []) := .of fun _ => by
    have := new_e (n0 := n0) (w0 := w0) (gl := gl) (H := H) [104] 5 100 (by decide)
    rw [show hostN [104] = [104] by unfold hostN; rw [if_pos (tf_true dom_h)], show clampN 100 5 = 5 by decide, show clampN 500000 100 = 100 by decide] at this
    exact this
  have hg : (newS [104] 5 100).Good := good_new [104] (by decide) (by decide) (by decide)
  have hf : ∀ l tok, Ctr (env n0 w0 gl) 12 [.ref (H.length + 1) 0, .sl 6 [.int .u8 78, .int .u8 79, .int .u8 79, .int .u8 80, .int .u8 13, .int .u8 10] tok] (sesH H (newS [104] 5 100) 1 1 [] ++ l) True (.sl 21 (bytesAV [50, 50, 48, 32, 104, 32, 114, 101, 97, 100, 121, 13, 10, 50, 53, 48, 32, 111, 107, 13, 10]) .ro) (sesH H { newS [104] 5 100 with told := true } (feedT ⟨newS [104] 5 100, 1, 1⟩ [78, 79, 79, 80, 13, 10]).ek (feedT ⟨newS [104] 5 100, 1, 1⟩ [78, 79, 79, 80, 13, 10]).et [] ++ l) := fun l tok => .of fun _ => by
    have := feed_e (n0 := n0) (w0 := w0) (gl := gl) ((sesH_at H (newS [104] 5 100) 1 1 []).app l) hg.lim [78, 79, 79, 80, 13, 10] tok (by decide)
    rw [sput_app (sesH_at ..), sesH_put, feedT_s, awake_feed] at this
    exact this
  have hc : ∀ ek et l, Ctr (env n0 w0 gl) 19 [.ref (H.length + 1) 0] (sesH H { newS [104] 5 100 with told := true } ek et [] ++ l) True (.bool false) (sesH H { newS [104] 5 100 with told := true } ek et [] ++ l) := fun ek et l => .of fun _ => closed_e ((sesH_at ..).app l) (by decide)
  refine enter (md := fun t => if t = 8 then 2 else 0) Tryz.func8 (fun hfit hgl => ?_)
  repeat' (first | refine go ?_ | (refine br (fun hc => ?_) (fun hc => ?_) <;> try (exfalso; omega)) | fail)
  unfold sesH
  rw [List.append_assoc]
  exact Out.junk _ hfit rfl ⟨rfl, rfl⟩
theorem serverNone_t [hml : GLInt gl 0] [ht : Tab10 n0 w0] (b : List UInt8) (n : Int) (hb : b.length ≤ 9223372036854775807) (hn : -9223372036854775808 ≤ n ∧ n ≤ 9223372036854775807) : AEnter (env n0 w0 gl) 6 [.sl b.length (bytesAV b) .ro, .int .i64 n] H (fun y H' => y = .ret (.bool true) ∧ H' = H) := by
  by_cases hl : b.length ≤ 1500
  · have hl2 : ¬ ((b.length : Int) > 1500) := by omega
    have hh := hl2
    refine enter (md := fun _ => 0) Tryz.func6 (fun hfit hgl => ?_)
    repeat' (first | refine go ?_ | (refine br (fun hc => ?_) (fun hc => ?_) <;> try (exfalso; omega)) | fail)
    exact .junkd ⟨rfl, rfl⟩
  · have hl2 : (b.length : Int) > 1500 := by omega
    have hh := hl2
    refine enter (md := fun _ => 0) Tryz.func6 (fun hfit hgl => ?_)
    repeat' (first | refine go ?_ | (refine br (fun hc => ?_) (fun hc => ?_) <;> try (exfalso; omega)) | fail)
    exact .now ⟨rfl, rfl⟩
end Go.Ab.Tryz

end

section
set_option linter.unusedSimpArgs false
set_option linter.unusedVariables false
set_option maxHeartbeats 16000000
set_option maxRecDepth 10000
namespace Go.Ab.Tryz
open Go Go.Ab Go.Proofs
attribute [local irreducible] W Wl Wop TrA WSeq WLoopS WLoopM FPost DPost RPost WRound DK onEnd
attribute [local simp] belowL_bytesAV belowL_strsM belowL_linesAV
variable {n0 : Nat} {w0 : World} {gl : Nat → List AV} {H : List AO}

def intsAV (l : List Int) : List AV := l.map (.int .i64)
theorem belowL_ints (n : Nat) : ∀ l : List Int, belowL n (intsAV l) = true
  | [] => rfl
  | x :: l => by have := belowL_ints n l; simp only [intsAV, List.map_cons] at this ⊢; simp [belowL, AV.within, this]
theorem ints_at {l : List Int} {i : Nat} (h : i < l.length) : (intsAV l).getD i .top = .int .i64 (l.getD i 0) := by
  rw [List.getD_eq_getElem?_getD, List.getD_eq_getElem?_getD]
  simp only [intsAV, List.getElem?_map, List.getElem?_eq_getElem h, Option.map_some, Option.getD_some]
instance code_t (n : Nat) (l : List Int) (i : Nat) : Ctr (env n0 w0 gl) 17 [.sl n (intsAV l) .ro, .int .i64 (i : Int)] H (n = l.length ∧ n ≤ 9223372036854775807 ∧ i ≤ 1000) (.int .i64 (codeA l i)) H := .of fun ⟨hn, hb, hi⟩ => by
  subst hn
  unfold codeA
  by_cases q : l.length = 0
  · rw [if_pos q]
    have hh := q
    refine enter (md := fun _ => 0) Tryz.func17 (fun hfit hgl => ?_)
    repeat' (first | refine go ?_ | (refine br (fun hc => ?_) (fun hc => ?_) <;> try (exfalso; omega)) | fail)
    exact .now ⟨rfl, rfl⟩
  · rw [if_neg q]
    have hlt : i % l.length < l.length := Nat.mod_lt _ (by omega)
    have hat := ints_at hlt
    have hm : (i : Int).tmod (l.length : Int) = ((i % l.length : Nat) : Int) := by rw [Int.tmod_eq_emod_of_nonneg (by omega)]; rfl
    have hla : (intsAV l).length = l.length := by simp [intsAV]
    generalize i % l.length = k at *
    have hh := And.intro q (And.intro hat (And.intro hm (And.intro hla hlt)))
    refine enter (md := fun _ => 0) Tryz.func17 (fun hfit hgl => ?_)
    repeat' (first | refine go ?_ | (refine br (fun hc => ?_) (fun hc => ?_) <;> try (exfalso; omega)) | fail)
    exact .now ⟨rfl, rfl⟩

noncomputable def ansT (t : SesT) : SesT := onT ⟨t.s.clear, t.ek, t.et + 1⟩
theorem ansT_s (t : SesT) (c : Int) (h : t.s.shut = false ∧ t.s.waits = true) : (ansT t).s = (answerS t.s c).2 := by
  unfold ansT answerS
  rw [if_neg (by rw [h.1, h.2]; simp)]
  exact onT_s _
end Go.Ab.Tryz

end

section
set_option linter.unusedSimpArgs false
set_option linter.unusedVariables false
set_option maxHeartbeats 16000000
set_option maxRecDepth 10000
namespace Go.Ab.Tryz
open Go Go.Ab Go.Proofs
attribute [local irreducible] W Wl Wop TrA WSeq WLoopS WLoopM FPost DPost RPost WRound DK onEnd
attribute [local simp] belowL_bytesAV belowL_strsM belowL_linesAV belowL_ints belowL_appM
variable {n0 : Nat} {w0 : World} {gl : Nat → List AV} {H : List AO}

def FewOk (l : List (List UInt8)) : Prop := l.length ≤ 40 ∧ ∀ x ∈ l, x.length ≤ 1500
theorem few_flat {l : List (List UInt8)} (h : FewOk l) : l.flatten.length ≤ 60000 := by
  have key : ∀ l : List (List UInt8), (∀ x ∈ l, x.length ≤ 1500) → l.flatten.length ≤ 1500 * l.length := by
    intro l
    induction l with
    | nil => intro _; simp
    | cons x l ih =>
      intro h
      have h1 := h x (by simp)
      have h2 := ih fun y hy => h y (by simp [hy])
      simp only [List.flatten_cons, List.length_append, List.length_cons]; omega
  have h1 := key l h.2
  have h2 := h.1
  omega
theorem few_e (l : List (List UInt8)) (hl : l.length ≤ 9223372036854775807) (hx : ∀ x ∈ l, x.length ≤ 9223372036854775807) : AEnter (env n0 w0 gl) 9 [.sl l.length (linesAV l) .ro] H (fun y H' => y = .ret (.bool (tf (FewOk l))) ∧ H' = H) := by
  have hla := linesAV_len l
  by_cases q : l.length ≤ 40
  · have hq : ¬ ((l.length : Int) > 40) := by omega
    have hh := And.intro hq hla
    refine enter (md := fun _ => 0) Tryz.func9 (fun hfit hgl => ?_)
    repeat' (first | refine go ?_ | (refine br (fun hc => ?_) (fun hc => ?_) <;> try (exfalso; omega)) | fail)
    refine loop0 (fun i : Nat => (.sl l.length (linesAV l) .ro :: .top :: .bool false :: .top :: .top :: .top :: .top :: .top :: .sl l.length (linesAV l) .ro :: .int .i64 l.length :: .int .i64 (i : Int) :: .top :: .top :: .top :: .top :: .top :: .top :: .top :: [])) (fun i => i ≤ l.length ∧ ∀ x ∈ l.take i, x.length ≤ 1500) (fun i => l.length - i) 0 ⟨Nat.zero_le _, fun x hx => by simp at hx⟩ ?_
    rintro i ⟨hi, hall⟩
    by_cases hlt : i < l.length
    · have hat := rlines_at hlt
      have hmem := List.getElem_mem hlt
      have hxl := hx _ hmem
      have htk : l.take (i + 1) = l.take i ++ [l[i]] := by rw [List.take_add_one, List.getElem?_eq_getElem hlt]; rfl
      generalize l[i] = x at *
      by_cases p : x.length ≤ 1500
      · have hp : ¬ ((x.length : Int) > 1500) := by omega
        have hh := And.intro hp (And.intro hla hat)
        repeat' (first | refine go ?_ | (refine br (fun hc => ?_) (fun hc => ?_) <;> try (exfalso; omega)) | fail)
        refine again (i + 1) ⟨by omega, fun y hy => ?_⟩ (by omega)
        rw [htk] at hy
        rcases List.mem_append.1 hy with e | e
        · exact hall y e
        · rw [List.mem_singleton.1 e]; exact p
      · have hno : tf (FewOk l) = false := tf_false fun h => p (h.2 x hmem)
        rw [hno]
        have hp : (x.length : Int) > 1500 := by omega
        have hh := And.intro hp (And.intro hla hat)
        repeat' (first | refine go ?_ | (refine br (fun hc => ?_) (fun hc => ?_) <;> try (exfalso; omega)) | fail)
        exact .now ⟨rfl, rfl⟩
    · obtain rfl : i = l.length := by omega
      rw [List.take_length] at hall
      have hyes : tf (FewOk l) = true := tf_true ⟨q, hall⟩
      rw [hyes]
      have hh := hla
      repeat' (first | refine go ?_ | (refine br (fun hc => ?_) (fun hc => ?_) <;> try (exfalso; omega)) | fail)
      exact .now ⟨rfl, rfl⟩
  · have hno : tf (FewOk l) = false := tf_false fun h => q h.1
    rw [hno]
    have hq : (l.length : Int) > 40 := by omega
    have hh := hq
    refine enter (md := fun _ => 0) Tryz.func9 (fun hfit hgl => ?_)
    repeat' (first | refine go ?_ | (refine br (fun hc => ?_) (fun hc => ?_) <;> try (exfalso; omega)) | fail)
    exact .now ⟨rfl, rfl⟩
/-- A place for the two bounds and a session that is made of them. -/
def boxB (host : List UInt8) (rc sz : Int) : AO := .cells [.str host, .int .i64 rc, .int .i64 sz]
noncomputable def s25 (host : List UInt8) (rc sz : Int) : Ses := newS (hostN host) (clampN 100 rc) (clampN 500000 sz)
theorem hostN_len {host : List UInt8} : (hostN host).length ≤ 1000 := by
  unfold hostN
  split
  · rename_i h
    have := (tf_iff.1 h).2
    omega
  · simp
theorem s25_good (host : List UInt8) (rc sz : Int) : (s25 host rc sz).Good := good_new _ hostN_len (clamp_in (by decide)) (clamp_in (by decide))
end Go.Ab.Tryz

end
