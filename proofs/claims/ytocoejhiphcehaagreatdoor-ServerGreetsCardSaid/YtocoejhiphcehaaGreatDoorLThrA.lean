/- Walks: the laws on sessions: what wakes them; a session that nobody made. -/
import Derived.Test.YtocoejhiphcehaaGreatDoorLSrvD
import Derived.Test.YtocoejhiphcehaaGreatDoorLBnc6
import Derived.Test.YtocoejhiphcehaaGreatDoorSThr
section
set_option linter.unusedSimpArgs false
set_option linter.unusedVariables false
set_option maxHeartbeats 8000000
set_option maxRecDepth 10000
namespace Go.Ab.Tryz
open Go Go.Ab Go.Proofs
attribute [local irreducible] W Wl Wop TrA WSeq WLoopS WLoopM FPost DPost RPost WRound DK onEnd
attribute [local simp] belowL_bytesAV belowL_strsM belowL_linesAV
variable {n0 : Nat} {w0 : World} {gl : Nat → List AV} {H : List AO}

instance closed_nil : Ctr (env n0 w0 gl) 19 [.nilp] H True (.bool true) H := .of fun _ => by
  refine enter (md := fun _ => 0) Tryz.func19 (fun hfit hgl => ?_)
  repeat' (first | refine go ?_ | (refine br (fun hc => ?_) (fun hc => ?_) <;> try (exfalso; omega)) | fail)
  exact .now ⟨rfl, rfl⟩
instance pend_nil : Ctr (env n0 w0 gl) 14 [.nilp] H True (.tup [.agg [.str [], .sl 0 [] .full, .int .i64 0], .sl 0 [] .full, .bool false]) H := .of fun _ => by
  refine enter (md := fun _ => 0) Tryz.func14 (fun hfit hgl => ?_)
  repeat' (first | refine go ?_ | (refine br (fun hc => ?_) (fun hc => ?_) <;> try (exfalso; omega)) | fail)
  exact .junkd ⟨rfl, rfl⟩
instance feed_nil (n : Nat) (xs : List AV) (tok : Tok) : Ctr (env n0 w0 gl) 12 [.nilp, .sl n xs tok] H True (.sl 0 [] .full) H := .of fun _ => by
  refine enter (md := fun _ => 0) Tryz.func12 (fun hfit hgl => ?_)
  repeat' (first | refine go ?_ | (refine br (fun hc => ?_) (fun hc => ?_) <;> try (exfalso; omega)) | fail)
  exact .now ⟨rfl, rfl⟩
instance ans_nil (c : Int) : Ctr (env n0 w0 gl) 16 [.nilp, .int .i64 c] H True (.sl 0 [] .full) H := .of fun _ => by
  refine enter (md := fun _ => 0) Tryz.func16 (fun hfit hgl => ?_)
  repeat' (first | refine go ?_ | (refine br (fun hc => ?_) (fun hc => ?_) <;> try (exfalso; omega)) | fail)
  exact .now ⟨rfl, rfl⟩

/-- A session's memory as it is made. -/
def sesH (H : List AO) (s : Ses) (ek et : Nat) (l : List AO) : List AO := H ++ (.dead :: .cells (sesAV s (H.length + 2) ek (H.length + 3) et) :: .tail 1 ek :: .tail 1 et :: l)
theorem sesH_at (H : List AO) (s : Ses) (ek et : Nat) (l : List AO) : SesAt (sesH H s ek et l) (H.length + 1) (H.length + 2) (H.length + 3) s ek et := by
  unfold sesH
  refine ⟨?_, ?_, ?_, by omega⟩ <;> simp [getE, getE0]
theorem sesH_put (H : List AO) (s s' : Ses) (ek et ek' et' : Nat) (l : List AO) : sput (sesH H s ek et l) (H.length + 1) (H.length + 2) (H.length + 3) s' ek' et' = sesH H s' ek' et' l := by
  unfold sput sesH
  simp [setE, setE0]
theorem cmdP_noop : cmdP [78, 79, 79, 80] = (7, [], 0, 0) := by
  have hc : cutB [78, 79, 79, 80] = ([78, 79, 79, 80], []) := by decide +kernel
  have hv : verbU (([78, 79, 79, 80] : List UInt8).map upB) = 7 := by decide +kernel
  unfold cmdP
  rw [tf_true ⟨by decide, by unfold Clean; decide +kernel⟩, hc]
  simp only [hv]
  have hB : fillB 7 [] = true := by unfold fillB; rw [if_neg (by omega), if_neg (by omega), if_neg (by omega), if_pos (by omega)]
  have hT : fillT 7 [] = [] := by unfold fillT; rw [if_neg (by omega), if_neg (by omega), if_neg (by omega)]
  have hN : fillN 7 [] = 0 := by unfold fillN; rw [if_neg (by omega)]
  rw [hB, hT, hN]
  rfl
theorem dom_h : DomainOk [104] := by
  refine ⟨?_, by simp⟩
  intro p hp
  simp [parts] at hp
  subst hp
  refine ⟨by simp, by simp, by simp, by simp, fun i hi => ?_⟩
  obtain rfl : i = 0 := by simp at hi; omega
  left; decide
theorem awake_feed : feedS (newS [104] 5 100) [78, 79, 79, 80, 13, 10] = ([50, 50, 48, 32, 104, 32, 114, 101, 97, 100, 121, 13, 10, 50, 53, 48, 32, 111, 107, 13, 10], { newS [104] 5 100 with told := true }) := by
  have h1 : stepO { newS [104] 5 100 with kept := [78, 79, 79, 80, 13, 10], told := true } = some ([50, 53, 48, 32, 111, 107, 13, 10], { newS [104] 5 100 with told := true }) := by
    unfold stepO
    rw [if_neg (by simp [newS]), if_neg (by simp [newS])]
    rw [show crlfAt ({ newS [104] 5 100 with kept := [78, 79, 79, 80, 13, 10], told := true } : Ses).kept = some ([78, 79, 79, 80], []) by decide]
    simp only
    unfold cmdA
    rw [cmdP_noop]
    rfl
  have h2 : stepO { newS [104] 5 100 with told := true } = none := by
    unfold stepO
    rw [if_neg (by simp [newS]), if_neg (by simp [newS])]
    rfl
  unfold feedS
  rw [if_neg (by simp [newS])]
  have e : ({ newS [104] 5 100 with kept := (newS [104] 5 100).kept ++ [78, 79, 79, 80, 13, 10], told := true } : Ses) = { newS [104] 5 100 with kept := [78, 79, 79, 80, 13, 10], told := true } := rfl
  rw [e, onS_some h1, onS_none h2]
  rfl
instance awake25_t [hml : GLInt gl 0] [ht : Tab10 n0 w0] : Ctr (env n0 w0 gl) 8 [] H True (.bool true) H := .of fun _ => by
  have hn : Ctr (env n0 w0 gl) 10 [.agg [.str [104], .int .i64 5, .int .i64 100]] H True (.ref (H.length + 1) 0) (sesH H (newS [104] 5 100) 1 1 []) := .of fun _ => by
    have := new_e (n0 := n0) (w0 := w0) (gl := gl) (H := H) [104] 5 100 (by decide)
    rw [show hostN [104] = [104] by unfold hostN; rw [if_pos (tf_true dom_h)], show clampN 100 5 = 5 by decide, show clampN 500000 100 = 100 by decide] at this
    exact this
  have hg : (newS [104] 5 100).Good := good_new [104] (by decide) (by decide) (by decide)
  have hf : ∀ l tok, Ctr (env n0 w0 gl) 12 [.ref (H.length + 1) 0, .sl 6 [.int .u8 78, .int .u8 79, .int .u8 79, .int .u8 80, .int .u8 13, .int .u8 10] tok] (sesH H (newS [104] 5 100) 1 1 [] ++ l) True (.sl 21 (bytesAV [50, 50, 48, 32, 104, 32, 114, 101, 97, 100, 121, 13, 10, 50, 53, 48, 32, 111, 107, 13, 10]) .ro) (sesH H { newS [104] 5 100 with told := true } (feedT ⟨newS [104] 5 100, 1, 1⟩ [78, 79, 79, 80, 13, 10]).ek (feedT ⟨newS [104] 5 100, 1, 1⟩ [78, 79, 79, 80, 13, 10]).et [] ++ l) := fun l tok => .of fun _ => by
    have := feed_e (n0 := n0) (w0 := w0) (gl := gl) ((sesH_at H (newS [104] 5 100) 1 1 []).app l) hg.lim [78, 79, 79, 80, 13, 10] tok (by decide)
    rw [sput_app (sesH_at ..), sesH_put, feedT_s, awake_feed] at this
    exact this
  have hc : ∀ ek et l, Ctr (env n0 w0 gl) 19 [.ref (H.length + 1) 0] (sesH H { newS [104] 5 100 with told := true } ek et [] ++ l) True (.bool false) (sesH H { newS [104] 5 100 with told := true } ek et [] ++ l) := fun ek et l => .of fun _ => closed_e ((sesH_at ..).app l) (by decide)
  refine enter (md := fun t => if t = 8 then 2 else 0) Tryz.func8 (fun hfit hgl => ?_)
  repeat' (first | refine go ?_ | (refine br (fun hc => ?_) (fun hc => ?_) <;> try (exfalso; omega)) | fail)
  unfold sesH
  rw [List.append_assoc]
  exact Out.junk _ hfit rfl ⟨rfl, rfl⟩
theorem serverNone_t [hml : GLInt gl 0] [ht : Tab10 n0 w0] (b : List UInt8) (n : Int) (hb : b.length ≤ 9223372036854775807) (hn : -9223372036854775808 ≤ n ∧ n ≤ 9223372036854775807) : AEnter (env n0 w0 gl) 6 [.sl b.length (bytesAV b) .ro, .int .i64 n] H (fun y H' => y = .ret (.bool true) ∧ H' = H) := by
  by_cases hl : b.length ≤ 1500
  · have hl2 : ¬ ((b.length : Int) > 1500) := by omega
    have hh := hl2
    refine enter (md := fun _ => 0) Tryz.func6 (fun hfit hgl => ?_)
    repeat' (first | refine go ?_ | (refine br (fun hc => ?_) (fun hc => ?_) <;> try (exfalso; omega)) | fail)
    exact .junkd ⟨rfl, rfl⟩
  · have hl2 : (b.length : Int) > 1500 := by omega
    have hh := hl2
    refine enter (md := fun _ => 0) Tryz.func6 (fun hfit hgl => ?_)
    repeat' (first | refine go ?_ | (refine br (fun hc => ?_) (fun hc => ?_) <;> try (exfalso; omega)) | fail)
    exact .now ⟨rfl, rfl⟩
end Go.Ab.Tryz

end

section
set_option linter.unusedSimpArgs false
set_option linter.unusedVariables false
set_option maxHeartbeats 16000000
set_option maxRecDepth 10000
namespace Go.Ab.Tryz
open Go Go.Ab Go.Proofs
attribute [local irreducible] W Wl Wop TrA WSeq WLoopS WLoopM FPost DPost RPost WRound DK onEnd
attribute [local simp] belowL_bytesAV belowL_strsM belowL_linesAV
variable {n0 : Nat} {w0 : World} {gl : Nat → List AV} {H : List AO}

def intsAV (l : List Int) : List AV := l.map (.int .i64)
theorem belowL_ints (n : Nat) : ∀ l : List Int, belowL n (intsAV l) = true
  | [] => rfl
  | x :: l => by have := belowL_ints n l; simp only [intsAV, List.map_cons] at this ⊢; simp [belowL, AV.within, this]
theorem ints_at {l : List Int} {i : Nat} (h : i < l.length) : (intsAV l).getD i .top = .int .i64 (l.getD i 0) := by
  rw [List.getD_eq_getElem?_getD, List.getD_eq_getElem?_getD]
  simp only [intsAV, List.getElem?_map, List.getElem?_eq_getElem h, Option.map_some, Option.getD_some]
instance code_t (n : Nat) (l : List Int) (i : Nat) : Ctr (env n0 w0 gl) 17 [.sl n (intsAV l) .ro, .int .i64 (i : Int)] H (n = l.length ∧ n ≤ 9223372036854775807 ∧ i ≤ 1000) (.int .i64 (codeA l i)) H := .of fun ⟨hn, hb, hi⟩ => by
  subst hn
  unfold codeA
  by_cases q : l.length = 0
  · rw [if_pos q]
    have hh := q
    refine enter (md := fun _ => 0) Tryz.func17 (fun hfit hgl => ?_)
    repeat' (first | refine go ?_ | (refine br (fun hc => ?_) (fun hc => ?_) <;> try (exfalso; omega)) | fail)
    exact .now ⟨rfl, rfl⟩
  · rw [if_neg q]
    have hlt : i % l.length < l.length := Nat.mod_lt _ (by omega)
    have hat := ints_at hlt
    have hm : (i : Int).tmod (l.length : Int) = ((i % l.length : Nat) : Int) := by rw [Int.tmod_eq_emod_of_nonneg (by omega)]; rfl
    have hla : (intsAV l).length = l.length := by simp [intsAV]
    generalize i % l.length = k at *
    have hh := And.intro q (And.intro hat (And.intro hm (And.intro hla hlt)))
    refine enter (md := fun _ => 0) Tryz.func17 (fun hfit hgl => ?_)
    repeat' (first | refine go ?_ | (refine br (fun hc => ?_) (fun hc => ?_) <;> try (exfalso; omega)) | fail)
    exact .now ⟨rfl, rfl⟩

/-- What is still to come of a piece's messages and the pieces behind. -/
noncomputable def contK (codes : List Int) (rest : List (List UInt8)) (n : Nat) (s : Ses) : Thru := (drain codes n s).then (thruK codes rest (drain codes n s).n (drain codes n s).s)
theorem cont_feed (codes : List Int) (b : List UInt8) (rest : List (List UInt8)) (n : Nat) (s : Ses) (out : List UInt8) (msgs : List MsgA) : (Thru.mk out msgs n s).then (thruK codes (b :: rest) n s) = (Thru.mk (out ++ (feedS s b).1) msgs n (feedS s b).2).then (contK codes rest n (feedS s b).2) := by
  rw [thruK]
  unfold pieceK contK
  simp only [Thru.then, List.append_assoc, List.nil_append]
theorem cont_go {codes : List Int} {n : Nat} {s : Ses} (rest : List (List UInt8)) (h : s.shut = false ∧ s.waits = true) (hn : n ≤ 200) (out : List UInt8) (msgs : List MsgA) : (Thru.mk out msgs n s).then (contK codes rest n s) = (Thru.mk (out ++ (answerS s (codeA codes n)).1) (msgs ++ [s.msg]) (n + 1) (answerS s (codeA codes n)).2).then (contK codes rest (n + 1) (answerS s (codeA codes n)).2) := by
  unfold contK
  rw [drain_go h hn]
  simp only [Thru.then, List.append_assoc]
theorem cont_stop {codes : List Int} {n : Nat} {s : Ses} (rest : List (List UInt8)) (h : ¬ (s.shut = false ∧ s.waits = true) ∨ ¬ n ≤ 200) (t : Thru) : t.then (contK codes rest n s) = t.then (thruK codes rest n s) := by
  unfold contK
  rw [drain_stop h]
  simp only [Thru.then, List.nil_append]
noncomputable def ansT (t : SesT) : SesT := onT ⟨t.s.clear, t.ek, t.et + 1⟩
theorem ansT_s (t : SesT) (c : Int) (h : t.s.shut = false ∧ t.s.waits = true) : (ansT t).s = (answerS t.s c).2 := by
  unfold ansT answerS
  rw [if_neg (by rw [h.1, h.2]; simp)]
  exact onT_s _
def envAV (m : MsgA) : List AV := [.str m.fro, .sl m.to.length (m.to.map .str) .ro, .int .i64 0]
def envsAV (l : List MsgA) : List AV := l.flatMap envAV
def bodsAV (l : List MsgA) : List AV := l.map fun m => .str m.body
theorem envs_app (l : List MsgA) (m : MsgA) : envsAV (l ++ [m]) = envsAV l ++ [.str m.fro, .sl m.to.length (m.to.map .str) .ro, .int .i64 0] := by simp [envsAV, envAV]
theorem bods_app (l : List MsgA) (m : MsgA) : bodsAV (l ++ [m]) = bodsAV l ++ [.str m.body] := by simp [bodsAV]
theorem envs_len (l : List MsgA) : (envsAV l).length = l.length * 3 := by
  induction l with
  | nil => rfl
  | cons m l ih => simp only [envsAV, List.flatMap_cons, List.length_append, List.length_cons] at ih ⊢; rw [ih]; simp only [envAV, List.length_cons, List.length_nil]; omega
theorem bods_len (l : List MsgA) : (bodsAV l).length = l.length := by simp [bodsAV]
theorem belowL_envs (n : Nat) (l : List MsgA) : belowL n (envsAV l) = true := by
  induction l with
  | nil => rfl
  | cons m l ih => simp only [envsAV, List.flatMap_cons, belowL_appM] at ih ⊢; rw [ih]; simp [envAV, belowL, AV.within, belowL_strsM]
theorem belowL_bods (n : Nat) (l : List MsgA) : belowL n (bodsAV l) = true := by
  induction l with
  | nil => rfl
  | cons m l ih => simp only [bodsAV, List.map_cons, belowL] at ih ⊢; rw [ih]; rfl

attribute [local simp] belowL_envs belowL_bods belowL_ints belowL_appM
attribute [local simp high] sput_g0 sput_gi
theorem through_e [hml : GLInt gl 0] [ht : Tab10 n0 w0] {a jk jt : Nat} {s : Ses} {ek et : Nat} (h : SesAt H a jk jt s ek et) (hg : s.Good) (hk0 : s.kept = []) (l : List (List UInt8)) (codes : List Int) (hl : l.length ≤ 40) (hfl : l.flatten.length ≤ 60000) (hcl : codes.length ≤ 9223372036854775807) (hcb : ∀ x ∈ codes, -9223372036854775808 ≤ x ∧ x ≤ 9223372036854775807) :
    AEnter (env n0 w0 gl) 20 [.ref a 0, .sl l.length (linesAV l) .ro, .sl codes.length (intsAV codes) .ro] H (fun y H' => y = .ret (.tup [.str (thruK codes l 0 s).out, .sl (thruK codes l 0 s).msgs.length (envsAV (thruK codes l 0 s).msgs) .ro, .sl (thruK codes l 0 s).msgs.length (bodsAV (thruK codes l 0 s).msgs) .ro]) ∧ ∃ ek et, H' = sput H a jk jt (thruK codes l 0 s).s ek et) := by
  have hF := onF h
  have hla := linesAV_len l
  have hflt := fun i => flat_take l i
  have hS0 := sput_same h
  have ha := h.ne.2.2.1
  refine enter (md := fun _ => 0) Tryz.func20 (fun hfit hgl => ?_)
  refine gos ?_
  refine wseq_normal ?_
  refine gos ?_
  refine wseq_shift (Shift.tail 1 9 0 rfl) ?_
  simp only [List.set_cons_succ, List.set_cons_zero]
  refine gos ?_
  refine wseq_shift (Shift.tail 3 10 0 rfl) ?_
  simp only [List.set_cons_succ, List.set_cons_zero, List.append_assoc, List.cons_append, List.nil_append, List.length_append, List.length_cons, List.length_nil, Nat.zero_add]
  refine gos ?_
  refine wseq_shift (Shift.tail 1 11 0 rfl) ?_
  simp only [List.set_cons_succ, List.set_cons_zero, List.append_assoc, List.cons_append, List.nil_append, List.length_append, List.length_cons, List.length_nil, Nat.zero_add, Nat.reduceAdd]
  repeat' (first | refine go ?_ | (refine br (fun hc => ?_) (fun hc => ?_) <;> try (exfalso; omega)) | fail)
  refine loop (fun j : Nat × (List UInt8 × (List MsgA × SesT)) => (.ref a 0 :: .sl l.length (linesAV l) .ro :: .sl codes.length (intsAV codes) .ro :: .top :: .top :: .top :: .str [] :: .sl 0 [] .full :: .sl 0 [] .full :: .sl j.2.1.length (bytesAV j.2.1) (.at H.length j.2.1.length) :: .sl j.2.2.1.length (envsAV j.2.2.1) (.at (H.length + 1) j.2.2.1.length) :: .sl j.2.2.1.length (bodsAV j.2.2.1) (.at (H.length + 2) j.2.2.1.length) :: .top :: .top :: .top :: .top :: .top :: .sl l.length (linesAV l) .ro :: .int .i64 l.length :: .int .i64 (j.1 : Int) :: .top :: .top :: .top :: .top :: .top :: .top :: .top :: .top :: .top :: .top :: .top :: .top :: .top :: .top :: .top :: .top :: .top :: .top :: .top :: .top :: .top :: .top :: .top :: .top :: .top :: .top :: .top :: .top :: .top :: .top :: .top :: .top :: .top :: .top :: .top :: .top :: .top :: .top :: .top :: .top :: .top :: []))
    (fun j => sput H a jk jt j.2.2.2.s j.2.2.2.ek j.2.2.2.et ++ [.tail 1 j.2.1.length, .tail 3 j.2.2.1.length, .tail 1 j.2.2.1.length])
    (fun j => j.1 ≤ l.length ∧ j.2.2.2.s.Good ∧ j.2.2.2.s.kept.length ≤ (l.take j.1).flatten.length ∧ j.2.1.length + 1100 * j.2.2.2.s.kept.length ≤ 1100 * ((l.take j.1).flatten.length + j.1) + 20 * j.2.2.1.length ∧ j.2.2.1.length ≤ 201 ∧ thruK codes l 0 s = (Thru.mk j.2.1 j.2.2.1 j.2.2.1.length j.2.2.2.s).then (thruK codes (l.drop j.1) j.2.2.1.length j.2.2.2.s))
    (fun j => l.length - j.1) (0, ([], ([], ⟨s, ek, et⟩))) ⟨Nat.zero_le _, hg, by rw [hk0]; exact Nat.zero_le _, by rw [hk0]; simp, Nat.zero_le _, by simp [Thru.then]⟩ ?_ (by rw [hS0]; exact Shift.auto)
  rintro ⟨i, out, msgs, ⟨s1, ek1, et1⟩⟩ ⟨hi, g1, k1, o1, m1, e1⟩
  simp only at hi g1 k1 o1 m1 e1 ⊢
  by_cases hlt : i < l.length
  · have hat := rlines_at hlt
    have hdr := List.drop_eq_getElem_cons hlt
    have hts := flat_succ hlt
    have htl := flat_take l (i + 1)
    generalize hb : l[i] = b at *
    have hbk : s1.kept.length + b.length ≤ 1000000 := by omega
    obtain ⟨g2, o2, k2⟩ := good_feed g1 b hbk
    have hfd : ∀ k, Ctr (env n0 w0 gl) 12 [.ref a 0, .sl b.length (bytesAV b) .ro] (sput H a jk jt s1 ek1 et1 ++ k) True (.sl (feedS s1 b).1.length (bytesAV (feedS s1 b).1) .ro) (sput H a jk jt (feedS s1 b).2 (feedT ⟨s1, ek1, et1⟩ b).ek (feedT ⟨s1, ek1, et1⟩ b).et ++ k) := fun k => .of fun _ => by
      have := feed_e (n0 := n0) (w0 := w0) (gl := gl) ((sput_at h s1 ek1 et1).app k) g1.lim b .ro hbk
      rw [sput_app (sput_at h _ _ _), sput_put h, feedT_s] at this
      exact this
    rw [hdr, cont_feed] at e1
    generalize (feedT ⟨s1, ek1, et1⟩ b).ek = ek2 at hfd
    generalize (feedT ⟨s1, ek1, et1⟩ b).et = et2 at hfd
    generalize (feedS s1 b).1 = fo at hfd e1 o2
    generalize (feedS s1 b).2 = s2 at hfd e1 o2 g2 k2
    have hob : out.length + fo.length ≤ 100000000 := by omega
    have hh := And.intro hat (And.intro hla hF)
    repeat' (first | refine go ?_ | (refine br (fun hc => ?_) (fun hc => ?_) <;> try (exfalso; omega)) | fail)
    rw [← bytesAV_append]
    refine loop (fun j : List UInt8 × (List MsgA × SesT) => (.ref a 0 :: .sl l.length (linesAV l) .ro :: .sl codes.length (intsAV codes) .ro :: .top :: .top :: .top :: .str [] :: .sl 0 [] .full :: .sl 0 [] .full :: .sl j.1.length (bytesAV j.1) (.at H.length j.1.length) :: .sl j.2.1.length (envsAV j.2.1) (.at (H.length + 1) j.2.1.length) :: .sl j.2.1.length (bodsAV j.2.1) (.at (H.length + 2) j.2.1.length) :: .top :: .top :: .top :: .top :: .top :: .sl l.length (linesAV l) .ro :: .int .i64 l.length :: .int .i64 (i : Int) :: .top :: .top :: .top :: .top :: .top :: .top :: .top :: .top :: .top :: .top :: .top :: .top :: .top :: .top :: .top :: .top :: .top :: .top :: .top :: .top :: .top :: .top :: .top :: .top :: .top :: .top :: .top :: .top :: .top :: .top :: .top :: .top :: .top :: .top :: .top :: .top :: .top :: .top :: .top :: .top :: .top :: []))
      (fun j => sput H a jk jt j.2.2.s j.2.2.ek j.2.2.et ++ [.tail 1 j.1.length, .tail 3 j.2.1.length, .tail 1 j.2.1.length])
      (fun j => j.2.2.s.Good ∧ j.2.2.s.kept.length ≤ (l.take (i + 1)).flatten.length ∧ j.1.length + 1100 * j.2.2.s.kept.length ≤ 1100 * ((l.take (i + 1)).flatten.length + (i + 1)) + 20 * j.2.1.length ∧ j.2.1.length ≤ 201 ∧ thruK codes l 0 s = (Thru.mk j.1 j.2.1 j.2.1.length j.2.2.s).then (contK codes (l.drop (i + 1)) j.2.1.length j.2.2.s))
      (fun j => 201 - j.2.1.length) (out ++ fo, (msgs, ⟨s2, ek2, et2⟩)) ⟨g2, by simp only; omega, by simp only [List.length_append]; omega, m1, e1⟩ ?_ (by simp only [List.length_append]; exact Shift.auto)
    rintro ⟨out3, msgs3, ⟨s3, ek3, et3⟩⟩ ⟨g3, k3, o3, m3, e3⟩
    simp only at g3 k3 o3 m3 e3 ⊢
    have hfs := sput_fit h hfit s3 ek3 et3
    rw [sput_len] at hfs
    have hls := sput_len H a jk jt s3 ek3 et3
    have hle3 : (sput H a jk jt s3 ek3 et3 ++ [AO.tail 1 out3.length, .tail 3 msgs3.length, .tail 1 msgs3.length]).length = H.length + 3 := by rw [List.length_append, hls]; rfl
    have hlt3 : H.length ≤ (sput H a jk jt s3 ek3 et3 ++ [AO.tail 1 out3.length, .tail 3 msgs3.length, .tail 1 msgs3.length]).length := by rw [hle3]; omega
    have hft3 : Fit (sput H a jk jt s3 ek3 et3 ++ [AO.tail 1 out3.length, .tail 3 msgs3.length, .tail 1 msgs3.length]).length (sput H a jk jt s3 ek3 et3 ++ [AO.tail 1 out3.length, .tail 3 msgs3.length, .tail 1 msgs3.length]) := by
      rw [hle3]
      exact Fit.append (Fit.mono (by omega) hfs) (fit_cons rfl (fit_cons rfl (fit_cons rfl fit_nil)))
    have hr3 : s3.rc ≠ 0 := by have := g3.lim.rc; omega
    by_cases hn : msgs3.length ≤ 200
    · by_cases hp : s3.shut = false ∧ s3.waits = true
      · rw [cont_go _ hp hn] at e3
        have hb3 := good_body g3 hp.2
        obtain ⟨c, hc⟩ : ∃ c, codeA codes msgs3.length = c := ⟨_, rfl⟩
        have hcr : -9223372036854775808 ≤ c ∧ c ≤ 9223372036854775807 := by
          rw [← hc]; unfold codeA
          split
          · decide
          · rename_i hne
            have hlt : msgs3.length % codes.length < codes.length := Nat.mod_lt _ (by omega)
            rw [List.getD_eq_getElem?_getD, List.getElem?_eq_getElem hlt]
            exact hcb _ (List.getElem_mem _)
        have hco : ∀ X, Ctr (env n0 w0 gl) 17 [.sl codes.length (intsAV codes) .ro, .int .i64 (msgs3.length : Int)] X True (.int .i64 c) X := fun X => ⟨fun _ => by
          have := (code_t (n0 := n0) (w0 := w0) (gl := gl) (H := X) codes.length codes msgs3.length).call ⟨rfl, hcl, by omega⟩
          rw [hc] at this; exact this⟩
        rw [hc] at e3
        obtain ⟨g4, o4, k4⟩ := good_answer g3 c (by omega)
        have han : ∀ k, Ctr (env n0 w0 gl) 16 [.ref a 0, .int .i64 c] (sput H a jk jt s3 ek3 et3 ++ k) True (.sl (answerS s3 c).1.length (bytesAV (answerS s3 c).1) .ro) (sput H a jk jt (answerS s3 c).2 (ansT ⟨s3, ek3, et3⟩).ek (ansT ⟨s3, ek3, et3⟩).et ++ k) := fun k => .of fun _ => by
          have := answer_on (n0 := n0) (w0 := w0) (gl := gl) ((sput_at h s3 ek3 et3).app k) g3.lim (by omega) c hp.1 hp.2 hcr
          rw [sput_app (sput_at h _ _ _), sput_put h, show (onT ⟨s3.clear, ek3, et3 + 1⟩).s = (answerS s3 c).2 from ansT_s ⟨s3, ek3, et3⟩ c hp] at this
          exact this
        have hpo : ∀ k, Ctr (env n0 w0 gl) 14 [.ref a 0] (sput H a jk jt s3 ek3 et3 ++ k) True (.tup [.agg [.str s3.fro, .sl s3.to.length (s3.to.map .str) .ro, .int .i64 0], .sl s3.body.length (bytesAV s3.body) .ro, .bool true]) (sput H a jk jt s3 ek3 et3 ++ k) := fun k => .of fun _ => pend_on ((sput_at h s3 ek3 et3).app k) hr3 g3.lim hb3 hp.1 hp.2
        generalize (ansT ⟨s3, ek3, et3⟩).ek = ek4 at han
        generalize (ansT ⟨s3, ek3, et3⟩).et = et4 at han
        generalize (answerS s3 c).1 = ao at han e3 o4
        generalize (answerS s3 c).2 = s4 at han e3 o4 g4 k4
        have hae : envsAV (msgs3 ++ [s3.msg]) = envsAV msgs3 ++ [.str s3.fro, .sl s3.to.length (s3.to.map .str) .ro, .int .i64 0] := envs_app msgs3 s3.msg
        have hab : bodsAV (msgs3 ++ [s3.msg]) = bodsAV msgs3 ++ [.str s3.body] := bods_app msgs3 s3.msg
        have hml : (msgs3 ++ [s3.msg]).length = msgs3.length + 1 := by simp
        have hel := envs_len msgs3
        have hbl := bods_len msgs3
        have heo : (envsAV msgs3).all AV.one = true := by
          rw [List.all_eq_true]; intro x hx
          simp only [envsAV, List.mem_flatMap, envAV, List.mem_cons, List.not_mem_nil, or_false] at hx
          obtain ⟨m, _, rfl | rfl | rfl⟩ := hx <;> rfl
        have hob3 : out3.length + ao.length ≤ 100000000 := by omega
        have hh := And.intro hn (And.intro hel (And.intro hbl hF))
        generalize hr12 : Code.region 12 _ _ = r12
        repeat' (first | refine go ?_ | (refine br (fun hc => ?_) (fun hc => ?_) <;> try (exfalso; omega)) | fail)
        rw [← hr12]
        repeat (refine w_seq ?_)
        refine w_drawnP (fun X => X[H.length + 3]? = some (.cells [.str s3.fro, .sl s3.to.length (s3.to.map .str) .ro, .int .i64 0])) (by intro _ h; cases h) (by simp only [List.length_cons, List.length_nil, Nat.reduceAdd]; exact rfl) ?_
        refine goP ?_
        repeat' (first | refine go ?_ | (refine br (fun hc => ?_) (fun hc => ?_) <;> try (exfalso; omega)) | fail)
        rw [← bytesAV_append, ← hae, ← hab, ← hml]
        have hol : (out3 ++ ao).length = out3.length + ao.length := List.length_append
        rw [← hol]
        rw [← hml] at e3
        generalize msgs3 ++ [s3.msg] = M at hml e3 ⊢
        generalize out3 ++ ao = O at hol e3 ⊢
        have hfs4 := sput_fit h hfit s4 ek4 et4
        rw [sput_len] at hfs4
        have hls4 := sput_len H a jk jt s4 ek4 et4
        have hle4 : (sput H a jk jt s4 ek4 et4 ++ [AO.tail 1 O.length, .tail 3 M.length, .tail 1 M.length]).length = H.length + 3 := by rw [List.length_append, hls4]; rfl
        refine againJ (O, (M, ⟨s4, ek4, et4⟩)) ⟨g4, by simp only; omega, by simp only; omega, by simp only; omega, e3⟩ (by simp only; omega) [.cells [.str s3.fro, .sl s3.to.length (s3.to.map .str) .ro, .int .i64 0]] (by simp) ?_
        refine Shift.fgt_drop (by repeat (first | exact fgt_nil | refine fgt_top ?_ | refine fgt_same rfl ?_)) hgl (by rw [hle4]; omega) ?_ (by rw [hle4]; simp [belowL, AV.within] <;> omega) rfl
        rw [hle4]
        exact Fit.append (Fit.mono (by omega) hfs4) (fit_cons rfl (fit_cons rfl (fit_cons rfl fit_nil)))
      · rw [cont_stop _ (.inl hp)] at e3
        have hpo : ∀ k, Ctr (env n0 w0 gl) 14 [.ref a 0] (sput H a jk jt s3 ek3 et3 ++ k) True (.tup [.agg [.str [], .sl 0 [] .full, .int .i64 0], .sl 0 [] .full, .bool false]) (sput H a jk jt s3 ek3 et3 ++ k) := fun k => .of fun _ => pend_off ((sput_at h s3 ek3 et3).app k) hr3 (by
          cases h1 : s3.shut with
          | true => exact .inl rfl
          | false => exact .inr (by cases h2 : s3.waits with
            | true => exact absurd ⟨h1, h2⟩ hp
            | false => rfl))
        have hh := And.intro hn hF
        repeat' (first | refine go ?_ | (refine br (fun hc => ?_) (fun hc => ?_) <;> try (exfalso; omega)) | fail)
        refine againJ (i + 1, (out3, (msgs3, ⟨s3, ek3, et3⟩))) ⟨by simp only; omega, g3, k3, o3, m3, e3⟩ (by simp only; omega) [.cells [.str [], .sl 0 [] .full, .int .i64 0]] (by simp) ?_
        exact Shift.fgt_drop (by repeat (first | exact fgt_nil | refine fgt_top ?_ | refine fgt_same rfl ?_)) hgl hlt3 hft3 (by rw [hle3]; simp [belowL, AV.within] <;> omega) rfl
    · rw [cont_stop _ (.inr hn)] at e3
      have hh := And.intro hn hF
      repeat' (first | refine go ?_ | (refine br (fun hc => ?_) (fun hc => ?_) <;> try (exfalso; omega)) | fail)
      exact again (i + 1, (out3, (msgs3, ⟨s3, ek3, et3⟩))) ⟨by simp only; omega, g3, k3, o3, m3, e3⟩ (by simp only; omega)
  · obtain rfl : i = l.length := by omega
    rw [List.drop_length, thruK] at e1
    simp only [Thru.then, List.append_nil] at e1
    have hh := And.intro hla hF
    rw [e1]
    repeat' (first | refine go ?_ | (refine br (fun hc => ?_) (fun hc => ?_) <;> try (exfalso; omega)) | fail)
    refine .weak (b := .tup [.str out, .sl msgs.length (envsAV msgs) .ro, .sl msgs.length (bodsAV msgs) .ro]) (fun g c h => tupW (by rfl) (fun i c h => ?_) h) ?_
    · match i, h with
      | 0, h => exact h
      | 1, h => exact sl_ro g c h
      | 2, h => exact sl_ro g c h
      | _ + 3, _ => exact .top _
    · exact Out.dropS (by rw [sput_len]; exact Nat.le_refl _) (sput_fit h hfit s1 ek1 et1) (by simp [AE.within, AV.within, belowL]) ⟨rfl, _, _, rfl⟩

/-- A session that nobody feeds any more. -/
def sesRo (s : Ses) : List AV := [.str s.host, .int .i64 s.rc, .int .i64 s.sz, .sl s.kept.length (bytesAV s.kept) .ro, .int .i64 s.state, .str s.fro, .sl s.to.length (s.to.map .str) .ro, .sl s.body.length (bytesAV s.body) .ro, .bool s.told, .bool s.waits, .bool s.shut]
def sdone (H : List AO) (a jk jt : Nat) (s : Ses) : List AO := ((H.set a (.cells (sesRo s))).set jk .dead).set jt .dead
theorem sdone_hs {a jk jt : Nat} {s : Ses} {ek et : Nat} (h : SesAt H a jk jt s ek et) (s' : Ses) (ek' et' : Nat) : HS (env n0 w0 gl) (sput H a jk jt s' ek' et') (sdone H a jk jt s') := by
  have hat := sput_at h s' ek' et'
  refine (HS.cells a (ys := sesRo s') hat.cells rfl (fun g k c hc => ?_)).trans ?_
  · match k, hc with
    | 0, hc => exact hc
    | 1, hc => exact hc
    | 2, hc => exact hc
    | 3, hc => exact sl_ro g c hc
    | 4, hc => exact hc
    | 5, hc => exact hc
    | 6, hc => exact sl_ro g c hc
    | 7, hc => exact hc
    | 8, hc => exact hc
    | 9, hc => exact hc
    | 10, hc => exact hc
    | k + 11, hc => exact hc
  refine (HS.kill jk).trans ((HS.kill jt).trans (HS.eq ?_))
  obtain ⟨h1, h2, h3, h4, h5⟩ := h.ne
  have hkt := h.kt
  unfold sdone sput
  rw [List.set_set]
  apply List.ext_getElem?
  intro q
  by_cases qt : jt = q
  · subst qt; simp [List.getElem?_set_self, h5]
  · by_cases qk : jk = q
    · subst qk; simp [List.getElem?_set_ne, Ne.symm hkt, List.getElem?_set_self, h4]
    · by_cases qa : a = q
      · subst qa; simp [List.getElem?_set_ne, Ne.symm h1, Ne.symm h2, List.getElem?_set_self, h3]
      · simp only [List.getElem?_set_ne qa, List.getElem?_set_ne qt, List.getElem?_set_ne qk]
def thruV (t : Thru) : AV := .tup [.str t.out, .sl t.msgs.length (envsAV t.msgs) .ro, .sl t.msgs.length (bodsAV t.msgs) .ro]
theorem through_d [hml : GLInt gl 0] [ht : Tab10 n0 w0] {a jk jt : Nat} {s : Ses} {ek et : Nat} (h : SesAt H a jk jt s ek et) (hg : s.Good) (hk0 : s.kept = []) (l : List (List UInt8)) (codes : List Int) (hl : l.length ≤ 40) (hfl : l.flatten.length ≤ 60000) (hcl : codes.length ≤ 9223372036854775807) (hcb : ∀ x ∈ codes, -9223372036854775808 ≤ x ∧ x ≤ 9223372036854775807) :
    AEnter (env n0 w0 gl) 20 [.ref a 0, .sl l.length (linesAV l) .ro, .sl codes.length (intsAV codes) .ro] H (fun y H' => y = .ret (thruV (thruK codes l 0 s)) ∧ H' = sdone H a jk jt (thruK codes l 0 s).s) := by
  refine (through_e h hg hk0 l codes hl hfl hcl hcb).hs ?_
  rintro x H1 ⟨rfl, ek', et', rfl⟩
  exact ⟨_, sdone_hs h _ _ _, rfl, rfl⟩
end Go.Ab.Tryz

end
