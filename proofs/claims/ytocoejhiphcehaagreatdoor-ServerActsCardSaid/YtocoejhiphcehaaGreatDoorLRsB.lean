/- Walks: the document's session: a line's answer. -/
import Derived.Test.YtocoejhiphcehaaGreatDoorLRsA
import Derived.Test.YtocoejhiphcehaaGreatDoorLCmdD
import Derived.Test.YtocoejhiphcehaaGreatDoorLDotA
import Derived.Test.YtocoejhiphcehaaGreatDoorSThr
import Derived.Test.YtocoejhiphcehaaGreatDoorLSrvD
section
set_option linter.unusedSimpArgs false
set_option linter.unusedVariables false
set_option maxHeartbeats 8000000
set_option maxRecDepth 10000
namespace Go.Ab.Tryz
open Go Go.Ab Go.Proofs
attribute [local irreducible] W Wl Wop TrA WSeq WLoopS FPost DPost RPost WRound DK onEnd
attribute [local simp] belowL_bytesAV belowL_strsM
variable {n0 : Nat} {w0 : World} {gl : Nat → List AV} {H : List AO}

theorem any_at {l : List (List UInt8)} {t : List UInt8} {i : Nat} (hi : i < l.length) (hp : foldA (l.getD i []) = foldA t) : l.any (fun x => foldA x == foldA t) = true :=
  List.any_eq_true.2 ⟨l[i], List.getElem_mem _, by rw [List.getD_eq_getElem?_getD, List.getElem?_eq_getElem hi] at hp; simpa using hp⟩
theorem any_no {l : List (List UInt8)} {t : List UInt8} (h : ∀ k, k < l.length → ¬ foldA (l.getD k []) = foldA t) : l.any (fun x => foldA x == foldA t) = false := by
  by_cases ha : l.any (fun x => foldA x == foldA t) = true
  · obtain ⟨x, hm, hx⟩ := List.any_eq_true.1 ha
    obtain ⟨k, hk, rfl⟩ := List.getElem_of_mem hm
    exact (h k hk (by rw [List.getD_eq_getElem?_getD, List.getElem?_eq_getElem hk]; simpa using hx)).elim
  · simpa using ha
theorem rrcpt_no {a : Nat} {s : Ses} (h : RefAt H a s) (hm : s.Lim) (t : List UInt8) (htl : t.length ≤ 1000) (hs : s.state ≤ 3) (q1 : ¬ s.state < 2) (q : s.to.any (fun x => foldA x == foldA t) = true ∨ s.rc ≤ (s.to.length : Int)) : AEnter (env n0 w0 gl) 59 [.ref a 0, .str t] H (fun y H' => y = .ret (.str (if s.to.any (fun x => foldA x == foldA t) = true then [50, 53, 48, 32, 111, 107, 13, 10] else [52, 53, 50, 32, 109, 97, 110, 121, 13, 10])) ∧ H' = H) := by
  have hA := h.cells
  have hst : s.state = 2 ∨ s.state = 3 := by omega
  have hto := hm.to
  have htn := hm.tol
  refine enter (md := fun _ => 0) Tryz.func59 (fun hfit hgl => ?_)
  rcases hst with hst | hst
  all_goals
    have hh := And.intro hA hst
    repeat' (first | refine go ?_ | (refine br (fun hc => ?_) (fun hc => ?_) <;> try (exfalso; omega)) | fail)
    refine loop0 (fun i : Nat => (.ref a 0 :: .str t :: .top :: .top :: .str [] :: .top :: .top :: .top :: .top :: .top :: .top :: .top :: .top :: .top :: .top :: .top :: .top :: .top :: .top :: .top :: .top :: .top :: .sl s.to.length (s.to.map .str) .ro :: .int .i64 s.to.length :: .int .i64 (i : Int) :: .top :: .top :: .top :: .top :: .top :: .top :: .top :: .top :: .top :: .top :: .top :: .top :: .top :: .top :: .top :: .top :: .top :: .top :: .top :: .top :: .top :: .top :: .top :: .top :: .top :: .top :: .top :: .top :: .top :: .top :: .top :: .top :: .top :: .top :: [])) (fun i => i ≤ s.to.length ∧ ∀ k, k < i → ¬ foldA (s.to.getD k []) = foldA t) (fun i => s.to.length - i) 0 ⟨Nat.zero_le _, fun k hk => absurd hk (Nat.not_lt_zero _)⟩ ?_
    rintro i ⟨hi, hall⟩
    by_cases hlt : i < s.to.length
    · have hxl : (s.to.getD i []).length ≤ 1000 := by rw [List.getD_eq_getElem?_getD, List.getElem?_eq_getElem hlt]; exact hto _ (List.getElem_mem _)
      by_cases hp : foldA (s.to.getD i []) = foldA t
      · rw [if_pos (any_at hlt hp)]
        have hh := And.intro hp hA
        repeat' (first | refine go ?_ | (refine br (fun hc => ?_) (fun hc => ?_) <;> try (exfalso; omega)) | fail)
        exact .now ⟨rfl, rfl⟩
      · have hh := And.intro hp hA
        repeat' (first | refine go ?_ | (refine br (fun hc => ?_) (fun hc => ?_) <;> try (exfalso; omega)) | fail)
        refine again (i + 1) ⟨by omega, fun k hk => ?_⟩ (by omega)
        rcases Nat.lt_succ_iff_lt_or_eq.1 hk with h | h
        · exact hall k h
        · subst h; exact hp
    · obtain rfl : i = s.to.length := by omega
      have hno := any_no hall
      have hr : s.rc ≤ (s.to.length : Int) := q.resolve_left (by rw [hno]; simp)
      rw [if_neg (by rw [hno]; simp)]
      have hh := And.intro hr hA
      repeat' (first | refine go ?_ | (refine br (fun hc => ?_) (fun hc => ?_) <;> try (exfalso; omega)) | fail)
      exact .now ⟨rfl, rfl⟩
theorem rrcpt_ok {a : Nat} {s : Ses} (h : RefAt H a s) (hm : s.Lim) (t : List UInt8) (htl : t.length ≤ 1000) (hs : s.state ≤ 3) (q1 : ¬ s.state < 2) (q : s.to.any (fun x => foldA x == foldA t) = false) (hr : ¬ s.rc ≤ (s.to.length : Int)) : AEnter (env n0 w0 gl) 59 [.ref a 0, .str t] H (fun y H' => y = .ret (.str [50, 53, 48, 32, 111, 107, 13, 10]) ∧ H' = rput H a { s with to := s.to ++ [t], state := 3 }) := AEnter.refs h _ (v := .str _) rfl (by
  have hA := h.cells
  have hF := atF hA
  have hst : s.state = 2 ∨ s.state = 3 := by omega
  have hto := hm.to
  have htn := hm.tol
  refine enter (md := fun _ => 0) Tryz.func59 (fun hfit hgl => ?_)
  rcases hst with hst | hst
  all_goals
    have hh := And.intro hA hst
    repeat' (first | refine go ?_ | (refine br (fun hc => ?_) (fun hc => ?_) <;> try (exfalso; omega)) | fail)
    refine loop0 (fun i : Nat => (.ref a 0 :: .str t :: .top :: .top :: .str [] :: .top :: .top :: .top :: .top :: .top :: .top :: .top :: .top :: .top :: .top :: .top :: .top :: .top :: .top :: .top :: .top :: .top :: .sl s.to.length (s.to.map .str) .ro :: .int .i64 s.to.length :: .int .i64 (i : Int) :: .top :: .top :: .top :: .top :: .top :: .top :: .top :: .top :: .top :: .top :: .top :: .top :: .top :: .top :: .top :: .top :: .top :: .top :: .top :: .top :: .top :: .top :: .top :: .top :: .top :: .top :: .top :: .top :: .top :: .top :: .top :: .top :: .top :: .top :: [])) (fun i => i ≤ s.to.length) (fun i => s.to.length - i) 0 (Nat.zero_le _) ?_
    rintro i hi
    by_cases hlt : i < s.to.length
    · have hxl : (s.to.getD i []).length ≤ 1000 := by rw [List.getD_eq_getElem?_getD, List.getElem?_eq_getElem hlt]; exact hto _ (List.getElem_mem _)
      have hp : ¬ foldA (s.to.getD i []) = foldA t := fun e => by rw [any_at hlt e] at q; simp at q
      have hh := And.intro hp hA
      repeat' (first | refine go ?_ | (refine br (fun hc => ?_) (fun hc => ?_) <;> try (exfalso; omega)) | fail)
      exact again (i + 1) (by omega) (by omega)
    · obtain rfl : i = s.to.length := by omega
      have hn : (List.map AV.str s.to).length = s.to.length := by simp
      have hone : (List.map AV.str s.to).all AV.one = true := by rw [List.all_map, List.all_eq_true]; intro x _; rfl
      have hh := And.intro hr (And.intro hA (And.intro hF (And.intro hn hone)))
      repeat' (first | refine go ?_ | (refine br (fun hc => ?_) (fun hc => ?_) <;> try (exfalso; omega)) | fail)
      exact .now ⟨_, _, _, _, rfl, by simp [bytesAV]; rfl⟩)
theorem rrcpt_e {a : Nat} {s : Ses} (h : RefAt H a s) (hm : s.Lim) (t : List UInt8) (htl : t.length ≤ 1000) (hs : s.state ≤ 3) : AEnter (env n0 w0 gl) 59 [.ref a 0, .str t] H (fun y H' => y = .ret (.str (rcptA s t).1) ∧ H' = rput H a (rcptA s t).2) := by
  have hA := h.cells
  unfold rcptA
  by_cases q1 : s.state < 2
  · rw [if_pos q1, rput_same h]
    have q2 : ¬ s.state = 2 := by omega
    have q3 : ¬ s.state = 3 := by omega
    have hh := And.intro hA (And.intro q2 q3)
    refine enter (md := fun _ => 0) Tryz.func59 (fun hfit hgl => ?_)
    repeat' (first | refine go ?_ | (refine br (fun hc => ?_) (fun hc => ?_) <;> try (exfalso; omega)) | fail)
    exact .now ⟨rfl, rfl⟩
  · rw [if_neg q1]
    by_cases q2 : s.to.any (fun x => foldA x == foldA t) = true
    · rw [if_pos q2, rput_same h]
      have := rrcpt_no (n0 := n0) (w0 := w0) (gl := gl) h hm t htl hs q1 (.inl q2)
      rw [if_pos q2] at this; exact this
    · rw [if_neg q2]
      by_cases q3 : s.rc ≤ (s.to.length : Int)
      · rw [if_pos q3, rput_same h]
        have := rrcpt_no (n0 := n0) (w0 := w0) (gl := gl) h hm t htl hs q1 (.inr q3)
        rw [if_neg q2] at this; exact this
      · rw [if_neg q3]
        exact rrcpt_ok h hm t htl hs q1 (by simpa using q2) q3

theorem out_ref {a : Nat} {s : Ses} (h : RefAt H a s) (hf : Fit H.length H) {o o' : List UInt8} {l A : List AO} (s' : Ses) (ho : o' = o) (hA : A = rput H a s') : Out H.length (fun y H' => y = .ret (.str o) ∧ H' = rput H a s') (.ret (.str o')) (A ++ l) := by
  subst ho; subst hA
  exact Out.dropS (by rw [rput_len]; exact Nat.le_refl _) (rput_fit h hf s') rfl ⟨rfl, rfl⟩
theorem set_g0 {a : Nat} (X : AO) (l : List AO) : (H.set a X ++ l)[H.length]? = l[0]? := by
  rw [List.getElem?_append_right (by rw [List.length_set]; exact Nat.le_refl _), List.length_set, Nat.sub_self]
attribute [local simp high] set_g0
theorem rcommand_e [ht : Tab10 n0 w0] {a : Nat} {s : Ses} (h : RefAt H a s) (hm : s.Lim) (hs : s.state ≤ 3) (x : List UInt8) (k : Nat) (tok : Tok) (hk : k = x.length) (hx : x.length ≤ 1000000) : AEnter (env n0 w0 gl) 41 [.ref a 0, .sl k (bytesAV x) tok] H (fun y H' => y = .ret (.str (cmdA s x).1) ∧ H' = rput H a (cmdA s x).2) := by
  have hA := h.cells
  have hF := atF hA
  have hcl := cmdP_len x
  have hz := hm.sz
  have hit : (Lib.itoa s.sz).length ≤ 21 := Lib.itoa_length_le s.sz (by omega) (by omega)
  have hho := hm.host
  have hclear : ∀ l, Ctr (env n0 w0 gl) 30 [.ref a 0] (H ++ l) True (.tup []) (rput H a s.clear ++ l) := fun l => .of fun _ => by
    have := rclear_e (n0 := n0) (w0 := w0) (gl := gl) (h.app l)
    rwa [rput_app h] at this
  have hB : ∀ l, (rput H a s.clear ++ l)[a]? = some (.cells [.str s.host, .int .i64 s.rc, .int .i64 s.sz, .sl s.kept.length (bytesAV s.kept) .ro, .int .i64 1, .str [], .sl 0 [] .ro, .sl 0 [] .ro, .bool false, .bool s.shut, .bool s.told]) := fun l => ((rput_at h s.clear).app l).cells
  have hrc : ∀ l, Ctr (env n0 w0 gl) 59 [.ref a 0, .str (cmdP x).2.1] (H ++ l) True (.str (rcptA s (cmdP x).2.1).1) (rput H a (rcptA s (cmdP x).2.1).2 ++ l) := fun l => .of fun _ => by
    have := rrcpt_e (n0 := n0) (w0 := w0) (gl := gl) (h.app l) hm (cmdP x).2.1 (by omega) hs
    rwa [rput_app h] at this
  unfold cmdA
  by_cases h0 : (cmdP x).2.2.2 = 500
  · rw [if_pos h0, rput_same h]
    have hh := h0
    refine enter (md := fun _ => 0) Tryz.func41 (fun hfit hgl => ?_)
    repeat' (first | refine go ?_ | (refine br (fun hc => ?_) (fun hc => ?_) <;> try (exfalso; omega)) | fail)
    exact .junkd ⟨rfl, rfl⟩
  rw [if_neg h0]
  by_cases h1 : (cmdP x).2.2.2 = 501
  · rw [if_pos h1, rput_same h]
    have hh := h1
    refine enter (md := fun _ => 0) Tryz.func41 (fun hfit hgl => ?_)
    repeat' (first | refine go ?_ | (refine br (fun hc => ?_) (fun hc => ?_) <;> try (exfalso; omega)) | fail)
    exact .junkd ⟨rfl, rfl⟩
  rw [if_neg h1]
  by_cases v1 : (cmdP x).1 = 1
  · rw [if_pos v1]
    have hh := And.intro h0 (And.intro h1 (And.intro v1 hB))
    refine enter (md := fun _ => 0) Tryz.func41 (fun hfit hgl => ?_)
    repeat' (first | refine go ?_ | (refine br (fun hc => ?_) (fun hc => ?_) <;> try (exfalso; omega)) | fail)
    exact out_ref h hfit _ (by first | rfl | simp) rfl
  rw [if_neg v1]
  by_cases v2 : (cmdP x).1 = 2
  · rw [if_pos v2]
    have hh := And.intro h0 (And.intro h1 (And.intro v2 hB))
    refine enter (md := fun _ => 0) Tryz.func41 (fun hfit hgl => ?_)
    repeat' (first | refine go ?_ | (refine br (fun hc => ?_) (fun hc => ?_) <;> try (exfalso; omega)) | fail)
    exact out_ref h hfit _ (by first | rfl | simp) rfl
  rw [if_neg v2]
  by_cases v3 : (cmdP x).1 = 3
  · rw [if_pos v3]
    by_cases s1 : s.state ≠ 1
    · rw [if_pos s1, rput_same h]
      have hh := And.intro h0 (And.intro h1 (And.intro v3 (And.intro hA (And.intro hF s1))))
      refine enter (md := fun _ => 0) Tryz.func41 (fun hfit hgl => ?_)
      repeat' (first | refine go ?_ | (refine br (fun hc => ?_) (fun hc => ?_) <;> try (exfalso; omega)) | fail)
      exact .junkd ⟨rfl, rfl⟩
    · rw [if_neg s1]
      have s1 : s.state = 1 := Decidable.not_not.1 s1
      by_cases s2 : (cmdP x).2.2.1 > s.sz
      · rw [if_pos s2, rput_same h]
        have hh := And.intro h0 (And.intro h1 (And.intro v3 (And.intro hA (And.intro hF (And.intro s1 s2)))))
        refine enter (md := fun _ => 0) Tryz.func41 (fun hfit hgl => ?_)
        repeat' (first | refine go ?_ | (refine br (fun hc => ?_) (fun hc => ?_) <;> try (exfalso; omega)) | fail)
        exact .junkd ⟨rfl, rfl⟩
      · rw [if_neg s2]
        have e1 : H.set a (.cells [.str s.host, .int .i64 s.rc, .int .i64 s.sz, .sl s.kept.length (bytesAV s.kept) .ro, .int .i64 2, .str (cmdP x).2.1, .sl s.to.length (s.to.map .str) .ro, .sl s.body.length (bytesAV s.body) .ro, .bool s.waits, .bool s.shut, .bool s.told]) = rput H a { s with state := 2, fro := (cmdP x).2.1 } := rfl
        have hh := And.intro h0 (And.intro h1 (And.intro v3 (And.intro hA (And.intro s1 (And.intro s2 (And.intro hF e1))))))
        refine enter (md := fun _ => 0) Tryz.func41 (fun hfit hgl => ?_)
        generalize hr : Code.region 18 _ _ = rg
        repeat' (first | refine go ?_ | (refine br (fun hc => ?_) (fun hc => ?_) <;> try (exfalso; omega)) | fail)
        rw [← hr]
        repeat (refine w_seq ?_)
        refine w_drawnP (fun X => X[H.length]? = some (.cells [.int .i64 3, .str (cmdP x).2.1, .int .i64 (cmdP x).2.2.1])) (by intro _ h; cases h) (by simp only [List.length_cons, List.length_nil, Nat.reduceAdd]; exact rfl) ?_
        refine goP ?_
        repeat' (first | refine go ?_ | (refine br (fun hc => ?_) (fun hc => ?_) <;> try (exfalso; omega)) | fail)
        exact out_ref h hfit { s with state := 2, fro := (cmdP x).2.1 } rfl rfl
  rw [if_neg v3]
  by_cases v4 : (cmdP x).1 = 4
  · rw [if_pos v4]
    have hh := And.intro h0 (And.intro h1 v4)
    refine enter (md := fun _ => 0) Tryz.func41 (fun hfit hgl => ?_)
    repeat' (first | refine go ?_ | (refine br (fun hc => ?_) (fun hc => ?_) <;> try (exfalso; omega)) | fail)
    exact out_ref h hfit _ rfl rfl
  rw [if_neg v4]
  by_cases v5 : (cmdP x).1 = 5
  · rw [if_pos v5]
    by_cases s1 : s.state ≠ 3
    · rw [if_pos s1, rput_same h]
      have hh := And.intro h0 (And.intro h1 (And.intro v5 (And.intro hA (And.intro hF s1))))
      refine enter (md := fun _ => 0) Tryz.func41 (fun hfit hgl => ?_)
      repeat' (first | refine go ?_ | (refine br (fun hc => ?_) (fun hc => ?_) <;> try (exfalso; omega)) | fail)
      exact .junkd ⟨rfl, rfl⟩
    · rw [if_neg s1]
      have s1 : s.state = 3 := Decidable.not_not.1 s1
      have hh := And.intro h0 (And.intro h1 (And.intro v5 (And.intro hA (And.intro hF s1))))
      refine enter (md := fun _ => 0) Tryz.func41 (fun hfit hgl => ?_)
      repeat' (first | refine go ?_ | (refine br (fun hc => ?_) (fun hc => ?_) <;> try (exfalso; omega)) | fail)
      exact out_ref h hfit _ rfl rfl
  rw [if_neg v5]
  by_cases v9 : (cmdP x).1 = 9
  · rw [if_pos v9, rput_same h]
    have hh := And.intro h0 (And.intro h1 v9)
    refine enter (md := fun _ => 0) Tryz.func41 (fun hfit hgl => ?_)
    repeat' (first | refine go ?_ | (refine br (fun hc => ?_) (fun hc => ?_) <;> try (exfalso; omega)) | fail)
    exact .junkd ⟨rfl, rfl⟩
  rw [if_neg v9]
  by_cases v8 : (cmdP x).1 = 8
  · rw [if_pos v8]
    have hh := And.intro h0 (And.intro h1 (And.intro v8 (And.intro hA hF)))
    refine enter (md := fun _ => 0) Tryz.func41 (fun hfit hgl => ?_)
    repeat' (first | refine go ?_ | (refine br (fun hc => ?_) (fun hc => ?_) <;> try (exfalso; omega)) | fail)
    exact out_ref h hfit _ rfl rfl
  rw [if_neg v8]
  by_cases v6 : (cmdP x).1 = 6
  · rw [if_pos v6]
    by_cases s1 : s.state ≠ 0
    · rw [if_pos s1]
      have hh := And.intro h0 (And.intro h1 (And.intro v6 (And.intro hA (And.intro hF s1))))
      refine enter (md := fun _ => 0) Tryz.func41 (fun hfit hgl => ?_)
      repeat' (first | refine go ?_ | (refine br (fun hc => ?_) (fun hc => ?_) <;> try (exfalso; omega)) | fail)
      exact out_ref h hfit _ rfl rfl
    · rw [if_neg s1, rput_same h]
      have s1 : s.state = 0 := Decidable.not_not.1 s1
      have hh := And.intro h0 (And.intro h1 (And.intro v6 (And.intro hA (And.intro hF s1))))
      refine enter (md := fun _ => 0) Tryz.func41 (fun hfit hgl => ?_)
      repeat' (first | refine go ?_ | (refine br (fun hc => ?_) (fun hc => ?_) <;> try (exfalso; omega)) | fail)
      exact .junkd ⟨rfl, rfl⟩
  rw [if_neg v6, rput_same h]
  have hh := And.intro h0 (And.intro h1 (And.intro v1 (And.intro v2 (And.intro v3 (And.intro v4 (And.intro v5 (And.intro v6 (And.intro v8 v9))))))))
  refine enter (md := fun _ => 0) Tryz.func41 (fun hfit hgl => ?_)
  repeat' (first | refine go ?_ | (refine br (fun hc => ?_) (fun hc => ?_) <;> try (exfalso; omega)) | fail)
  exact .junkd ⟨rfl, rfl⟩
end Go.Ab.Tryz

end

section
set_option linter.unusedSimpArgs false
set_option linter.unusedVariables false
set_option maxHeartbeats 8000000
set_option maxRecDepth 10000
namespace Go.Ab.Tryz
open Go Go.Ab Go.Proofs
attribute [local irreducible] W Wl Wop TrA WSeq WLoopS FPost DPost RPost WRound DK onEnd
attribute [local simp] belowL_bytesAV belowL_strsM belowL_linesAV
variable {n0 : Nat} {w0 : World} {gl : Nat → List AV} {H : List AO}

def rscanV (b : List UInt8) : AV := match scanS b with
  | none => .tup [.sl 0 [] .full, .sl b.length (bytesAV b) .ro, .bool false]
  | some (o, r) => .tup [.sl o.length (bytesAV o) .ro, .sl r.length (bytesAV r) .ro, .bool true]
theorem sc_len : ∀ (pre : List (List UInt8)) (i j : List UInt8 × Nat), foldR scStep i pre = .go j → i.1.length ≤ i.2 → j.1.length ≤ j.2 ∧ j.2 = i.2 + pre.flatten.length := by
  intro pre
  induction pre with
  | nil => intro i j h hi; injection h with h; subst h; exact ⟨hi, by simp⟩
  | cons x pre ih =>
    intro i j h hi
    simp only [foldR] at h
    unfold scStep at h
    by_cases hx : x = [46, 13, 10]
    · rw [if_pos hx] at h; simp at h
    · rw [if_neg hx] at h
      have hud : (unDot x).length ≤ x.length := by unfold unDot; split <;> simp
      have := ih _ j h (by simp only [List.length_append]; omega)
      simp only [List.flatten_cons, List.length_append] at this ⊢
      exact ⟨this.1, by omega⟩
theorem bytesAV_app (x y : List UInt8) : bytesAV (x ++ y) = bytesAV x ++ bytesAV y := by simp [bytesAV]
theorem rscan_e (b : List UInt8) (hb : b.length ≤ 1000000) : AEnter (env n0 w0 gl) 39 [.sl b.length (bytesAV b) .ro] H (fun y H' => y = .ret (rscanV b) ∧ H' = H) := by
  rcases hL : linL b with ⟨L, R⟩
  have hli : ∀ H, Ctr (env n0 w0 gl) 40 [.sl b.length (bytesAV b) .ro] H True (.tup [.sl L.length (linesAV L) .ro, .sl R.length (bytesAV R) .ro]) H := fun H => .of fun _ => by
    have := ref_lines_e (n0 := n0) (w0 := w0) (gl := gl) (H := H) b hb
    unfold linV at this
    rw [hL] at this; exact this
  have hcount := linL_count b
  have hjoin := linL_join b
  have hends := linL_ends b
  have hsf := scan_fold b [] 0
  rw [hL] at hcount hjoin hends hsf
  simp only at hcount hjoin hends hsf
  have hla := linesAV_len L
  have hLx : ∀ x ∈ L, x.length ≤ 1000000 := fun x hx => by
    have h1 := mem_flat_len hx
    have h2 := congrArg List.length hjoin
    rw [List.length_append] at h2; omega
  have hnone : (∀ o r, foldR scStep ([], 0) L = .stop (o, r) → False) → rscanV b = .tup [.sl 0 [] .full, .sl b.length (bytesAV b) .ro, .bool false] := fun h => by
    rcases hsf with ⟨h1, _⟩ | ⟨o, r, _, h2, _⟩
    · unfold rscanV; rw [h1]
    · exact (h _ _ h2).elim
  have hsome : ∀ o u, foldR scStep ([], 0) L = .stop (o, u) → rscanV b = .tup [.sl o.length (bytesAV o) .ro, .sl (b.length - u) (bytesAV (b.drop u)) .ro, .bool true] := fun o u h => by
    rcases hsf with ⟨_, j, h2, _⟩ | ⟨o2, r, h1, h2, h3, h4⟩
    · rw [h] at h2; simp at h2
    · rw [h] at h2
      simp only [List.nil_append, Nat.zero_add, Res.stop.injEq, Prod.mk.injEq] at h2
      obtain ⟨rfl, rfl⟩ := h2
      unfold rscanV; rw [h1]
      simp only
      rw [h3, show b.length - (b.length - r.length) = r.length by omega]
  refine enter (md := fun _ => 0) Tryz.func39 (fun hfit hgl => ?_)
  refine gos ?_
  refine wseq_normal ?_
  refine gos ?_
  refine wseq_shift (Shift.tail 1 5 0 rfl) ?_
  simp only [List.set_cons_succ, List.set_cons_zero]
  repeat' (first | refine go ?_ | (refine br (fun hc => ?_) (fun hc => ?_) <;> try (exfalso; omega)) | fail)
  refine loop (fun j : Nat × List UInt8 => (.sl b.length (bytesAV b) .ro :: .top :: .sl 0 [] .full :: .sl 0 [] .full :: .bool false :: .sl j.2.length (bytesAV j.2) (.at H.length j.2.length) :: .sl L.length (linesAV L) .ro :: .sl R.length (bytesAV R) .ro :: .int .i64 ((L.take j.1).flatten.length : Int) :: .top :: .top :: .top :: .top :: .top :: .top :: .top :: .sl L.length (linesAV L) .ro :: .int .i64 L.length :: .int .i64 (j.1 : Int) :: .top :: .top :: .top :: .top :: .top :: .top :: .top :: .top :: .top :: .top :: .top :: .top :: .top :: .top :: .top :: .top :: .top :: .top :: .top :: .top :: .top :: .top :: .top :: .top :: .top :: []))
    (fun j => H ++ [.tail 1 j.2.length]) (fun j => j.1 ≤ L.length ∧ foldR scStep ([], 0) (L.take j.1) = .go (j.2, (L.take j.1).flatten.length)) (fun j => L.length - j.1) (0, []) ⟨Nat.zero_le _, rfl⟩ ?_
  rintro ⟨i, out⟩ ⟨hi, hj⟩
  simp only at hi hj
  have hol := (sc_len _ _ _ hj (Nat.le_refl _)).1
  have hfl : (L.take i).flatten.length ≤ b.length := by
    have h1 := flat_take L i
    have h2 := congrArg List.length hjoin
    rw [List.length_append] at h2; omega
  simp only at hol ⊢
  by_cases hlt : i < L.length
  · obtain ⟨y, hy⟩ := hends _ (List.getElem_mem hlt)
    have hat := rlines_at hlt
    have hxl := hLx _ (List.getElem_mem hlt)
    have htk : L.take (i + 1) = L.take i ++ [L[i]] := by rw [List.take_add_one, List.getElem?_eq_getElem hlt]; rfl
    have hft := flat_succ hlt
    have hfl2 : (L.take (i + 1)).flatten.length ≤ b.length := by
      have h1 := flat_take L (i + 1)
      have h2 := congrArg List.length hjoin
      rw [List.length_append] at h2; omega
    generalize hx : L[i] = x at *
    have hx0 : 0 < x.length := by rw [hy]; simp
    have hhd : (List.take 1 (bytesAV x)).headD .top = .int .u8 ((x.getD 0 0).toNat) := by
      have := bytes_hd2 (s := x) (i := 0) hx0
      simpa using this
    have hnat : (((L.take i).flatten.length : Int) + (x.length : Int)).toNat = (L.take i).flatten.length + x.length := by omega
    by_cases hd : x = [46, 13, 10]
    · have hst : foldR scStep ([], 0) L = .stop (out, (L.take i).flatten.length + x.length) := by
        conv => lhs; rw [← List.take_append_drop i L, List.drop_eq_getElem_cons hlt]
        rw [foldR_append, hj]
        simp only [foldR, hx]
        unfold scStep
        rw [if_pos hd]
      have hv := hsome _ _ hst
      have hdr : List.drop ((L.take i).flatten.length + x.length) (List.take b.length (bytesAV b)) = bytesAV (b.drop ((L.take i).flatten.length + x.length)) := by
        rw [show List.take b.length (bytesAV b) = bytesAV b from List.take_of_length_le (by rw [bytesAV_len]; exact Nat.le_refl _)]
        unfold bytesAV; rw [List.map_drop]
      rw [hv]
      have hh := And.intro hat (And.intro hla (And.intro hnat hdr))
      repeat' (first | refine go ?_ | (refine br (fun hc => ?_) (fun hc => ?_) <;> try (exfalso; omega)) | fail)
      exact .weak (b := .tup [.sl out.length (bytesAV out) .ro, .sl (b.length - ((L.take i).flatten.length + x.length)) (bytesAV (b.drop ((L.take i).flatten.length + x.length))) .ro, .bool true]) (fun g c h => tupW (by rfl) (fun i c h => by match i, h with
        | 0, h => exact sl_ro g c h
        | 1, h => exact h
        | 2, h => exact h
        | _ + 3, _ => exact .top _) h) (.junkd ⟨rfl, rfl⟩)
    · have hgo : foldR scStep ([], 0) (L.take (i + 1)) = .go (out ++ unDot x, (L.take (i + 1)).flatten.length) := by
        rw [hft, htk, foldR_append, hj]
        simp only [foldR]
        unfold scStep
        rw [if_neg hd]
      have hfi : ((L.take i).flatten.length : Int) + (x.length : Int) = ((L.take (i + 1)).flatten.length : Int) := by rw [hft]; omega
      by_cases h46 : x.getD 0 0 = 46
      · have hc46 : ((x.getD 0 0).toNat : Int) = 46 := by rw [h46]; rfl
        have hud : unDot x = x.drop 1 := by
          unfold unDot
          rw [if_pos]
          rw [List.head?_eq_getElem?, ← h46, List.getD_eq_getElem?_getD, List.getElem?_eq_getElem hx0]; rfl
        rw [hud] at hgo
        have hd1 : List.drop 1 (List.take x.length (bytesAV x)) = bytesAV (x.drop 1) := by
          rw [show List.take x.length (bytesAV x) = bytesAV x from List.take_of_length_le (by rw [bytesAV_len]; exact Nat.le_refl _)]
          unfold bytesAV; rw [List.map_drop]
        have hdl : x.length - 1 = (x.drop 1).length := by simp
        have hdm : (x.drop 1).length ≤ 1000000 := by rw [List.length_drop]; omega
        generalize x.drop 1 = z at hgo hd1 hdl hdm
        have hh := And.intro hat (And.intro hla (And.intro hd (And.intro hhd (And.intro hc46 (And.intro hfi (And.intro hd1 hdl))))))
        repeat' (first | refine go ?_ | (refine br (fun hc => ?_) (fun hc => ?_) <;> try (exfalso; omega)) | fail)
        rw [← bytesAV_app]
        refine againE (i + 1, out ++ z) ⟨by simp only; omega, hgo⟩ (by simp only; omega) (by simp)
      · have hc46 : ¬ ((x.getD 0 0).toNat : Int) = 46 := fun e => h46 (UInt8.toNat_inj.1 (by show _ = 46; omega))
        have hud : unDot x = x := by
          unfold unDot
          rw [if_neg]
          rw [List.head?_eq_getElem?]
          intro e
          rw [List.getD_eq_getElem?_getD, e] at h46
          exact h46 rfl
        rw [hud] at hgo
        have hh := And.intro hat (And.intro hla (And.intro hd (And.intro hhd (And.intro hc46 hfi))))
        repeat' (first | refine go ?_ | (refine br (fun hc => ?_) (fun hc => ?_) <;> try (exfalso; omega)) | fail)
        rw [← bytesAV_app]
        refine againE (i + 1, out ++ x) ⟨by simp only; omega, hgo⟩ (by simp only; omega) (by simp)
  · obtain rfl : i = L.length := by omega
    rw [List.take_length] at hj
    have hv := hnone fun o r h => by rw [hj] at h; simp at h
    rw [hv]
    repeat' (first | refine go ?_ | (refine br (fun hc => ?_) (fun hc => ?_) <;> try (exfalso; omega)) | fail)
    exact .junkd ⟨rfl, rfl⟩
end Go.Ab.Tryz

end

section
set_option linter.unusedSimpArgs false
set_option linter.unusedVariables false
set_option maxHeartbeats 16000000
set_option maxRecDepth 10000
namespace Go.Ab.Tryz
open Go Go.Ab Go.Proofs
attribute [local irreducible] W Wl Wop TrA WSeq WLoopS FPost DPost RPost WRound DK onEnd
attribute [local simp] belowL_bytesAV belowL_strsM belowL_linesAV
variable {n0 : Nat} {w0 : World} {gl : Nat → List AV} {H : List AO}

theorem ron_e [ht : Tab10 n0 w0] {a : Nat} {s : Ses} (h : RefAt H a s) (hm : s.Lim) (hst : s.state ≤ 4) (hk : s.kept.length ≤ 1000000) : AEnter (env n0 w0 gl) 26 [.ref a 0] H (fun y H' => y = .ret (.str (onS s).1) ∧ H' = rput H a (onS s).2) := by
  refine enter (md := fun _ => 0) Tryz.func26 (fun hfit hgl => ?_)
  refine gos ?_
  refine wseq_normal ?_
  refine gos ?_
  refine wseq_normal ?_
  refine w_seq ?_
  refine w_block ?_
  refine loop (fun j : List UInt8 × Ses => (.ref a 0 :: .top :: .str [] :: .str j.1 :: .top :: .top :: .top :: .top :: .top :: .top :: .top :: .top :: .top :: .top :: .top :: .top :: .top :: .top :: .top :: .top :: .top :: .top :: .top :: .top :: .top :: .top :: .top :: .top :: .top :: .top :: .top :: .top :: .top :: .top :: .top :: .top :: .top :: .top :: .top :: .top :: .top :: .top :: .top :: .top :: .top :: .top :: .top :: .top :: .top :: .top :: .top :: .top :: .top :: .top :: .top :: .top :: .top :: .top :: .top :: .top :: .top :: .top :: .top :: .top :: .top :: .top :: .top :: .top :: .top :: .top :: .top :: .top :: .top :: .top :: .top :: .top :: .top :: .top :: .top :: .top :: .top :: .top :: .top :: .top :: .top :: .top :: .top :: .top :: .top :: .top :: .top :: .top :: .top :: .top :: .top :: .top :: .top :: .top :: .top :: .top :: .top :: .top :: .top :: .top :: .top :: .top :: .top :: .top :: .top :: .top :: .top :: .top :: .top :: .top :: .top :: [])) (fun j => rput H a j.2) (fun j => j.2.Lim ∧ j.2.state ≤ 4 ∧ j.2.kept.length ≤ s.kept.length ∧ j.1.length + 1100 * j.2.kept.length ≤ 1100 * s.kept.length ∧ onS s = (j.1 ++ (onS j.2).1, (onS j.2).2)) (fun j => j.2.kept.length) ([], s) ⟨hm, hst, Nat.le_refl _, by simp, by simp⟩ ?_ (by rw [rput_same h]; exact Shift.auto)
  rintro ⟨out, s1⟩ ⟨m1, m2, m3, m4, m5⟩
  simp only at m1 m2 m3 m4 m5 ⊢
  have hA : (rput H a s1)[a]? = some (.cells [.str s1.host, .int .i64 s1.rc, .int .i64 s1.sz, .sl s1.kept.length (bytesAV s1.kept) .ro, .int .i64 s1.state, .str s1.fro, .sl s1.to.length (s1.to.map .str) .ro, .sl s1.body.length (bytesAV s1.body) .ro, .bool s1.waits, .bool s1.shut, .bool s1.told]) := (rput_at h s1).cells
  have hkm : ¬ ((s1.kept.length : Int) > 1000000) := by omega
  by_cases q1 : s1.shut = true
  · have hs0 : stepO s1 = none := by unfold stepO; rw [if_pos (.inl q1)]
    rw [onS_none hs0, List.append_nil] at m5
    rw [m5]
    have hh := And.intro q1 hA
    repeat' (first | refine go ?_ | (refine br (fun hc => ?_) (fun hc => ?_) <;> try (exfalso; omega)) | fail)
    exact .now ⟨rfl, rfl⟩
  simp only [Bool.not_eq_true] at q1
  by_cases q2 : s1.waits = true
  · have hs0 : stepO s1 = none := by unfold stepO; rw [if_pos (.inr q2)]
    rw [onS_none hs0, List.append_nil] at m5
    rw [m5]
    have hh := And.intro q1 (And.intro q2 (And.intro hA hkm))
    repeat' (first | refine go ?_ | (refine br (fun hc => ?_) (fun hc => ?_) <;> try (exfalso; omega)) | fail)
    exact .now ⟨rfl, rfl⟩
  simp only [Bool.not_eq_true] at q2
  have hq : ¬ (s1.shut = true ∨ s1.waits = true) := by rw [q1, q2]; simp
  by_cases q3 : s1.state = 4
  · have hsc : Ctr (env n0 w0 gl) 39 [.sl s1.kept.length (bytesAV s1.kept) .ro] (rput H a s1) True (rscanV s1.kept) (rput H a s1) := .of fun _ => rscan_e s1.kept (by omega)
    unfold rscanV at hsc
    cases hs : scanS s1.kept with
    | none =>
      rw [hs] at hsc
      simp only at hsc
      have hs0 : stepO s1 = none := by unfold stepO; rw [if_neg hq, if_pos q3, hs]
      rw [onS_none hs0, List.append_nil] at m5
      rw [m5]
      have hh := And.intro q1 (And.intro q2 (And.intro q3 (And.intro hA hkm)))
      repeat' (first | refine go ?_ | (refine br (fun hc => ?_) (fun hc => ?_) <;> try (exfalso; omega)) | fail)
      exact .now ⟨rfl, rfl⟩
    | some p =>
      obtain ⟨o, r⟩ := p
      rw [hs] at hsc
      simp only at hsc
      have hlen := scanS_len hs
      obtain ⟨sr, hsr⟩ : ∃ sr, sr = ({ s1 with kept := r } : Ses) := ⟨_, rfl⟩
      have e1 : (rput H a s1).set a (.cells [.str s1.host, .int .i64 s1.rc, .int .i64 s1.sz, .sl r.length (bytesAV r) .ro, .int .i64 4, .str s1.fro, .sl s1.to.length (s1.to.map .str) .ro, .sl s1.body.length (bytesAV s1.body) .ro, .bool false, .bool false, .bool s1.told]) = rput H a sr := by unfold rput; rw [List.set_set]; simp [refAV, hsr, q1, q2, q3]
      have e2 : (rput H a sr)[a]? = some (.cells [.str s1.host, .int .i64 s1.rc, .int .i64 s1.sz, .sl r.length (bytesAV r) .ro, .int .i64 4, .str s1.fro, .sl s1.to.length (s1.to.map .str) .ro, .sl s1.body.length (bytesAV s1.body) .ro, .bool false, .bool false, .bool s1.told]) := by have := rput_at h sr; unfold RefAt at this; rw [this]; simp [refAV, hsr, q1, q2, q3]
      by_cases q4 : (o.length : Int) ≤ s1.sz
      · have hs1 : stepO s1 = some ([], { s1 with kept := r, body := o, waits := true }) := by
          unfold stepO; rw [if_neg hq, if_pos q3, hs]; exact if_pos q4
        have q4' : ¬ ((o.length : Int) > s1.sz) := by omega
        have e3 : ((rput H a sr).set a (.cells [.str s1.host, .int .i64 s1.rc, .int .i64 s1.sz, .sl r.length (bytesAV r) .ro, .int .i64 4, .str s1.fro, .sl s1.to.length (s1.to.map .str) .ro, .sl o.length (bytesAV o) .ro, .bool false, .bool false, .bool s1.told])) = rput H a { s1 with kept := r, body := o } := by unfold rput; rw [List.set_set]; simp [refAV, hsr, q1, q2, q3]
        have e4 : (rput H a { s1 with kept := r, body := o })[a]? = some (.cells [.str s1.host, .int .i64 s1.rc, .int .i64 s1.sz, .sl r.length (bytesAV r) .ro, .int .i64 4, .str s1.fro, .sl s1.to.length (s1.to.map .str) .ro, .sl o.length (bytesAV o) .ro, .bool false, .bool false, .bool s1.told]) := by have := rput_at h { s1 with kept := r, body := o }; unfold RefAt at this; rw [this]; simp [refAV, hsr, q1, q2, q3]
        have e5 : ((rput H a { s1 with kept := r, body := o }).set a (.cells [.str s1.host, .int .i64 s1.rc, .int .i64 s1.sz, .sl r.length (bytesAV r) .ro, .int .i64 4, .str s1.fro, .sl s1.to.length (s1.to.map .str) .ro, .sl o.length (bytesAV o) .ro, .bool true, .bool false, .bool s1.told])) = rput H a { s1 with kept := r, body := o, waits := true } := by unfold rput; rw [List.set_set]; simp [refAV, hsr, q1, q2, q3]
        have hl := lim_step m1 (by omega) hs1
        have hst1 := step_state m2 hs1
        rw [onS_some hs1, List.nil_append] at m5
        generalize ({ s1 with kept := r, body := o } : Ses) = sb at e3 e4 e5
        generalize hsw : ({ s1 with kept := r, body := o, waits := true } : Ses) = sw at e5 m5 hl hst1
        have hh := And.intro q1 (And.intro q2 (And.intro q3 (And.intro q4' (And.intro hA (And.intro e1 (And.intro e2 (And.intro e3 (And.intro e4 e5))))))))
        repeat' (first | refine go ?_ | (refine br (fun hc => ?_) (fun hc => ?_) <;> try (exfalso; omega)) | fail)
        exact againE (out, sw) ⟨hl.1, hst1, by rw [← hsw]; simp only; omega, by rw [← hsw]; simp only; omega, m5⟩ (by rw [← hsw]; simp only; omega) (by simp)
      · have hs1 : stepO s1 = some ([53, 53, 50, 32, 115, 105, 122, 101, 13, 10], sr.clear) := by
          unfold stepO; rw [if_neg hq, if_pos q3, hs, hsr]; exact if_neg q4
        have q4' : (o.length : Int) > s1.sz := by omega
        have hcl : Ctr (env n0 w0 gl) 30 [.ref a 0] (rput H a sr) True (.tup []) (rput H a sr.clear) := .of fun _ => by
          have := rclear_e (n0 := n0) (w0 := w0) (gl := gl) (rput_at h sr)
          rw [rput_put] at this; exact this
        have hl := lim_step m1 (by omega) hs1
        have hst1 := step_state m2 hs1
        rw [onS_some hs1, ← List.append_assoc] at m5
        have hkc : sr.clear.kept.length = r.length := by rw [hsr]; rfl
        generalize hsw : sr.clear = sw at m5 hl hst1 hcl hkc
        have hh := And.intro q1 (And.intro q2 (And.intro q3 (And.intro q4' (And.intro hA (And.intro e1 e2)))))
        repeat' (first | refine go ?_ | (refine br (fun hc => ?_) (fun hc => ?_) <;> try (exfalso; omega)) | fail)
        exact againE (out ++ [53, 53, 50, 32, 115, 105, 122, 101, 13, 10], sw) ⟨hl.1, hst1, by simp only; omega, by simp only [List.length_append, List.length_cons, List.length_nil]; omega, m5⟩ (by simp only; omega) (by simp)
  · have hli : Ctr (env n0 w0 gl) 40 [.sl s1.kept.length (bytesAV s1.kept) .ro] (rput H a s1) True (linV s1.kept) (rput H a s1) := .of fun _ => ref_lines_e s1.kept (by omega)
    unfold linV at hli
    cases hc : crlfAt s1.kept with
    | none =>
      rw [linL_none hc] at hli
      simp only [linesAV, List.map_nil, List.length_nil] at hli
      have hs0 : stepO s1 = none := by unfold stepO; rw [if_neg hq, if_neg q3, hc]
      rw [onS_none hs0, List.append_nil] at m5
      rw [m5]
      have hh := And.intro q1 (And.intro q2 (And.intro q3 (And.intro hA hkm)))
      repeat' (first | refine go ?_ | (refine br (fun hc => ?_) (fun hc => ?_) <;> try (exfalso; omega)) | fail)
      exact .now ⟨rfl, rfl⟩
    | some p =>
      obtain ⟨x, y⟩ := p
      have hl := crlfAt_len hc
      have he := crlfAt_eq hc
      rw [linL_some hc] at hli
      simp only [List.length_cons] at hli
      have hs1 : stepO s1 = some (cmdA { s1 with kept := y } x) := by unfold stepO; rw [if_neg hq, if_neg q3, hc]
      have hls : linesAV ((x ++ [13, 10]) :: (linL y).1) = .sl (x.length + 2) (bytesAV (x ++ [13, 10])) .ro :: linesAV (linL y).1 := by simp [linesAV]
      rw [hls] at hli
      have hla : (linesAV (linL y).1).length = (linL y).1.length := linesAV_len _
      have hdr : List.drop (x.length + 2) (List.take s1.kept.length (bytesAV s1.kept)) = bytesAV y := by
        rw [List.take_of_length_le (by rw [bytesAV_len]; exact Nat.le_refl _)]
        rw [he]
        simp [bytesAV, List.drop_append]
      have hdl : s1.kept.length - (x.length + 2) = y.length := by omega
      have htk : List.take x.length (bytesAV (x ++ [13, 10])) = bytesAV x := by simp [bytesAV]
      have hsub : (((x.length + 2 : Nat) : Int) - 2).toNat = x.length := by omega
      have hcnt := linL_count y
      generalize (linL y).2 = R at hli
      generalize linesAV (linL y).1 = ls at hli hla
      generalize (linL y).1.length = nl at hli hla hcnt
      obtain ⟨sr, hsr⟩ : ∃ sr, sr = ({ s1 with kept := y } : Ses) := ⟨_, rfl⟩
      have e1 : (rput H a s1).set a (.cells [.str s1.host, .int .i64 s1.rc, .int .i64 s1.sz, .sl y.length (bytesAV y) .ro, .int .i64 s1.state, .str s1.fro, .sl s1.to.length (s1.to.map .str) .ro, .sl s1.body.length (bytesAV s1.body) .ro, .bool false, .bool false, .bool s1.told]) = rput H a sr := by unfold rput; rw [List.set_set]; simp [refAV, hsr, q1, q2]
      have e2 : (rput H a sr)[a]? = some (.cells [.str s1.host, .int .i64 s1.rc, .int .i64 s1.sz, .sl y.length (bytesAV y) .ro, .int .i64 s1.state, .str s1.fro, .sl s1.to.length (s1.to.map .str) .ro, .sl s1.body.length (bytesAV s1.body) .ro, .bool false, .bool false, .bool s1.told]) := by have := rput_at h sr; unfold RefAt at this; rw [this]; simp [refAV, hsr, q1, q2]
      have hcm : Ctr (env n0 w0 gl) 41 [.ref a 0, .sl x.length (bytesAV x) .ro] (rput H a sr) True (.str (cmdA sr x).1) (rput H a (cmdA sr x).2) := .of fun _ => by
        have := rcommand_e (n0 := n0) (w0 := w0) (gl := gl) (rput_at h sr) (by rw [hsr]; exact m1.kept1 y) (by rw [hsr]; simp only; omega) x x.length .ro rfl (by omega)
        rw [rput_put] at this; exact this
      rw [← hsr] at hs1
      have hl2 := lim_step (s := s1) (s' := (cmdA sr x).2) (o := (cmdA sr x).1) m1 (by omega) hs1
      have hst1 := step_state (s := s1) (s' := (cmdA sr x).2) (o := (cmdA sr x).1) m2 hs1
      have hlen := (stepO_len (s := s1) (s' := (cmdA sr x).2) (o := (cmdA sr x).1) hs1).1
      rw [onS_some (s := s1) (s' := (cmdA sr x).2) (o := (cmdA sr x).1) hs1, ← List.append_assoc] at m5
      generalize (cmdA sr x).1 = co at *
      generalize (cmdA sr x).2 = sw at *
      have hh := And.intro q1 (And.intro q2 (And.intro q3 (And.intro hA (And.intro hla (And.intro hdr (And.intro hdl (And.intro htk (And.intro hsub (And.intro e1 e2)))))))))
      repeat' (first | refine go ?_ | (refine br (fun hc => ?_) (fun hc => ?_) <;> try (exfalso; omega)) | fail)
      exact againE (out ++ co, sw) ⟨hl2.1, hst1, by simp only; omega, by simp only [List.length_append]; omega, m5⟩ (by simp only; omega) (by simp)
end Go.Ab.Tryz

end

section
set_option linter.unusedSimpArgs false
set_option linter.unusedVariables false
set_option maxHeartbeats 8000000
set_option maxRecDepth 10000
namespace Go.Ab.Tryz
open Go Go.Ab Go.Proofs
attribute [local irreducible] W Wl Wop TrA WSeq WLoopS FPost DPost RPost WRound DK onEnd
attribute [local simp] belowL_bytesAV belowL_strsM
variable {n0 : Nat} {w0 : World} {gl : Nat → List AV} {H : List AO}

theorem out_refB {a : Nat} {s : Ses} (h : RefAt H a s) (hf : Fit H.length H) {o : List UInt8} {n : Nat} {xs : List AV} {tok : Tok} {l A : List AO} (s' : Ses) (hA : A = rput H a s') (hn : n = o.length) (hx : xs = bytesAV o) : Out H.length (fun y H' => y = .ret (.sl o.length (bytesAV o) .ro) ∧ H' = rput H a s') (.ret (.sl n xs tok)) (A ++ l) := by
  subst hA; subst hn; subst hx
  refine Out.weak (b := .sl o.length (bytesAV o) .ro) (fun g c h => sl_ro g c h) ?_
  exact Out.dropS (by rw [rput_len]; exact Nat.le_refl _) (rput_fit h hf s') (by simp [AE.within, AV.within]) ⟨rfl, rfl⟩

theorem rfeed_e [ht : Tab10 n0 w0] {a : Nat} {s : Ses} (h : RefAt H a s) (hm : s.Lim) (hst : s.state ≤ 4) (b : List UInt8) (tok : Tok) (hk : s.kept.length + b.length ≤ 1000000) : AEnter (env n0 w0 gl) 13 [.ref a 0, .sl b.length (bytesAV b) tok] H (fun y H' => y = .ret (.sl (feedS s b).1.length (bytesAV (feedS s b).1) .ro) ∧ H' = rput H a (feedS s b).2) := by
  have hA := h.cells
  by_cases q1 : s.shut = true
  · have e1 : feedS s b = ([], s) := by unfold feedS; rw [if_pos q1]
    rw [e1, rput_same h]
    have hh := And.intro hA q1
    refine enter (md := fun _ => 0) Tryz.func13 (fun hfit hgl => ?_)
    repeat' (first | refine go ?_ | (refine br (fun hc => ?_) (fun hc => ?_) <;> try (exfalso; omega)) | fail)
    exact .weak (b := .sl 0 [] .ro) (fun g c h => sl_ro g c h) (.now ⟨rfl, rfl⟩)
  simp only [Bool.not_eq_true] at q1
  obtain ⟨s2, hs2⟩ : ∃ s2, s2 = ({ s with kept := s.kept ++ b, told := true } : Ses) := ⟨_, rfl⟩
  have hm2 : s2.Lim := by rw [hs2]; exact hm.kept _ _
  have hk2 : s2.kept.length ≤ 1000000 := by rw [hs2]; simpa using hk
  have hst2 : s2.state ≤ 4 := by rw [hs2]; exact hst
  have e1 : feedS s b = (hiS s ++ (onS s2).1, (onS s2).2) := by unfold feedS; rw [if_neg (by rw [q1]; simp), hs2]
  rw [e1]
  simp only
  have hon : ∀ l, Ctr (env n0 w0 gl) 26 [.ref a 0] (rput H a s2 ++ l) True (.str (onS s2).1) (rput H a (onS s2).2 ++ l) := fun l => .of fun _ => by
    have := ron_e (n0 := n0) (w0 := w0) (gl := gl) ((rput_at h s2).app l) hm2 hst2 hk2
    rw [rput_app (rput_at h _), rput_put] at this
    exact this
  have hout := on_out s2 hm2 hk2
  have hF := atF hA
  have hhl := hi_len hm
  have hho := hm.host
  have e2 : ∀ t, HS (env n0 w0 gl) (H.set a (.cells [.str s.host, .int .i64 s.rc, .int .i64 s.sz, .sl (s.kept.length + b.length) (bytesAV s.kept ++ bytesAV b) t, .int .i64 s.state, .str s.fro, .sl s.to.length (s.to.map .str) .ro, .sl s.body.length (bytesAV s.body) .ro, .bool s.waits, .bool false, .bool true]) ++ [.tail 1 (s.kept.length + b.length)]) (rput H a s2 ++ [.tail 1 (s.kept.length + b.length)]) := fun t => by
    refine (HS.refAV (a := a) (by rw [getL (by simpa using h.lt), List.getElem?_set_self h.lt])).trans (HS.eq ?_)
    rw [setL (by simpa using h.lt), List.set_set]
    simp [rput, refAV, hs2, bytesAV, q1]
  by_cases q2 : s.told = true
  · have hhi : hiS s = [] := by unfold hiS; rw [if_pos q2]
    rw [hhi, List.nil_append]
    have hh := And.intro hA (And.intro q1 (And.intro q2 hF))
    refine enter (md := fun _ => 0) Tryz.func13 (fun hfit hgl => ?_)
    generalize hr7 : Code.region 7 _ _ = r7
    repeat' (first | refine go ?_ | (refine br (fun hc => ?_) (fun hc => ?_) <;> try (exfalso; omega)) | fail)
    rw [← hr7]
    repeat' (first | refine gos ?_ | (refine br (fun hc => ?_) (fun hc => ?_) <;> try (exfalso; omega)) | fail)
    refine wseq_shift (Shift.hs (e2 _)) ?_
    repeat' (first | refine go ?_ | (refine br (fun hc => ?_) (fun hc => ?_) <;> try (exfalso; omega)) | fail)
    exact out_refB h hfit (onS s2).2 rfl rfl rfl
  · simp only [Bool.not_eq_true] at q2
    have hhi : hiS s = [50, 50, 48, 32] ++ (s.host ++ [32, 114, 101, 97, 100, 121, 13, 10]) := by unfold hiS; rw [if_neg (by rw [q2]; simp)]
    rw [hhi]
    obtain ⟨H1, hH1⟩ : ∃ H1, H.set a (.cells [.str s.host, .int .i64 s.rc, .int .i64 s.sz, .sl s.kept.length (bytesAV s.kept) .ro, .int .i64 s.state, .str s.fro, .sl s.to.length (s.to.map .str) .ro, .sl s.body.length (bytesAV s.body) .ro, .bool s.waits, .bool false, .bool true]) = H1 := ⟨_, rfl⟩
    have hl1 : H1.length = H.length := by rw [← hH1]; simp
    have ha := h.lt
    have f1 : ∀ l, (H1 ++ l)[H.length]? = l[0]? := fun l => by rw [List.getElem?_append_right (by omega), hl1, Nat.sub_self]
    have f2 : ∀ l v, (H1 ++ l).set H.length v = H1 ++ l.set 0 v := fun l v => by rw [List.set_append_right _ _ (by omega), hl1, Nat.sub_self]
    have f3 : ∀ l, (H1 ++ l)[a]? = some (.cells [.str s.host, .int .i64 s.rc, .int .i64 s.sz, .sl s.kept.length (bytesAV s.kept) .ro, .int .i64 s.state, .str s.fro, .sl s.to.length (s.to.map .str) .ro, .sl s.body.length (bytesAV s.body) .ro, .bool s.waits, .bool false, .bool true]) := fun l => by rw [getL (by omega), ← hH1, List.getElem?_set_self ha]
    have f4 : ∀ l Y, (H1 ++ l).set a Y = H.set a Y ++ l := fun l Y => by rw [setL (by omega), ← hH1, List.set_set]
    have f5 := f3 []
    rw [List.append_nil] at f5
    have hh := And.intro hA (And.intro q1 (And.intro q2 (And.intro hH1 (And.intro hl1 (And.intro f1 (And.intro f2 (And.intro f3 (And.intro f4 f5))))))))
    refine enter (md := fun _ => 0) Tryz.func13 (fun hfit hgl => ?_)
    generalize hr7 : Code.region 7 _ _ = r7
    repeat' (first | refine go ?_ | (refine br (fun hc => ?_) (fun hc => ?_) <;> try (exfalso; omega)) | fail)
    rw [← hr7]
    repeat' (first | refine gos ?_ | (refine br (fun hc => ?_) (fun hc => ?_) <;> try (exfalso; omega)) | fail)
    refine wseq_shift (Shift.hs (e2 _)) ?_
    repeat' (first | refine go ?_ | (refine br (fun hc => ?_) (fun hc => ?_) <;> try (exfalso; omega)) | fail)
    refine out_refB h hfit (onS s2).2 rfl ?_ ?_
    · simp only [List.length_append, List.length_cons, List.length_nil]; omega
    · simp
theorem reply_2 {c : Int} (h1 : 200 ≤ c) (h2 : c ≤ 299) : c.tdiv 100 = 2 := by
  rw [Int.tdiv_eq_ediv_of_nonneg (by omega)]; omega
theorem reply_4 {c : Int} (h1 : 400 ≤ c) (h2 : c ≤ 499) : c.tdiv 100 = 4 := by
  rw [Int.tdiv_eq_ediv_of_nonneg (by omega)]; omega
theorem reply_no {c k : Int} (hk : 0 < k) (h : c.tdiv 100 = k) : 100 * k ≤ c ∧ c ≤ 100 * k + 99 := by
  by_cases hc : 0 ≤ c
  · rw [Int.tdiv_eq_ediv_of_nonneg hc] at h; omega
  · have e : (c.tdiv 100).natAbs = c.natAbs / 100 := Int.natAbs_tdiv c 100
    have h2 : c.tdiv 100 = -((-c).tdiv 100) := by rw [Int.neg_tdiv, Int.neg_neg]
    have h3 : (-c).tdiv 100 = (-c) / 100 := Int.tdiv_eq_ediv_of_nonneg (by omega)
    rw [h3] at h2
    clear e h3
    omega
theorem rans_off {a : Nat} {s : Ses} (h : RefAt H a s) (c : Int) (ho : s.shut = true ∨ s.waits = false) : AEnter (env n0 w0 gl) 18 [.ref a 0, .int .i64 c] H (fun y H' => y = .ret (.sl 0 [] .full) ∧ H' = H) := by
  have hA := h.cells
  by_cases q : s.waits = false
  · have hh := And.intro hA q
    refine enter (md := fun _ => 0) Tryz.func18 (fun hfit hgl => ?_)
    repeat' (first | refine go ?_ | (refine br (fun hc => ?_) (fun hc => ?_) <;> try (exfalso; omega)) | fail)
    exact .now ⟨rfl, rfl⟩
  · have q2 := ho.resolve_right q
    simp only [Bool.not_eq_false] at q
    have hh := And.intro hA (And.intro q q2)
    refine enter (md := fun _ => 0) Tryz.func18 (fun hfit hgl => ?_)
    repeat' (first | refine go ?_ | (refine br (fun hc => ?_) (fun hc => ?_) <;> try (exfalso; omega)) | fail)
    exact .now ⟨rfl, rfl⟩
theorem rans_on [ht : Tab10 n0 w0] {a : Nat} {s : Ses} (h : RefAt H a s) (hm : s.Lim) (hk : s.kept.length ≤ 1000000) (c : Int) (q1 : s.shut = false) (q2 : s.waits = true) : AEnter (env n0 w0 gl) 18 [.ref a 0, .int .i64 c] H (fun y H' => y = .ret (.sl (answerS s c).1.length (bytesAV (answerS s c).1) .ro) ∧ H' = rput H a (answerS s c).2) := by
  have hA := h.cells
  have hcl : Ctr (env n0 w0 gl) 30 [.ref a 0] H True (.tup []) (rput H a s.clear) := .of fun _ => rclear_e h
  have hon : Ctr (env n0 w0 gl) 26 [.ref a 0] (rput H a s.clear) True (.str (onS s.clear).1) (rput H a (onS s.clear).2) := .of fun _ => by
    have := ron_e (n0 := n0) (w0 := w0) (gl := gl) (rput_at h s.clear) hm.clear (by simp [Ses.clear]) hk
    rw [rput_put] at this; exact this
  have hout := on_out s.clear hm.clear hk
  have hk2 : s.clear.kept.length ≤ 1000000 := hk
  have e1 : answerS s c = (replyS c ++ (onS s.clear).1, (onS s.clear).2) := by unfold answerS; rw [if_neg (by rw [q1, q2]; simp)]
  rw [e1]
  simp only
  have fin : ∀ (o : List UInt8) (n : Nat) (xs : List AV) (tok : Tok), Fit H.length H → n = o.length → xs = bytesAV o → Out H.length (fun y H' => y = .ret (.sl o.length (bytesAV o) .ro) ∧ H' = rput H a (onS s.clear).2) (.ret (.sl n xs tok)) (rput H a (onS s.clear).2) := fun o n xs tok hfit hn hx => by
    have := out_refB (l := []) (tok := tok) h hfit (onS s.clear).2 rfl hn hx
    rwa [List.append_nil] at this
  by_cases c2 : 200 ≤ c ∧ c ≤ 299
  · have hr : replyS c = [50, 53, 48, 32, 111, 107, 13, 10] := by unfold replyS; rw [if_pos (reply_2 c2.1 c2.2)]
    rw [hr]
    have c4 : ¬ (c ≥ 400) := by omega
    have hh := And.intro hA (And.intro q1 (And.intro q2 (And.intro c2 c4)))
    refine enter (md := fun _ => 0) Tryz.func18 (fun hfit hgl => ?_)
    repeat' (first | refine go ?_ | (refine br (fun hc => ?_) (fun hc => ?_) <;> try (exfalso; omega)) | fail)
    refine fin _ _ _ _ hfit ?_ ?_ <;> simp
  · have d2 : ¬ c.tdiv 100 = 2 := fun e => c2 (by have := reply_no (by decide) e; omega)
    by_cases c4 : 400 ≤ c ∧ c ≤ 499
    · have hr : replyS c = [52, 53, 50, 32, 108, 97, 116, 101, 114, 13, 10] := by unfold replyS; rw [if_neg d2, if_pos (reply_4 c4.1 c4.2)]
      rw [hr]
      have c3 : ¬ (c ≤ 299) := by omega
      have c5 : 200 ≤ c := by omega
      have hh := And.intro hA (And.intro q1 (And.intro q2 (And.intro c4 (And.intro c3 c5))))
      refine enter (md := fun _ => 0) Tryz.func18 (fun hfit hgl => ?_)
      repeat' (first | refine go ?_ | (refine br (fun hc => ?_) (fun hc => ?_) <;> try (exfalso; omega)) | fail)
      refine fin _ _ _ _ hfit ?_ ?_ <;> simp
    · have d4 : ¬ c.tdiv 100 = 4 := fun e => c4 (by have := reply_no (by decide) e; omega)
      have hr : replyS c = [53, 53, 52, 32, 110, 111, 13, 10] := by unfold replyS; rw [if_neg d2, if_neg d4]
      rw [hr]
      rcases Int.lt_or_le c 200 with x2 | x2
      · have y2 : ¬ c ≥ 200 := by omega
        have y4 : ¬ c ≥ 400 := by omega
        have hh := And.intro hA (And.intro q1 (And.intro q2 (And.intro y2 y4)))
        refine enter (md := fun _ => 0) Tryz.func18 (fun hfit hgl => ?_)
        repeat' (first | refine go ?_ | (refine br (fun hc => ?_) (fun hc => ?_) <;> try (exfalso; omega)) | fail)
        refine fin _ _ _ _ hfit ?_ ?_ <;> simp
      · have y2 : ¬ c ≤ 299 := by omega
        rcases Int.lt_or_le c 400 with x4 | x4
        · have y4 : ¬ c ≥ 400 := by omega
          have hh := And.intro hA (And.intro q1 (And.intro q2 (And.intro x2 (And.intro y2 y4))))
          refine enter (md := fun _ => 0) Tryz.func18 (fun hfit hgl => ?_)
          repeat' (first | refine go ?_ | (refine br (fun hc => ?_) (fun hc => ?_) <;> try (exfalso; omega)) | fail)
          refine fin _ _ _ _ hfit ?_ ?_ <;> simp
        · have y4 : ¬ c ≤ 499 := by omega
          have hh := And.intro hA (And.intro q1 (And.intro q2 (And.intro x2 (And.intro y2 (And.intro x4 y4)))))
          refine enter (md := fun _ => 0) Tryz.func18 (fun hfit hgl => ?_)
          repeat' (first | refine go ?_ | (refine br (fun hc => ?_) (fun hc => ?_) <;> try (exfalso; omega)) | fail)
          refine fin _ _ _ _ hfit ?_ ?_ <;> simp
end Go.Ab.Tryz

end
