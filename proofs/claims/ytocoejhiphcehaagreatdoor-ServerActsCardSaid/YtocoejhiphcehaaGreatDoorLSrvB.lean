/- Walks: a session: recipients; a line's answer. -/
import Derived.Test.YtocoejhiphcehaaGreatDoorLSrvA
import Derived.Test.YtocoejhiphcehaaGreatDoorLCmdB
section
set_option linter.unusedSimpArgs false
set_option linter.unusedVariables false
set_option maxHeartbeats 8000000
set_option maxRecDepth 10000
namespace Go.Ab.Tryz
open Go Go.Ab Go.Proofs
attribute [local irreducible] W Wl Wop TrA WSeq WLoopS FPost DPost RPost WRound DK onEnd
attribute [local simp] belowL_bytesAV belowL_strsM
variable {n0 : Nat} {w0 : World} {gl : Nat → List AV} {H : List AO}

theorem rcpt1_e {q : Nat} {v n : Int} (x t : List UInt8) (hq : H[q]? = some (.cells [.int .i64 v, .str t, .int .i64 n])) (hx : x.length ≤ 1000000) (ht : t.length ≤ 1000000) : AEnter (env n0 w0 gl) 65 [.str x, .ref q 0] H (fun y H' => y = .ret (.bool (foldA x == foldA t)) ∧ H' = H) := by
  have hh := hq
  refine enter (md := fun _ => 0) Tryz.func65 (fun hfit hgl => ?_)
  repeat' (first | refine go ?_ | (refine br (fun hc => ?_) (fun hc => ?_) <;> try (exfalso; omega)) | fail)
  rw [show (foldA x == foldA t) = decide (foldA x = foldA t) by by_cases e : foldA x = foldA t <;> simp [e]]
  exact .now ⟨rfl, rfl⟩
def anyF (l : List (List UInt8)) (t : List UInt8) : Bool := l.any (fun x => foldA x == foldA t)
def idxF (l : List (List UInt8)) (t : List UInt8) : Int := if anyF l t = true then (l.findIdx (fun x => foldA x == foldA t) : Nat) else -1
theorem idxF_pos (l : List (List UInt8)) (t : List UInt8) : decide (idxF l t ≥ 0) = anyF l t := by
  unfold idxF
  by_cases h : anyF l t = true
  · rw [if_pos h, h]; simp
  · rw [if_neg h]; simp only [Bool.not_eq_true] at h; rw [h]; decide
theorem indexF_e {q : Nat} {v n : Int} (l : List (List UInt8)) (t : List UInt8) (tok : Tok) (hq : H[q]? = some (.cells [.int .i64 v, .str t, .int .i64 n])) (hl : l.length ≤ 1000000) (hx : ∀ x ∈ l, x.length ≤ 1000) (ht : t.length ≤ 1000000) : AEnter (env n0 w0 gl) 89 [.sl l.length (l.map .str) tok, .fn 65 [] [.ref q 0]] H (fun y H' => y = .ret (.int .i64 (idxF l t)) ∧ H' = H) := by
  have hc : ∀ x, Ctr (env n0 w0 gl) 65 [.str x, .ref q 0] H (x.length ≤ 1000000) (.bool (foldA x == foldA t)) H := fun x => .of fun hx => rcpt1_e x t hq hx ht
  refine enter (md := fun _ => 0) Tryz.func89 (fun hfit hgl => ?_)
  repeat' (first | refine go ?_ | (refine br (fun hc => ?_) (fun hc => ?_) <;> try (exfalso; omega)) | fail)
  refine loop0 (fun i : Nat => (.sl l.length (l.map .str) tok :: .fn 65 [] [.ref q 0] :: .top :: .top :: .int .i64 0 :: .top :: .top :: .int .i64 l.length :: .int .i64 (i : Int) :: .top :: .top :: .top :: .top :: .top :: .top :: .top :: .top :: .top :: .top :: [])) (fun i => i ≤ l.length ∧ ∀ k, k < i → (foldA (l.getD k []) == foldA t) = false) (fun i => l.length - i) 0 ⟨Nat.zero_le _, fun k hk => absurd hk (Nat.not_lt_zero _)⟩ ?_
  rintro i ⟨hi, hall⟩
  by_cases hlt : i < l.length
  · have hxl : (l.getD i []).length ≤ 1000 := by rw [List.getD_eq_getElem?_getD, List.getElem?_eq_getElem hlt]; exact hx _ (List.getElem_mem _)
    by_cases hp : (foldA (l.getD i []) == foldA t) = true
    · have hh := hp
      have e : idxF l t = i := by
        unfold idxF
        have ha : anyF l t = true := List.any_eq_true.2 ⟨l[i], List.getElem_mem _, by rw [List.getD_eq_getElem?_getD, List.getElem?_eq_getElem hlt] at hp; exact hp⟩
        rw [if_pos ha]
        congr 1
        rw [List.findIdx_eq hlt]
        refine ⟨by rw [List.getD_eq_getElem?_getD, List.getElem?_eq_getElem hlt] at hp; exact hp, fun j hj => ?_⟩
        have := hall j hj
        rw [List.getD_eq_getElem?_getD, List.getElem?_eq_getElem (by omega)] at this
        exact this
      rw [e]
      repeat' (first | refine go ?_ | (refine br (fun hc => ?_) (fun hc => ?_) <;> try (exfalso; omega)) | fail)
      exact .now ⟨rfl, rfl⟩
    · simp only [Bool.not_eq_true] at hp
      have hh := hp
      repeat' (first | refine go ?_ | (refine br (fun hc => ?_) (fun hc => ?_) <;> try (exfalso; omega)) | fail)
      refine again (i + 1) ⟨by omega, fun k hk => ?_⟩ (by omega)
      rcases Nat.lt_succ_iff_lt_or_eq.1 hk with h | h
      · exact hall k h
      · subst h; exact hp
  · obtain rfl : i = l.length := by omega
    have e : idxF l t = -1 := by
      unfold idxF
      rw [if_neg]
      intro ha
      obtain ⟨x, hm, hx2⟩ := List.any_eq_true.1 ha
      obtain ⟨k, hk, rfl⟩ := List.getElem_of_mem hm
      have := hall k hk
      rw [List.getD_eq_getElem?_getD, List.getElem?_eq_getElem hk] at this
      simp only [Option.getD_some] at this
      rw [this] at hx2; simp at hx2
    rw [e]
    repeat' (first | refine go ?_ | (refine br (fun hc => ?_) (fun hc => ?_) <;> try (exfalso; omega)) | fail)
    exact .now ⟨rfl, rfl⟩
theorem containsF_e {q : Nat} {v n : Int} (l : List (List UInt8)) (t : List UInt8) (tok : Tok) (hq : H[q]? = some (.cells [.int .i64 v, .str t, .int .i64 n])) (hl : l.length ≤ 1000000) (hx : ∀ x ∈ l, x.length ≤ 1000) (ht : t.length ≤ 1000000) : AEnter (env n0 w0 gl) 67 [.sl l.length (l.map .str) tok, .fn 65 [] [.ref q 0]] H (fun y H' => y = .ret (.bool (anyF l t)) ∧ H' = H) := by
  have hc : Ctr (env n0 w0 gl) 89 [.sl l.length (l.map .str) tok, .fn 65 [] [.ref q 0]] H True (.int .i64 (idxF l t)) H := .of fun _ => indexF_e l t tok hq hl hx ht
  refine enter (md := fun _ => 0) Tryz.func67 (fun hfit hgl => ?_)
  repeat' (first | refine go ?_ | (refine br (fun hc => ?_) (fun hc => ?_) <;> try (exfalso; omega)) | fail)
  rw [← idxF_pos]
  exact .now ⟨rfl, rfl⟩

theorem rcpt_when {a jk jt : Nat} {s : Ses} {ek et : Nat} (h : SesAt H a jk jt s ek et) (v n : Int) (t : List UInt8) (htl : t.length ≤ 1000) (hto : ∀ x ∈ s.to, x.length ≤ 1000) (hl : s.to.length ≤ 1000) (hs : s.state < 2) : AEnter (env n0 w0 gl) 53 [.ref a 0, .agg [.int .i64 v, .str t, .int .i64 n]] H (fun y H' => y = .ret (.sl (([53, 48, 51, 32, 119, 104, 101, 110, 13, 10] : List UInt8).length) (bytesAV [53, 48, 51, 32, 119, 104, 101, 110, 13, 10]) .ro) ∧ H' = sput H a jk jt s ek et) := by
  obtain ⟨h1, h2, h3, h4, h5⟩ := h.ne
  have hA : H[a]? = some (.cells [.str s.host, .int .i64 s.rc, .int .i64 s.sz, .sl s.kept.length (bytesAV s.kept) (.at jk ek), .int .i64 s.state, .str s.fro, .sl s.to.length (s.to.map .str) (.at jt et), .sl s.body.length (bytesAV s.body) .ro, .bool s.told, .bool s.waits, .bool s.shut]) := h.cells
  have hh := And.intro hA (And.intro (atF hA) hs)
  refine enter (md := fun _ => 0) Tryz.func53 (fun hfit hgl => ?_)
  repeat' (first | refine go ?_ | (refine br (fun hc => ?_) (fun hc => ?_) <;> try (exfalso; omega)) | fail)
  refine out_ses h hfit s ek et (sput_same h).symm ?_ ?_ <;> first | rfl | (simp <;> omega)
theorem rcpt_same {a jk jt : Nat} {s : Ses} {ek et : Nat} (h : SesAt H a jk jt s ek et) (v n : Int) (t : List UInt8) (htl : t.length ≤ 1000) (hto : ∀ x ∈ s.to, x.length ≤ 1000) (hl : s.to.length ≤ 1000) (hs : ¬ s.state < 2) (ha : anyF s.to t = true) : AEnter (env n0 w0 gl) 53 [.ref a 0, .agg [.int .i64 v, .str t, .int .i64 n]] H (fun y H' => y = .ret (.sl (([50, 53, 48, 32, 111, 107, 13, 10] : List UInt8).length) (bytesAV [50, 53, 48, 32, 111, 107, 13, 10]) .ro) ∧ H' = sput H a jk jt s ek et) := by
  obtain ⟨h1, h2, h3, h4, h5⟩ := h.ne
  have hA : H[a]? = some (.cells [.str s.host, .int .i64 s.rc, .int .i64 s.sz, .sl s.kept.length (bytesAV s.kept) (.at jk ek), .int .i64 s.state, .str s.fro, .sl s.to.length (s.to.map .str) (.at jt et), .sl s.body.length (bytesAV s.body) .ro, .bool s.told, .bool s.waits, .bool s.shut]) := h.cells
  have hcf : Ctr (env n0 w0 gl) 67 [.sl s.to.length (s.to.map .str) (.at jt et), .fn 65 [] [.ref H.length 0]] (H ++ [.cells [.int .i64 v, .str t, .int .i64 n]]) True (.bool (anyF s.to t)) (H ++ [.cells [.int .i64 v, .str t, .int .i64 n]]) := .of fun _ => containsF_e (q := H.length) (v := v) (n := n) s.to t _ (by simp) (by omega) hto (by omega)
  have hh := And.intro hA (And.intro (atF hA) (And.intro hs ha))
  refine enter (md := fun _ => 0) Tryz.func53 (fun hfit hgl => ?_)
  repeat' (first | refine go ?_ | (refine br (fun hc => ?_) (fun hc => ?_) <;> try (exfalso; omega)) | fail)
  refine out_ses h hfit s ek et (sput_same h).symm ?_ ?_ <;> first | rfl | (simp <;> omega)
theorem rcpt_many {a jk jt : Nat} {s : Ses} {ek et : Nat} (h : SesAt H a jk jt s ek et) (v n : Int) (t : List UInt8) (htl : t.length ≤ 1000) (hto : ∀ x ∈ s.to, x.length ≤ 1000) (hl : s.to.length ≤ 1000) (hs : ¬ s.state < 2) (ha : anyF s.to t = false) (hr : s.rc ≤ (s.to.length : Int)) : AEnter (env n0 w0 gl) 53 [.ref a 0, .agg [.int .i64 v, .str t, .int .i64 n]] H (fun y H' => y = .ret (.sl (([52, 53, 50, 32, 109, 97, 110, 121, 13, 10] : List UInt8).length) (bytesAV [52, 53, 50, 32, 109, 97, 110, 121, 13, 10]) .ro) ∧ H' = sput H a jk jt s ek et) := by
  obtain ⟨h1, h2, h3, h4, h5⟩ := h.ne
  have hA : H[a]? = some (.cells [.str s.host, .int .i64 s.rc, .int .i64 s.sz, .sl s.kept.length (bytesAV s.kept) (.at jk ek), .int .i64 s.state, .str s.fro, .sl s.to.length (s.to.map .str) (.at jt et), .sl s.body.length (bytesAV s.body) .ro, .bool s.told, .bool s.waits, .bool s.shut]) := h.cells
  have hcf : Ctr (env n0 w0 gl) 67 [.sl s.to.length (s.to.map .str) (.at jt et), .fn 65 [] [.ref H.length 0]] (H ++ [.cells [.int .i64 v, .str t, .int .i64 n]]) True (.bool (anyF s.to t)) (H ++ [.cells [.int .i64 v, .str t, .int .i64 n]]) := .of fun _ => containsF_e (q := H.length) (v := v) (n := n) s.to t _ (by simp) (by omega) hto (by omega)
  have hh := And.intro hA (And.intro (atF hA) (And.intro hs (And.intro ha hr)))
  refine enter (md := fun _ => 0) Tryz.func53 (fun hfit hgl => ?_)
  repeat' (first | refine go ?_ | (refine br (fun hc => ?_) (fun hc => ?_) <;> try (exfalso; omega)) | fail)
  refine out_ses h hfit s ek et (sput_same h).symm ?_ ?_ <;> first | rfl | (simp <;> omega)
theorem rcpt_ok {a jk jt : Nat} {s : Ses} {ek et : Nat} (h : SesAt H a jk jt s ek et) (v n : Int) (t : List UInt8) (htl : t.length ≤ 1000) (hto : ∀ x ∈ s.to, x.length ≤ 1000) (hl : s.to.length ≤ 1000) (hs : ¬ s.state < 2) (ha : anyF s.to t = false) (hr : ¬ s.rc ≤ (s.to.length : Int)) : AEnter (env n0 w0 gl) 53 [.ref a 0, .agg [.int .i64 v, .str t, .int .i64 n]] H (fun y H' => y = .ret (.sl (([50, 53, 48, 32, 111, 107, 13, 10] : List UInt8).length) (bytesAV [50, 53, 48, 32, 111, 107, 13, 10]) .ro) ∧ H' = sput H a jk jt { s with to := s.to ++ [t], state := 3 } ek (et + 1)) := by
  obtain ⟨h1, h2, h3, h4, h5⟩ := h.ne
  have hA : H[a]? = some (.cells [.str s.host, .int .i64 s.rc, .int .i64 s.sz, .sl s.kept.length (bytesAV s.kept) (.at jk ek), .int .i64 s.state, .str s.fro, .sl s.to.length (s.to.map .str) (.at jt et), .sl s.body.length (bytesAV s.body) .ro, .bool s.told, .bool s.waits, .bool s.shut]) := h.cells
  have hcf : Ctr (env n0 w0 gl) 67 [.sl s.to.length (s.to.map .str) (.at jt et), .fn 65 [] [.ref H.length 0]] (H ++ [.cells [.int .i64 v, .str t, .int .i64 n]]) True (.bool (anyF s.to t)) (H ++ [.cells [.int .i64 v, .str t, .int .i64 n]]) := .of fun _ => containsF_e (q := H.length) (v := v) (n := n) s.to t _ (by simp) (by omega) hto (by omega)
  have hB : (H.set jt (.tail 1 (et + 1)))[a]? = some (.cells [.str s.host, .int .i64 s.rc, .int .i64 s.sz, .sl s.kept.length (bytesAV s.kept) (.at jk ek), .int .i64 s.state, .str s.fro, .sl s.to.length (s.to.map .str) (.at jt et), .sl s.body.length (bytesAV s.body) .ro, .bool s.told, .bool s.waits, .bool s.shut]) := by rw [List.getElem?_set_ne (Ne.symm h2)]; exact h.cells
  have hBl : (H.set jt (.tail 1 (et + 1))).length = H.length := List.length_set ..
  have hh := And.intro hA (And.intro (atF hA) (And.intro hs (And.intro ha (And.intro hr (And.intro h.ht (And.intro (atF h.ht) (And.intro hB (And.intro (atF hB) hBl))))))))
  refine enter (md := fun _ => 0) Tryz.func53 (fun hfit hgl => ?_)
  repeat' (first | refine go ?_ | (refine br (fun hc => ?_) (fun hc => ?_) <;> try (exfalso; omega)) | fail)
  refine out_ses h hfit { s with to := s.to ++ [t], state := 3 } ek (et + 1) ?_ ?_ ?_
  · unfold sput
    rw [set_same h.hk]
    simp [sesAV]
  · rfl
  · rfl

end Go.Ab.Tryz

end

section
set_option linter.unusedSimpArgs false
set_option linter.unusedVariables false
set_option maxHeartbeats 8000000
set_option maxRecDepth 10000
namespace Go.Ab.Tryz
open Go Go.Ab Go.Proofs
attribute [local irreducible] W Wl Wop TrA WSeq WLoopS FPost DPost RPost WRound DK onEnd
attribute [local simp] belowL_bytesAV belowL_strsM
variable {n0 : Nat} {w0 : World} {gl : Nat → List AV} {H : List AO}

/-- How often the room behind the recipients was named anew. -/
noncomputable def etR (s : Ses) (t : List UInt8) (et : Nat) : Nat := if s.state < 2 then et else if anyF s.to t = true then et else if s.rc ≤ (s.to.length : Int) then et else et + 1
noncomputable def etL (s : Ses) (x : List UInt8) (et : Nat) : Nat :=
  if (cmdP x).2.2.2 = 500 then et else if (cmdP x).2.2.2 = 501 then et
  else if (cmdP x).1 = 1 then et + 1 else if (cmdP x).1 = 2 then et + 1 else if (cmdP x).1 = 3 then et
  else if (cmdP x).1 = 4 then etR s (cmdP x).2.1 et
  else if (cmdP x).1 = 5 then et else if (cmdP x).1 = 9 then et else if (cmdP x).1 = 8 then et
  else if (cmdP x).1 = 6 then (if s.state ≠ 0 then et + 1 else et) else et
theorem fillT_len2 (v : Int) (s : List UInt8) : (fillT v s).length ≤ s.length := by
  unfold fillT
  split
  · exact Nat.le_refl _
  · split
    · cases h : apR [70, 82, 79, 77, 58] s with
      | none => simp
      | some q => obtain ⟨x, y⟩ := q; exact (apR_len h).1
    · split
      · cases h : apR [84, 79, 58] s with
        | none => simp
        | some q => obtain ⟨x, y⟩ := q; exact (apR_len h).1
      · simp
theorem cmdP_len (x : List UInt8) : (cmdP x).2.1.length ≤ 510 := by
  unfold cmdP
  split
  · rename_i h
    have hx := (tf_iff.1 h).1
    split
    · simp
    · split
      · have h1 := fillT_len2 (verbU ((cutB x).1.map upB)) (cutB x).2
        have h2 := (cutB_len x).2
        simp only; omega
      · simp
  · simp
/-- What a session may hold. -/
structure Ses.Lim (s : Ses) : Prop where
  host : s.host.length ≤ 1000
  sz : 0 ≤ s.sz ∧ s.sz ≤ 1000000
  to : ∀ x ∈ s.to, x.length ≤ 1000
  tol : s.to.length ≤ 1000
  rc : 1 ≤ s.rc ∧ s.rc ≤ 100
def rcO (s : Ses) (t : List UInt8) : List UInt8 := (rcptA s t).1
theorem rcpt_e {a jk jt : Nat} {s : Ses} {ek et : Nat} (h : SesAt H a jk jt s ek et) (hm : s.Lim) (v n : Int) (t : List UInt8) (htl : t.length ≤ 1000) : AEnter (env n0 w0 gl) 53 [.ref a 0, .agg [.int .i64 v, .str t, .int .i64 n]] H (fun y H' => y = .ret (.sl (rcptA s t).1.length (bytesAV (rcptA s t).1) .ro) ∧ H' = sput H a jk jt (rcptA s t).2 ek (etR s t et)) := by
  unfold etR rcptA
  by_cases h1 : s.state < 2
  · rw [if_pos h1, if_pos h1]; exact rcpt_when h v n t htl hm.to hm.tol h1
  · rw [if_neg h1, if_neg h1]
    by_cases h2 : anyF s.to t = true
    · rw [if_pos h2, if_pos (show s.to.any (fun x => foldA x == foldA t) = true from h2)]; exact rcpt_same h v n t htl hm.to hm.tol h1 h2
    · rw [if_neg h2, if_neg (show ¬ s.to.any (fun x => foldA x == foldA t) = true from h2)]
      simp only [Bool.not_eq_true] at h2
      by_cases h3 : s.rc ≤ (s.to.length : Int)
      · rw [if_pos h3, if_pos h3]; exact rcpt_many h v n t htl hm.to hm.tol h1 h2 h3
      · rw [if_neg h3, if_neg h3]; exact rcpt_ok h v n t htl hm.to hm.tol h1 h2 h3
theorem sline_call {a jk jt : Nat} {s : Ses} {ek et : Nat} (h : SesAt H a jk jt s ek et) (x : List UInt8) (k : Nat) (tok : Tok) (hk : k = x.length) (hx : x.length ≤ 1000000) (h0 : (cmdP x).2.2.2 ≠ 500) (h1 : (cmdP x).2.2.2 ≠ 501) {f : Nat} {o : List UInt8} {s' : Ses} {et' : Nat}
    (hf : ((cmdP x).1 = 1 ∧ f = 50) ∨ ((cmdP x).1 = 2 ∧ f = 51) ∨ ((cmdP x).1 = 3 ∧ f = 52) ∨ ((cmdP x).1 = 4 ∧ f = 53) ∨ ((cmdP x).1 = 5 ∧ f = 54) ∨ (((cmdP x).1 ≠ 1 ∧ (cmdP x).1 ≠ 2 ∧ (cmdP x).1 ≠ 3 ∧ (cmdP x).1 ≠ 4 ∧ (cmdP x).1 ≠ 5) ∧ f = 55))
    (hc : ∀ l, AEnter (env n0 w0 gl) f [.ref a 0, .agg [.int .i64 (cmdP x).1, .str (cmdP x).2.1, .int .i64 (cmdP x).2.2.1]] (H ++ l) (fun y H' => y = .ret (.sl o.length (bytesAV o) .ro) ∧ H' = sput H a jk jt s' ek et' ++ l)) :
    AEnter (env n0 w0 gl) 37 [.ref a 0, .sl k (bytesAV x) tok] H (fun y H' => y = .ret (.sl o.length (bytesAV o) .ro) ∧ H' = sput H a jk jt s' ek et') := by
  have hc2 : ∀ l, Ctr (env n0 w0 gl) f [.ref a 0, .agg [.int .i64 (cmdP x).1, .str (cmdP x).2.1, .int .i64 (cmdP x).2.2.1]] (H ++ l) True (.sl o.length (bytesAV o) .ro) (sput H a jk jt s' ek et' ++ l) := fun l => .of fun _ => hc l
  rcases hf with ⟨hv, rfl⟩ | ⟨hv, rfl⟩ | ⟨hv, rfl⟩ | ⟨hv, rfl⟩ | ⟨hv, rfl⟩ | ⟨hv, rfl⟩
  all_goals
    have hh := And.intro h0 (And.intro h1 hv)
    try rw [hv] at hc2
    refine enter (md := fun _ => 0) Tryz.func37 (fun hfit hgl => ?_)
    repeat' (first | refine go ?_ | (refine br (fun hc => ?_) (fun hc => ?_) <;> try (exfalso; omega)) | fail)
    exact out_ses h hfit s' ek et' rfl rfl rfl

theorem out_one {o : List UInt8} {tok : Tok} {l : List AO} {N : Nat} {n : Nat} (hN : N = H.length) (hn : n = o.length) (hf : Fit H.length H) : Out N (fun y H' => y = .ret (.sl o.length (bytesAV o) .ro) ∧ H' = H) (.ret (.sl n (bytesAV o) tok)) (H ++ l) := by
  subst hN; subst hn
  refine Out.weak (b := .sl o.length (bytesAV o) .ro) (fun g c h => sl_ro g c h) ?_
  exact Out.dropS (Nat.le_refl _) hf (by simp [AE.within, AV.within]) ⟨rfl, rfl⟩
theorem sline_500 (a : Nat) (x : List UInt8) (k : Nat) (tok : Tok) (hk : k = x.length) (hx : x.length ≤ 1000000) (h0 : (cmdP x).2.2.2 = 500) : AEnter (env n0 w0 gl) 37 [.ref a 0, .sl k (bytesAV x) tok] H (fun y H' => y = .ret (.sl (([53, 48, 48, 32, 119, 104, 97, 116, 13, 10] : List UInt8).length) (bytesAV [53, 48, 48, 32, 119, 104, 97, 116, 13, 10]) .ro) ∧ H' = H) := by
  have hh := h0
  refine enter (md := fun _ => 0) Tryz.func37 (fun hfit hgl => ?_)
  repeat' (first | refine go ?_ | (refine br (fun hc => ?_) (fun hc => ?_) <;> try (exfalso; omega)) | fail)
  exact out_one rfl rfl hfit
theorem sline_501 (a : Nat) (x : List UInt8) (k : Nat) (tok : Tok) (hk : k = x.length) (hx : x.length ≤ 1000000) (h0 : (cmdP x).2.2.2 = 501) : AEnter (env n0 w0 gl) 37 [.ref a 0, .sl k (bytesAV x) tok] H (fun y H' => y = .ret (.sl (([53, 48, 49, 32, 104, 111, 119, 13, 10] : List UInt8).length) (bytesAV [53, 48, 49, 32, 104, 111, 119, 13, 10]) .ro) ∧ H' = H) := by
  have hh := h0
  refine enter (md := fun _ => 0) Tryz.func37 (fun hfit hgl => ?_)
  repeat' (first | refine go ?_ | (refine br (fun hc => ?_) (fun hc => ?_) <;> try (exfalso; omega)) | fail)
  exact out_one rfl rfl hfit
theorem AEnter.put {a jk jt : Nat} {s : Ses} {ek et : Nat} (h : SesAt H a jk jt s ek et) {f : FuncId} {args : List AV} {o : List UInt8} {s' : Ses} {ek' et' : Nat} {l : List AO} (k : AEnter (env n0 w0 gl) f args (H ++ l) (fun y H' => y = .ret (.sl o.length (bytesAV o) .ro) ∧ H' = sput (H ++ l) a jk jt s' ek' et')) : AEnter (env n0 w0 gl) f args (H ++ l) (fun y H' => y = .ret (.sl o.length (bytesAV o) .ro) ∧ H' = sput H a jk jt s' ek' et' ++ l) := by
  rwa [sput_app h] at k
theorem sline_e [ht : Tab10 n0 w0] {a jk jt : Nat} {s : Ses} {ek et : Nat} (h : SesAt H a jk jt s ek et) (hm : s.Lim) (x : List UInt8) (k : Nat) (tok : Tok) (hk : k = x.length) (hx : x.length ≤ 1000000) : AEnter (env n0 w0 gl) 37 [.ref a 0, .sl k (bytesAV x) tok] H (fun y H' => y = .ret (.sl (cmdA s x).1.length (bytesAV (cmdA s x).1) .ro) ∧ H' = sput H a jk jt (cmdA s x).2 ek (etL s x et)) := by
  have hcl := cmdP_len x
  unfold cmdA etL
  by_cases h0 : (cmdP x).2.2.2 = 500
  · rw [if_pos h0, if_pos h0, sput_same h]; exact sline_500 a x k tok hk hx h0
  rw [if_neg h0, if_neg h0]
  by_cases h1 : (cmdP x).2.2.2 = 501
  · rw [if_pos h1, if_pos h1, sput_same h]; exact sline_501 a x k tok hk hx h1
  rw [if_neg h1, if_neg h1]
  by_cases v1 : (cmdP x).1 = 1
  · rw [if_pos v1, if_pos v1]
    exact sline_call h x k tok hk hx h0 h1 (.inl ⟨v1, rfl⟩) fun l => AEnter.put h (helo_e (h.app l) hm.host _ _ _)
  rw [if_neg v1, if_neg v1]
  by_cases v2 : (cmdP x).1 = 2
  · rw [if_pos v2, if_pos v2]
    exact sline_call h x k tok hk hx h0 h1 (.inr (.inl ⟨v2, rfl⟩)) fun l => AEnter.put h (ehlo_e (h.app l) _ _ _ hm.host hm.sz)
  rw [if_neg v2, if_neg v2]
  by_cases v3 : (cmdP x).1 = 3
  · rw [if_pos v3, if_pos v3]
    by_cases s1 : s.state ≠ 1
    · rw [if_pos s1]
      exact sline_call h x k tok hk hx h0 h1 (.inr (.inr (.inl ⟨v3, rfl⟩))) fun l => AEnter.put h (mail_bad (h.app l) _ _ _ s1)
    · rw [if_neg s1]
      have s1' : s.state = 1 := Decidable.not_not.1 s1
      by_cases s2 : (cmdP x).2.2.1 > s.sz
      · rw [if_pos s2]
        exact sline_call h x k tok hk hx h0 h1 (.inr (.inr (.inl ⟨v3, rfl⟩))) fun l => AEnter.put h (mail_size (h.app l) _ _ _ s1' s2)
      · rw [if_neg s2]
        exact sline_call h x k tok hk hx h0 h1 (.inr (.inr (.inl ⟨v3, rfl⟩))) fun l => AEnter.put h (mail_ok (h.app l) _ _ _ s1' s2)
  rw [if_neg v3, if_neg v3]
  by_cases v4 : (cmdP x).1 = 4
  · rw [if_pos v4, if_pos v4]
    exact sline_call h x k tok hk hx h0 h1 (.inr (.inr (.inr (.inl ⟨v4, rfl⟩)))) fun l => AEnter.put h (rcpt_e (h.app l) hm _ _ _ (by omega))
  rw [if_neg v4, if_neg v4]
  by_cases v5 : (cmdP x).1 = 5
  · rw [if_pos v5, if_pos v5]
    by_cases s1 : s.state ≠ 3
    · rw [if_pos s1]
      exact sline_call h x k tok hk hx h0 h1 (.inr (.inr (.inr (.inr (.inl ⟨v5, rfl⟩))))) fun l => AEnter.put h (data_bad (h.app l) _ _ _ s1)
    · rw [if_neg s1]
      exact sline_call h x k tok hk hx h0 h1 (.inr (.inr (.inr (.inr (.inl ⟨v5, rfl⟩))))) fun l => AEnter.put h (data_ok (h.app l) _ _ _ (Decidable.not_not.1 s1))
  rw [if_neg v5, if_neg v5]
  by_cases v9 : (cmdP x).1 = 9
  · rw [if_pos v9, if_pos v9]
    exact sline_call h x k tok hk hx h0 h1 (.inr (.inr (.inr (.inr (.inr ⟨⟨v1, v2, v3, v4, v5⟩, rfl⟩))))) fun l => AEnter.put h (rest_vrfy (h.app l) _ _ _ v9)
  rw [if_neg v9, if_neg v9]
  by_cases v8 : (cmdP x).1 = 8
  · rw [if_pos v8, if_pos v8]
    exact sline_call h x k tok hk hx h0 h1 (.inr (.inr (.inr (.inr (.inr ⟨⟨v1, v2, v3, v4, v5⟩, rfl⟩))))) fun l => AEnter.put h (rest_quit (h.app l) _ _ _ v8)
  rw [if_neg v8, if_neg v8]
  by_cases v6 : (cmdP x).1 = 6
  · rw [if_pos v6, if_pos v6]
    by_cases s1 : s.state ≠ 0
    · rw [if_pos s1, if_pos s1]
      exact sline_call h x k tok hk hx h0 h1 (.inr (.inr (.inr (.inr (.inr ⟨⟨v1, v2, v3, v4, v5⟩, rfl⟩))))) fun l => AEnter.put h (rest_rset (h.app l) _ _ _ v6 s1)
    · rw [if_neg s1, if_neg s1]
      exact sline_call h x k tok hk hx h0 h1 (.inr (.inr (.inr (.inr (.inr ⟨⟨v1, v2, v3, v4, v5⟩, rfl⟩))))) fun l => AEnter.put h (rest_rset0 (h.app l) _ _ _ v6 (Decidable.not_not.1 s1))
  rw [if_neg v6, if_neg v6]
  exact sline_call h x k tok hk hx h0 h1 (.inr (.inr (.inr (.inr (.inr ⟨⟨v1, v2, v3, v4, v5⟩, rfl⟩))))) fun l => AEnter.put h (rest_other (h.app l) _ _ _ ⟨v9, v8, v6⟩)

end Go.Ab.Tryz

end
