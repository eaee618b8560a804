/- Walks: the law on how a session greets. -/
import Derived.Test.YtocoejhiphcehaaGreatDoorLLaw25b
import Derived.Test.YtocoejhiphcehaaGreatDoorLRsA
set_option linter.unusedSimpArgs false
set_option linter.unusedVariables false
set_option maxHeartbeats 16000000
set_option maxRecDepth 10000
namespace Go.Ab.Tryz
open Go Go.Ab Go.Proofs
attribute [local irreducible] W Wl Wop TrA WSeq WLoopS WLoopM FPost DPost RPost WRound DK onEnd
attribute [local simp] belowL_bytesAV belowL_strsM belowL_linesAV belowL_envs belowL_bods belowL_ints belowL_appM
variable {n0 : Nat} {w0 : World} {gl : Nat → List AV} {H : List AO}

theorem dom_no13 {s : List UInt8} (h : DomainOk s) : 13 ∉ s := by
  intro hm
  have := domain_seen h _ hm
  revert this; decide
theorem host_no13 (host : List UInt8) : 13 ∉ hostN host := by
  unfold hostN
  split
  · rename_i h; exact dom_no13 (tf_iff.1 h)
  · decide
theorem flatL_end {m : List (List UInt8)} (h : m ≠ []) : ∃ z, flatL m = z ++ [13, 10] := by
  induction m with
  | nil => exact absurd rfl h
  | cons y m ih =>
    have e : flatL (y :: m) = y ++ [13, 10] ++ flatL m := by simp [flatL]
    rw [e]
    by_cases hm : m = []
    · subst hm; exact ⟨y, by simp [flatL]⟩
    · obtain ⟨z, hz⟩ := ih hm
      rw [hz]; exact ⟨y ++ [13, 10] ++ z, by simp⟩

theorem drain_out (codes : List Int) : ∀ (f n : Nat) (s : Ses), s.Good → s.kept.length ≤ 1000000 → (drainK codes f n s).s.Good ∧ (drainK codes f n s).out.length + 1100 * (drainK codes f n s).s.kept.length ≤ 1100 * s.kept.length + 20 * f ∧ (drainK codes f n s).s.kept.length ≤ s.kept.length
  | 0, n, s, h, hk => ⟨h, by simp [drainK], Nat.le_refl _⟩
  | f + 1, n, s, h, hk => by
    rw [drainK]
    split
    · have h1 := good_answer h (codeA codes n) hk
      have ih := drain_out codes f (n + 1) (answerS s (codeA codes n)).2 h1.1 (by omega)
      simp only [Thru.then, List.length_append]
      exact ⟨ih.1, by omega, by omega⟩
    · exact ⟨h, by simp, Nat.le_refl _⟩
theorem thru_out (codes : List Int) : ∀ (l : List (List UInt8)) (n : Nat) (s : Ses), s.Good → s.kept.length + l.flatten.length ≤ 1000000 → (thruK codes l n s).out.length ≤ 1100 * (s.kept.length + l.flatten.length) + 6000 * l.length
  | [], n, s, h, hk => by simp [thruK]
  | b :: l, n, s, h, hk => by
    simp only [List.flatten_cons, List.length_append] at hk ⊢
    have h1 := good_feed h b (by omega)
    have h2 := drain_out codes (201 - n) n (feedS s b).2 h1.1 (by omega)
    have e1 : (pieceK codes n s b).out = (feedS s b).1 ++ (drainK codes (201 - n) n (feedS s b).2).out := rfl
    have e2 : (pieceK codes n s b).s = (drainK codes (201 - n) n (feedS s b).2).s := rfl
    have ih := thru_out codes l (pieceK codes n s b).n (pieceK codes n s b).s (by rw [e2]; exact h2.1) (by rw [e2]; omega)
    have e3 : (pieceK codes n s b).s.kept.length = (drainK codes (201 - n) n (feedS s b).2).s.kept.length := rfl
    have e4 := congrArg List.length e1
    rw [List.length_append] at e4
    rw [thruK]
    simp only [Thru.then, List.length_append, List.length_cons]
    omega
theorem serverGreets_t [hml : GLInt gl 0] [ht : Tab10 n0 w0] (host : List UInt8) (rc sz : Int) (l : List (List UInt8)) (codes : List Int) (hb : host.length ≤ 9223372036854775807) (hl : l.length ≤ 9223372036854775807) (hx : ∀ x ∈ l, x.length ≤ 9223372036854775807) (hcl : codes.length ≤ 9223372036854775807) (hcb : ∀ x ∈ codes, -9223372036854775808 ≤ x ∧ x ≤ 9223372036854775807) :
    AEnter (env n0 w0 gl) 7 [.agg [.str host, .int .i64 rc, .int .i64 sz], .sl l.length (linesAV l) .ro, .sl codes.length (intsAV codes) .ro] H (fun y H' => y = .ret (.bool true) ∧ H' = H) := by
  have hfw : ∀ X, Ctr (env n0 w0 gl) 9 [.sl l.length (linesAV l) .ro] X True (.bool (tf (FewOk l))) X := fun X => .of fun _ => few_e l hl hx
  rcases (Classical.em (FewOk l)).symm with hf | hf
  · have hft := tf_false hf
    have hh := hft
    refine enter (md := fun _ => 0) Tryz.func7 (fun hfit hgl => ?_)
    repeat' (first | refine go ?_ | (refine br (fun hc => ?_) (fun hc => ?_) <;> try (exfalso; omega)) | fail)
    exact .junkd ⟨rfl, rfl⟩
  have hft := tf_true hf
  by_cases hl0 : l.length = 0
  · have hl2 : (l.length : Int) = 0 := by omega
    have hh := And.intro hft hl2
    refine enter (md := fun _ => 0) Tryz.func7 (fun hfit hgl => ?_)
    repeat' (first | refine go ?_ | (refine br (fun hc => ?_) (fun hc => ?_) <;> try (exfalso; omega)) | fail)
    exact .junkd ⟨rfl, rfl⟩
  have hl1 : ¬ ((l.length : Int) = 0) := by omega
  by_cases hhl : (host.length : Int) > 300
  · have hh := And.intro hft (And.intro hl1 hhl)
    refine enter (md := fun _ => 0) Tryz.func7 (fun hfit hgl => ?_)
    repeat' (first | refine go ?_ | (refine br (fun hc => ?_) (fun hc => ?_) <;> try (exfalso; omega)) | fail)
    exact .junkd ⟨rfl, rfl⟩
  have hnew : Ctr (env n0 w0 gl) 10 [.agg [.str host, .int .i64 rc, .int .i64 sz]] (H ++ [.cells [.str host, .int .i64 rc, .int .i64 sz]]) True (.ref (H.length + 2) 0) (H ++ [.cells [.str host, .int .i64 rc, .int .i64 sz], .dead, .cells (sesAV (s25 host rc sz) (H.length + 3) 1 (H.length + 4) 1), .tail 1 1, .tail 1 1]) := .of fun _ => by
    have := new_e (n0 := n0) (w0 := w0) (gl := gl) (H := H ++ [.cells [.str host, .int .i64 rc, .int .i64 sz]]) host rc sz hb
    simp only [List.length_append, List.length_cons, List.length_nil, List.append_assoc, List.cons_append, List.nil_append, Nat.zero_add, Nat.add_assoc, Nat.reduceAdd] at this
    exact this
  have hrnew : Ctr (env n0 w0 gl) 11 [.agg [.str host, .int .i64 rc, .int .i64 sz]] (H ++ [.cells [.str host, .int .i64 rc, .int .i64 sz], .dead, .cells (sesAV (s25 host rc sz) (H.length + 3) 1 (H.length + 4) 1), .tail 1 1, .tail 1 1]) True (.ref (H.length + 6) 0) (H ++ [.cells [.str host, .int .i64 rc, .int .i64 sz], .dead, .cells (sesAV (s25 host rc sz) (H.length + 3) 1 (H.length + 4) 1), .tail 1 1, .tail 1 1, .dead, .cells [.str (hostN host), .int .i64 (clampN 100 rc), .int .i64 (clampN 500000 sz), .sl 0 [] .ro, .int .i64 0, .str [], .sl 0 [] .ro, .sl 0 [] .ro, .bool false, .bool false, .bool false]]) := .of fun _ => by
    have := rnew_e (n0 := n0) (w0 := w0) (gl := gl) (H := H ++ [.cells [.str host, .int .i64 rc, .int .i64 sz], .dead, .cells (sesAV (s25 host rc sz) (H.length + 3) 1 (H.length + 4) 1), .tail 1 1, .tail 1 1]) host rc sz hb
    simp only [List.length_append, List.length_cons, List.length_nil, List.append_assoc, List.cons_append, List.nil_append, Nat.zero_add, Nat.add_assoc, Nat.reduceAdd] at this
    exact this
  have hthr : ∀ c, Ctr (env n0 w0 gl) 20 [.ref (H.length + 2) 0, .sl l.length (linesAV l) .ro, .sl codes.length (intsAV codes) .ro] (H ++ [.cells [.str host, .int .i64 rc, .int .i64 sz], .dead, .cells (sesAV (s25 host rc sz) (H.length + 3) 1 (H.length + 4) 1), .tail 1 1, .tail 1 1, .dead, c]) True (thruV (thruK codes l 0 (s25 host rc sz))) (H ++ [.cells [.str host, .int .i64 rc, .int .i64 sz], .dead, .dead, .dead, .dead, .dead, c]) := fun c => .of fun _ => by
    have hat : SesAt (H ++ [.cells [.str host, .int .i64 rc, .int .i64 sz], .dead, .cells (sesAV (s25 host rc sz) (H.length + 3) 1 (H.length + 4) 1), .tail 1 1, .tail 1 1, .dead, c]) (H.length + 2) (H.length + 3) (H.length + 4) (s25 host rc sz) 1 1 := by
      refine ⟨?_, ?_, ?_, by omega⟩ <;> simp [getE, getE0]
    refine (through_d hat (s25_good host rc sz) rfl l codes hf.1 (few_flat hf) hcl hcb).hs ?_
    rintro y H1 ⟨rfl, rfl⟩
    refine ⟨_, (HS.kill (H.length + 2)).trans (HS.eq ?_), rfl, rfl⟩
    simp [sdone, setE, setE0]
  unfold thruV at hthr
  obtain ⟨b, l2, rfl⟩ : ∃ b l2, l = b :: l2 := by
    cases l with
    | nil => simp at hl0
    | cons b l2 => exact ⟨b, l2, rfl⟩
  obtain ⟨m, hm, hout⟩ := greets codes b l2 (s25 host rc sz) (host_no13 host) (by have := clamp_in (M := 500000) (x := sz) (by decide); show 0 ≤ clampN 500000 sz; omega) rfl rfl
  have hol := thru_out codes (b :: l2) 0 (s25 host rc sz) (s25_good host rc sz) (by have := few_flat hf; show 0 + _ ≤ _; omega)
  have hol2 : (thruK codes (b :: l2) 0 (s25 host rc sz)).out.length ≤ 100000000 := by
    have h1 := few_flat hf
    have h2 := hf.1
    have h3 : (s25 host rc sz).kept.length = 0 := rfl
    rw [h3] at hol
    generalize (b :: l2).flatten.length = fl at hol h1
    generalize (b :: l2).length = ll at hol h2
    generalize (thruK codes (b :: l2) 0 (s25 host rc sz)).out.length = ol at hol ⊢
    omega
  have hs13 := host_no13 host
  have ehost : (s25 host rc sz).host = hostN host := rfl
  rw [ehost] at hout
  have hhn := hostN_len (host := host)
  clear hol
  generalize (thruK codes (b :: l2) 0 (s25 host rc sz)).out = out at hthr hout hol2
  generalize (thruK codes (b :: l2) 0 (s25 host rc sz)).msgs = M at hthr
  generalize hostN host = hs at *
  have hal : out = flatL (([50, 50, 48, 32] ++ (hs ++ [32, 114, 101, 97, 100, 121])) :: m) := by rw [hout]; simp [flatL]
  have hno := flat_no (([50, 50, 48, 32] ++ (hs ++ [32, 114, 101, 97, 100, 121])) :: m) (fun y hy => by
    rcases List.mem_cons.1 hy with e | e
    · rw [e]
      intro hmm
      rcases List.mem_append.1 hmm with q | q
      · revert q; decide
      · rcases List.mem_append.1 q with q | q
        · exact hs13 q
        · revert q; decide
    · exact (hm y e).1) (fun y hy => hm y hy)
  rw [← hal] at hno
  obtain ⟨z, hz⟩ := flatL_end (m := ([50, 50, 48, 32] ++ (hs ++ [32, 114, 101, 97, 100, 121])) :: m) (by simp)
  rw [← hal] at hz
  have f1 : ¬ ((out.length : Int) < (hs.length + 12 : Nat)) := by
    have := congrArg List.length hout
    simp only [List.length_append, List.length_cons, List.length_nil] at this
    omega
  have f2 : List.take (hs.length + 12) out = 50 :: 50 :: 48 :: 32 :: (hs ++ [32, 114, 101, 97, 100, 121, 13, 10]) := by
    rw [hout, List.take_left' (by simp)]; rfl
  have f3 : List.drop (out.length - 2) out = [13, 10] := by
    rw [hz, List.length_append]
    simp
  have f4 : ((out.length : Int) - 2).toNat = out.length - 2 := by omega
  have hh := And.intro hft (And.intro hl1 (And.intro hhl (And.intro f1 (And.intro f2 (And.intro f3 f4)))))
  refine enter (md := fun _ => 0) Tryz.func7 (fun hfit hgl => ?_)
  repeat' (first | refine go ?_ | (refine br (fun hc => ?_) (fun hc => ?_) <;> try (exfalso; omega)) | fail)
  refine loop0 (fun i : Nat => (.top :: .top :: .top :: .top :: .top :: .top :: .bool false :: .top :: .top :: .str out :: .top :: .top :: .top :: .int .i64 (i : Int) :: .top :: .top :: .top :: .top :: .top :: .top :: .top :: .top :: .top :: .top :: .top :: .top :: .top :: .top :: .top :: .top :: .top :: .top :: .top :: .top :: .top :: .top :: .top :: .top :: .top :: .top :: .top :: .top :: .top :: .top :: .top :: .top :: .top :: .top :: .top :: .top :: .top :: .top :: .top :: .top :: .top :: .top :: .top :: .top :: .top :: .top :: .top :: .top :: .top :: .top :: .top :: .top :: .top :: .top :: .top :: .top :: .top :: .top :: .top :: .top :: .top :: .top :: .top :: .top :: .top :: .top :: .top :: .top :: .top :: .top :: .top :: .top :: [])) (fun i => 2 ≤ i ∧ i ≤ out.length + 2) (fun i => out.length + 2 - i) 2 ⟨by omega, by omega⟩ ?_
  rintro i ⟨hi, hi2⟩
  by_cases hlt : i + 4 ≤ out.length
  · have hn := hno (i - 2)
    have hsl : List.drop (i - 2) (List.take (i + 4) out) = (out.drop (i - 2)).take 6 := by
      rw [List.drop_take]
      congr 1; omega
    have e1 : ((i : Int) - 2).toNat = i - 2 := by omega
    have e2 : ((i : Int) + 4).toNat = i + 4 := by omega
    have hn2 : ¬ List.drop (i - 2) (List.take (i + 4) out) = [13, 10, 50, 50, 48, 32] := by rw [hsl]; exact hn
    have hl2 : (i : Int) + 4 ≤ (out.length : Int) := by omega
    have hh := And.intro e1 (And.intro e2 (And.intro hn2 hl2))
    repeat' (first | refine go ?_ | (refine br (fun hc => ?_) (fun hc => ?_) <;> try (exfalso; omega)) | fail)
    exact again (i + 1) ⟨by omega, by omega⟩ (by omega)
  · have hl2 : ¬ (i : Int) + 4 ≤ (out.length : Int) := by omega
    have hh := hl2
    repeat' (first | refine go ?_ | (refine br (fun hc => ?_) (fun hc => ?_) <;> try (exfalso; omega)) | fail)
    exact .junkd ⟨rfl, rfl⟩
end Go.Ab.Tryz
