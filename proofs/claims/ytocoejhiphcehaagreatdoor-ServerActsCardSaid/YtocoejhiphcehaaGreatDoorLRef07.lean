/- Walks: the reference for paths. -/
import Derived.Test.YtocoejhiphcehaaGreatDoorLHeadA
set_option linter.unusedSimpArgs false
set_option linter.unusedVariables false
set_option maxHeartbeats 2000000
set_option maxRecDepth 4000
namespace Go.Ab.Tryz
open Go Go.Ab Go.Proofs
attribute [local irreducible] W Wl Wop TrA WSeq WLoopS FPost DPost RPost WRound DK onEnd
variable {n0 : Nat} {w0 : World} {gl : Nat → List AV} {H : List AO}

instance ref_last_t (s : List UInt8) (c : UInt8) : Ctr (env n0 w0 gl) 42 [.str s, .int .u8 c.toNat] H (s.length ≤ 9223372036854775807) (.int .i64 (lastAt c s s.length)) H := .of fun hs => by
  refine enter (md := fun _ => 0) Tryz.func42 (fun hfit hgl => ?_)
  repeat' (first | refine go ?_ | (refine br (fun hc => ?_) (fun hc => ?_) <;> try (exfalso; omega)) | fail)
  refine loop (fun n : Nat => (.str s :: .int .u8 c.toNat :: .top :: .top :: .int .i64 0 :: .int .i64 ((n : Int) - 1) :: .top :: .top :: .top :: .top :: .top :: .top :: .top :: .top :: .top :: .top :: .top :: .top :: .top :: [])) (fun _ => H) (fun n => n ≤ s.length ∧ lastAt c s s.length = lastAt c s n) (fun n => n) s.length ⟨Nat.le_refl _, rfl⟩ ?_
  rintro n ⟨hn, hl⟩
  repeat' (first | refine go ?_ | (refine br (fun hc => ?_) (fun hc => ?_) <;> try (exfalso; omega)) | fail)
  all_goals first
    | (refine again (n - 1) ⟨by omega, ?_⟩ (by omega) (.fgt (by repeat (first | exact fgt_nil | refine fgt_top ?_ | refine fgt_same rfl ?_ | refine fgt_same (by congr 1; omega) ?_)))
       rw [hl, lastAt_miss (c := c) (s := s) (n := n) (by omega) (by omega)])
    | (refine .now ⟨?_, rfl⟩
       rw [hl]
       by_cases h0 : n = 0
       · subst h0; rfl
       · first | (exfalso; omega) | rw [lastAt_hit (c := c) (s := s) (n := n) (by omega) (by omega)])

instance ref_last64_t (s : List UInt8) : Ctr (env n0 w0 gl) 42 [.str s, .int .u8 64] H (s.length ≤ 9223372036854775807) (.int .i64 (lastAt 64 s s.length)) H := ref_last_t s 64

instance ref_letter_t (c : UInt8) : Ctr (env n0 w0 gl) 35 [.int .u8 c.toNat] H True (.bool (tf (kindN c = 2))) H := .of fun _ => by
  refine enter (md := fun _ => 0) Tryz.func35 (fun hfit hgl => ?_)
  repeat' (first | refine go ?_ | (refine br (fun hc => ?_) (fun hc => ?_) <;> try (exfalso; omega)) | fail)
  all_goals refine .now ⟨?_, rfl⟩
  all_goals first
    | (rw [tf_true (p := kindN c = 2) (by rw [kind2_iff]; omega)]; done)
    | (rw [tf_false (p := kindN c = 2) (by rw [kind2_iff]; omega)]; done)
    | (rw [tf_decide, tf_congr (q := kindN c = 2) (by rw [kind2_iff]; omega)])

instance ref_atom_t (c : UInt8) : Ctr (env n0 w0 gl) 43 [.int .u8 c.toNat] H True (.bool (tf (kindN c ≠ 0))) H := .of fun _ => by
  refine enter (md := fun _ => 0) Tryz.func43 (fun hfit hgl => ?_)
  repeat' (first | refine go ?_ | (refine br (fun hc => ?_) (fun hc => ?_) <;> try (exfalso; omega)) | fail)
  all_goals refine .now ⟨?_, rfl⟩
  all_goals first
    | (rw [tf_true (p := kindN c ≠ 0) (by rw [kind0_iff]; right; omega)]; done)
    | (rw [tf_true (p := kindN c ≠ 0) (by rw [kind0_iff]; left; exact tf_iff.1 (by assumption))]; done)
    | (rw [tf_false (p := kindN c ≠ 0) (by rw [kind0_iff]; rintro (h | h); · exact tf_not_iff.1 (by assumption) h
                                           omega)]; done)

instance ref_parts_t (s : List UInt8) : Ctr (env n0 w0 gl) 34 [.str s] H (s.length ≤ 1000) (.sl (parts 46 s).length ((parts 46 s).map .str) .ro) H := .of fun hs => by
  refine enter (md := fun _ => 0) Tryz.func34 (fun hfit hgl => ?_)
  repeat' (first | refine go ?_ | (refine br (fun hc => ?_) (fun hc => ?_) <;> try (exfalso; omega)) | fail)
  refine loop (fun j : Nat × Nat × List (List UInt8) => (.str s :: .top :: .top :: .sl j.2.2.length (j.2.2.map .str) (if j.2.2.length = 0 then .full else .at H.length j.2.2.length) :: .int .i64 (j.2.1 : Int) :: .int .i64 (j.1 : Int) :: .top :: .top :: .top :: .top :: .top :: .top :: .top :: .top :: .top :: .top :: .top :: .top :: .top :: .top :: .top :: .top :: .top :: .top :: .top :: .top :: .top :: .top :: .top :: .top :: .top :: .top :: [])) (fun j => if j.2.2.length = 0 then H else H ++ [.tail 1 j.2.2.length])
    (fun j => j.1 ≤ s.length + 1 ∧ j.2.2.length ≤ j.1 ∧ (j.1 ≤ s.length → j.2.1 ≤ j.1 ∧ parts 46 (s.take j.1) = j.2.2 ++ [(s.take j.1).drop j.2.1]) ∧ (j.1 = s.length + 1 → j.2.2 = parts 46 s)) (fun j => s.length + 1 - j.1) (0, 0, []) ⟨by omega, by simp, fun _ => ⟨by simp, by simp [parts]⟩, fun h => by simp at h⟩ ?_ (.fgt (by repeat (first | exact fgt_nil | refine fgt_top ?_ | refine fgt_same rfl ?_ | refine fgt_same (by simp) ?_)))
  rintro ⟨i, at_, out⟩ ⟨hi, ho, hin, hend⟩
  simp only at hi ho hin hend
  rcases out with _ | ⟨q, qs⟩
  · simp only [List.length_nil, if_true, List.map_nil]
    repeat' (first | refine go ?_ | (refine br (fun hc => ?_) (fun hc => ?_) <;> try (exfalso; omega)) | fail)
    · refine againE (i + 1, i + 1, [(s.take i).drop at_]) ⟨by simp only; omega, by simp, fun h => ?_, fun _ => ?_⟩ (by simp only; omega) (by simp)
      · simp only at h; omega
      · have := (hin (by omega)).2
        obtain rfl : i = s.length := by omega
        rw [List.take_length] at this ⊢
        exact this.symm
    · refine againE (i + 1, i + 1, [(s.take i).drop at_]) ⟨by simp only; omega, by simp, fun h => ⟨Nat.le_refl _, ?_⟩, fun h => ?_⟩ (by simp only; omega) (by simp)
      · exact parts_dot (by omega) (hin (by omega)).2 (by show (s.getD i 0).toNat = 46; omega)
      · simp only at h; omega
    · refine againE (i + 1, at_, []) ⟨by simp only; omega, by simp, fun h => ⟨by have := (hin (by omega)).1; simp only; omega, ?_⟩, fun h => ?_⟩ (by simp only; omega) (by simp)
      · exact parts_other (by omega) (hin (by omega)).1 (hin (by omega)).2 (by show ¬ (s.getD i 0).toNat = 46; omega)
      · simp only at h; omega
    · exfalso
      have := hend (by omega)
      exact parts_ne 46 s this.symm
  · simp only [List.length_cons, Nat.add_eq_zero_iff, Nat.one_ne_zero, and_false, if_false]
    simp only [List.length_cons] at ho
    repeat' (first | refine go ?_ | (refine br (fun hc => ?_) (fun hc => ?_) <;> try (exfalso; omega)) | fail)
    · refine againE (i + 1, i + 1, (q :: qs) ++ [(s.take i).drop at_]) ⟨by simp only; omega, by simp; omega, fun h => ?_, fun _ => ?_⟩ (by simp only; omega) (by simp)
      · simp only at h; omega
      · have := (hin (by omega)).2
        obtain rfl : i = s.length := by omega
        rw [List.take_length] at this ⊢
        exact this.symm
    · refine againE (i + 1, i + 1, (q :: qs) ++ [(s.take i).drop at_]) ⟨by simp only; omega, by simp; omega, fun h => ⟨Nat.le_refl _, ?_⟩, fun h => ?_⟩ (by simp only; omega) (by simp)
      · exact parts_dot (by omega) (hin (by omega)).2 (by show (s.getD i 0).toNat = 46; omega)
      · simp only at h; omega
    · refine againE (i + 1, at_, q :: qs) ⟨by simp only; omega, by simp; omega, fun h => ⟨by have := (hin (by omega)).1; simp only; omega, ?_⟩, fun h => ?_⟩ (by simp only; omega) (by simp)
      · exact parts_other (by omega) (hin (by omega)).1 (hin (by omega)).2 (by show ¬ (s.getD i 0).toNat = 46; omega)
      · simp only at h; omega
    · have := hend (by omega)
      refine Out.weak (fun g c h => sl_ro g c h) (Out.junk _ hfit ?_ ⟨?_, rfl⟩)
      · simp [AE.within, AV.within, belowL, belowL_strs]
      · rw [← this]; simp

instance ref_domain_t (s : List UInt8) : Ctr (env n0 w0 gl) 23 [.str s] H (s.length ≤ 9223372036854775807) (.bool (tf (DomainOk s))) H := .of fun hs => by
  refine enter (md := fun _ => 0) Tryz.func23 (fun hfit hgl => ?_)
  repeat' (first | refine go ?_ | (refine br (fun hc => ?_) (fun hc => ?_) <;> try (exfalso; omega)) | fail)
  all_goals try (refine .now ⟨?_, rfl⟩; first | (rw [tf_false (p := DomainOk s) (fun h => by have := h.2; omega)]; done) | (rw [tf_false (p := DomainOk s) (fun h => by obtain rfl : s = [] := List.length_eq_zero_iff.1 (by omega); have := (h.1 [] (by simp [parts])).1; simp at this)]; done))
  refine loop0 (fun j : Nat => (.top :: .top :: .top :: .top :: .top :: .top :: .top :: .top :: .top :: .top :: .top :: .top :: .top :: .top :: .top :: .sl (parts 46 s).length ((parts 46 s).map .str) .ro :: .int .i64 (parts 46 s).length :: .int .i64 (j : Int) :: .top :: .top :: .top :: .top :: .top :: .top :: .top :: .top :: .top :: .top :: .top :: .top :: .top :: .top :: .top :: .top :: .top :: .top :: .top :: .top :: .top :: .top :: .top :: .top :: .top :: .top :: .top :: .top :: .top :: .top :: .top :: .top :: .top :: .top :: .top :: .top :: .top :: .top :: .top :: .top :: .top :: .top :: [])) (fun j => j ≤ (parts 46 s).length ∧ ∀ k, k < j → LabelOk ((parts 46 s).getD k [])) (fun j => (parts 46 s).length - j) 0 ⟨Nat.zero_le _, fun k h => absurd h (Nat.not_lt_zero _)⟩ ?_
  rintro j ⟨hj, hall⟩
  have hno : j < (parts 46 s).length → ¬ LabelOk ((parts 46 s).getD j []) → tf (DomainOk s) = false := fun h1 h2 => tf_false fun h => h2 (parts_all.1 h.1 j h1)
  have hlp : j < (parts 46 s).length → ((parts 46 s).getD j []).length ≤ s.length := parts_getD_len
  have hn : (parts 46 s).length ≤ 1000 := by have := parts_count 46 s; omega
  repeat' (first | refine go ?_ | (refine br (fun hc => ?_) (fun hc => ?_) <;> try (exfalso; omega)) | fail)
  all_goals try (refine .now ⟨?_, rfl⟩; rw [hno (by omega) (by rintro ⟨h1, h2, h3, h4, h5⟩; omega)]; done)
  all_goals try (refine .now ⟨?_, rfl⟩; rw [tf_true (p := DomainOk s) ⟨parts_all.2 (fun k hk => hall k (by omega)), by omega⟩]; done)
  refine loop0 (fun i : Nat => (.top :: .top :: .top :: .top :: .str ((parts 46 s).getD j []) :: .int .i64 (i : Int) :: .top :: .top :: .top :: .top :: .top :: .top :: .top :: .top :: .top :: .sl (parts 46 s).length ((parts 46 s).map .str) .ro :: .int .i64 (parts 46 s).length :: .int .i64 (j : Int) :: .top :: .top :: .top :: .top :: .top :: .top :: .top :: .top :: .top :: .top :: .top :: .top :: .top :: .top :: .top :: .top :: .top :: .top :: .top :: .top :: .top :: .top :: .top :: .top :: .top :: .top :: .top :: .top :: .top :: .top :: .top :: .top :: .top :: .top :: .top :: .top :: .top :: .top :: .top :: .top :: .top :: .top :: [])) (fun i => i ≤ ((parts 46 s).getD j []).length ∧ ∀ k, k < i → kindN (((parts 46 s).getD j []).getD k 0) = 2 ∨ (((parts 46 s).getD j []).getD k 0).toNat = 45) (fun i => ((parts 46 s).getD j []).length - i) 0 ⟨Nat.zero_le _, fun k h => absurd h (Nat.not_lt_zero _)⟩ ?_
  rintro i ⟨hi, hin⟩
  have hlp' := hlp (by omega)
  repeat' (first | refine go ?_ | (refine br (fun hc => ?_) (fun hc => ?_) <;> try (exfalso; omega)) | fail)
  all_goals first
    | (refine again (i + 1) ⟨by omega, fun k hk => ?_⟩
       rcases Nat.lt_succ_iff_lt_or_eq.1 hk with h | h
       · exact hin k h
       · subst h; first | exact .inl (tf_iff.1 (by assumption)) | exact .inr (by omega))
    | (refine .now ⟨?_, rfl⟩
       rw [hno (by omega) (by
         rintro ⟨h1, h2, h3, h4, h5⟩
         rcases h5 i (by omega) with h | h
         · exact tf_not_iff.1 (by assumption) h
         · omega)])
    | (refine again (j + 1) ⟨by omega, fun k hk => ?_⟩
       rcases Nat.lt_succ_iff_lt_or_eq.1 hk with h | h
       · exact hall k h
       · subst h; exact ⟨by omega, by omega, by omega, by omega, fun k hk => hin k (by omega)⟩)

instance ref_mailbox_t (s : List UInt8) : Ctr (env n0 w0 gl) 31 [.str s] H (s.length ≤ 9223372036854775807) (.bool (tf (MailboxOk s))) H := .of fun hs => by
  rcases lastAt_cases 64 s s.length with h | ⟨k, hk, h⟩
  · have hh := h
    refine enter (md := fun _ => 0) Tryz.func31 (fun hfit hgl => ?_)
    repeat' (first | refine go ?_ | (refine br (fun hc => ?_) (fun hc => ?_) <;> try (exfalso; omega)) | fail)
    refine .now ⟨?_, rfl⟩
    rw [tf_false]
    rintro ⟨k, h1, _⟩
    omega
  · have hh := h
    have hno : ¬ (1 ≤ k ∧ k ≤ 64 ∧ DomainOk (s.drop (k + 1)) ∧ ∀ p ∈ parts 46 (s.take k), AtomOk p) → ¬ MailboxOk s := by
      rintro h1 ⟨k', h2, h3⟩
      obtain rfl : k = k' := by omega
      exact h1 h3
    refine enter (md := fun _ => 0) Tryz.func31 (fun hfit hgl => ?_)
    repeat' (first | refine go ?_ | (refine br (fun hc => ?_) (fun hc => ?_) <;> try (exfalso; omega)) | fail)
    all_goals try (refine .now ⟨?_, rfl⟩; rw [tf_false (hno (fun h => by first | omega | exact tf_not_iff.1 (by assumption) h.2.2.1))]; done)
    have hdom := tf_iff.1 hc
    have hlt : (s.take k).length ≤ 64 := by simp; omega
    clear hh
    generalize hT : s.take k = T at *
    have hcount : (parts 46 T).length ≤ 1000 := by have := parts_count 46 T; omega
    refine loop0 (fun j : Nat => (.top :: .top :: .top :: .top :: .top :: .top :: .top :: .top :: .top :: .top :: .top :: .top :: .top :: .top :: .top :: .top :: .top :: .top :: .top :: .top :: .top :: .top :: .top :: .top :: .top :: .top :: .sl (parts 46 T).length ((parts 46 T).map .str) .ro :: .int .i64 (parts 46 T).length :: .int .i64 (j : Int) :: .top :: .top :: .top :: .top :: .top :: .top :: .top :: .top :: .top :: .top :: .top :: .top :: .top :: .top :: .top :: .top :: .top :: [])) (fun j => j ≤ (parts 46 T).length ∧ ∀ k, k < j → AtomOk ((parts 46 T).getD k [])) (fun j => (parts 46 T).length - j) 0 ⟨Nat.zero_le _, fun k h => absurd h (Nat.not_lt_zero _)⟩ ?_
    rintro j ⟨hj, hall⟩
    have hnoj : j < (parts 46 T).length → ¬ AtomOk ((parts 46 T).getD j []) → tf (MailboxOk s) = false := fun h1 h2 => tf_false (hno fun h => h2 (parts_all.1 h.2.2.2 j h1))
    have hlp : j < (parts 46 T).length → ((parts 46 T).getD j []).length ≤ T.length := parts_getD_len
    repeat' (first | refine go ?_ | (refine br (fun hc => ?_) (fun hc => ?_) <;> try (exfalso; omega)) | fail)
    all_goals try (refine .now ⟨?_, rfl⟩; rw [hnoj (by omega) (by rintro ⟨h1, h2⟩; omega)]; done)
    all_goals try (refine .now ⟨?_, rfl⟩; rw [tf_true (p := MailboxOk s) ⟨k, h, by omega, by omega, hdom, by rw [hT]; exact parts_all.2 (fun k hk => hall k (by omega))⟩]; done)
    refine loop0 (fun i : Nat => (.top :: .top :: .top :: .top :: .top :: .str ((parts 46 T).getD j []) :: .int .i64 (i : Int) :: .top :: .top :: .top :: .top :: .top :: .top :: .top :: .top :: .top :: .top :: .top :: .top :: .top :: .top :: .top :: .top :: .top :: .top :: .top :: .sl (parts 46 T).length ((parts 46 T).map .str) .ro :: .int .i64 (parts 46 T).length :: .int .i64 (j : Int) :: .top :: .top :: .top :: .top :: .top :: .top :: .top :: .top :: .top :: .top :: .top :: .top :: .top :: .top :: .top :: .top :: .top :: [])) (fun i => i ≤ ((parts 46 T).getD j []).length ∧ ∀ k, k < i → kindN (((parts 46 T).getD j []).getD k 0) ≠ 0) (fun i => ((parts 46 T).getD j []).length - i) 0 ⟨Nat.zero_le _, fun k h => absurd h (Nat.not_lt_zero _)⟩ ?_
    rintro i ⟨hi, hin⟩
    have hlp' := hlp (by omega)
    repeat' (first | refine go ?_ | (refine br (fun hc => ?_) (fun hc => ?_) <;> try (exfalso; omega)) | fail)
    all_goals first
      | (refine again (i + 1) ⟨by omega, fun k hk => ?_⟩
         rcases Nat.lt_succ_iff_lt_or_eq.1 hk with h | h
         · exact hin k h
         · subst h; exact tf_iff.1 (by assumption))
      | (refine .now ⟨?_, rfl⟩
         rw [hnoj (by omega) (by
           rintro ⟨h1, h2⟩
           exact tf_not_iff.1 (by assumption) (h1 i (by omega)))])
      | (refine again (j + 1) ⟨by omega, fun k hk => ?_⟩
         rcases Nat.lt_succ_iff_lt_or_eq.1 hk with h | h
         · exact hall k h
         · subst h; exact ⟨fun k hk => hin k (by omega), by omega⟩)

end Go.Ab.Tryz
