/- Walks: the law on who is told. -/
import Derived.Test.YtadghefkbjacjaaGreatDoorLBncA
import Derived.Test.YtadghefkbjacjaaGreatDoorLRefCheck
set_option linter.unusedSimpArgs false
set_option linter.unusedVariables false
set_option maxHeartbeats 4000000
set_option maxRecDepth 4000
namespace Go.Ab.Tryz
open Go Go.Ab Go.Proofs
attribute [local irreducible] W Wl Wop TrA WSeq WLoopS FPost DPost RPost WRound DK onEnd
variable {n0 : Nat} {w0 : World} {gl : Nat → List AV} {H : List AO}
attribute [local simp] belowL_bytesAV belowL_strsM

instance mailbox23_t (s : List UInt8) : Ctr (env n0 w0 gl) 39 [.str s] H (s.length ≤ 9223372036854775807) (.bool (tf (MailboxOk s))) H := .of fun hs => by
  refine enter (md := fun _ => 0) Tryz.func39 (fun hfit hgl => ?_)
  repeat' (first | refine go ?_ | (refine br (fun hc => ?_) (fun hc => ?_) <;> try (exfalso; omega)) | fail)
  exact .now ⟨rfl, rfl⟩

theorem mailbox_nil : ¬ MailboxOk [] := by
  rintro ⟨k, h, _⟩
  simp [lastAt] at h
theorem mail_cd : MailboxOk [99, 64, 100] := by
  refine ⟨1, rfl, by omega, by omega, ⟨?_, by simp⟩, ?_⟩
  · intro p hp
    simp [parts] at hp
    subst hp
    refine ⟨by simp, by simp, by simp, by simp, fun i hi => ?_⟩
    obtain rfl : i = 0 := by simp at hi; omega
    left; decide
  · intro p hp
    simp [parts] at hp
    subst hp
    refine ⟨fun i hi => ?_, by simp⟩
    obtain rfl : i = 0 := by simp at hi; omega
    decide
theorem domain_h : DomainOk [104] := by
  refine ⟨?_, by simp⟩
  intro p hp
  simp [parts] at hp
  subst hp
  refine ⟨by simp, by simp, by simp, by simp, fun i hi => ?_⟩
  obtain rfl : i = 0 := by simp at hi; omega
  left; decide

theorem rels_make {g : Ghost} {host fro : List UInt8} {now : Int} {n m : Nat} {xs ys : List AV} {a : AV} {tok tok2 : Tok} {cs : Array Value} (h : VRels g [.str host, .int .i64 now, .agg [.str fro, .sl n xs tok, a], .sl m ys tok2] cs) : VRels g [.str host, .int .i64 now, .agg [.str fro, .sl n xs .ro, a], .sl m ys .ro] cs := ⟨h.1, fun i => match i with
  | 0 => h.2 0
  | 1 => h.2 1
  | 2 => by
    have := h.2 2
    simp only [List.getD_cons_zero, List.getD_cons_succ] at this ⊢
    generalize cs.getD 2 undef = c at this
    cases this with
    | agg _ cs2 hl hv => exact .agg _ _ hl (fun j => match j with
      | 0 => hv 0
      | 1 => sl_ro g _ (hv 1)
      | 2 => hv 2
      | j + 3 => .top _)
  | 3 => sl_ro g _ (h.2 3)
  | i + 4 => .top _⟩

theorem bnc_len : 20 < (bncH [104] [97, 64, 98] ++ toldS [⟨0, [99, 64, 100], 3, 0, 0, 550⟩]).length := by
  have : 20 < (bncH [104] [97, 64, 98]).length := by decide +kernel
  rw [List.length_append]; omega
theorem told_cd : toldS [⟨0, [99, 64, 100], 3, 0, 0, 550⟩] ≠ [] := by
  intro h
  have := congrArg List.length h
  simp only [toldS, List.flatMap_cons, List.flatMap_nil, List.append_nil, JobA.told] at this
  rw [tf_true (p := JobA.Told ⟨0, [99, 64, 100], 3, 0, 0, 550⟩) ⟨rfl, mail_cd⟩] at this
  simp at this

theorem awake23_e [ht : Tab10 n0 w0] : AEnter (env n0 w0 gl) 33 [] H (fun y H' => y = .ret (.bool true) ∧ H' = H) := by
  have hA : ∀ H tok tok2, Ctr (env n0 w0 gl) 38 [.str [104], .int .i64 0, .agg [.str [], .sl 0 [] tok, .int .i64 0], .sl 0 [] tok2] H True (.tup [.agg [.str [], .sl 0 [] .full, .int .i64 0], .sl 0 [] .full, .bool false]) H := fun H tok tok2 => ⟨fun _ => by
    have := (make_e (n0 := n0) (w0 := w0) (gl := gl) (H := H) [104] 0 [] [] 0 [] (by decide) (by decide) (by decide) (by simp)).call
    rw [show makeV [104] 0 [] [] = .tup [.agg [.str [], .sl 0 [] .full, .int .i64 0], .sl 0 [] .full, .bool false] from by
      unfold makeV; rw [tf_false (fun h => mailbox_nil h.1.1)]; rfl] at this
    exact this.weaker fun g cs h => rels_make h⟩
  have hB : ∀ H tok tok2, Ctr (env n0 w0 gl) 38 [.str [104], .int .i64 5, .agg [.str [97, 64, 98], .sl 0 [] tok, .int .i64 0], .sl 1 [.int .i64 0, .str [99, 64, 100], .int .i64 3, .int .i64 0, .int .i64 0, .int .i64 550] tok2] H True
      (.tup [.agg [.str [], .sl 1 [.str [97, 64, 98]] .full, .int .i64 5], .sl (bncH [104] [97, 64, 98] ++ toldS [⟨0, [99, 64, 100], 3, 0, 0, 550⟩]).length (bytesAV (bncH [104] [97, 64, 98] ++ toldS [⟨0, [99, 64, 100], 3, 0, 0, 550⟩])) .ro, .bool true]) H := fun H tok tok2 => ⟨fun _ => by
    have := (make_e (n0 := n0) (w0 := w0) (gl := gl) (H := H) [104] 5 [97, 64, 98] [] 0 [⟨0, [99, 64, 100], 3, 0, 0, 550⟩] (by decide) (by decide) (by decide) (by
      intro x hx
      simp only [List.mem_singleton] at hx; subst hx
      exact ⟨⟨by decide, by decide, by decide⟩, by decide⟩)).call
    rw [show makeV [104] 5 [97, 64, 98] [⟨0, [99, 64, 100], 3, 0, 0, 550⟩] = .tup [.agg [.str [], .sl 1 [.str [97, 64, 98]] .full, .int .i64 5], .sl (bncH [104] [97, 64, 98] ++ toldS [⟨0, [99, 64, 100], 3, 0, 0, 550⟩]).length (bytesAV (bncH [104] [97, 64, 98] ++ toldS [⟨0, [99, 64, 100], 3, 0, 0, 550⟩])) .ro, .bool true] from by
      unfold makeV; rw [tf_true ⟨⟨mail_ab, domain_h, by decide⟩, told_cd⟩]; rfl] at this
    exact this.weaker fun g cs h => rels_make h⟩
  have hlen := bnc_len
  generalize bncH [104] [97, 64, 98] ++ toldS [⟨0, [99, 64, 100], 3, 0, 0, 550⟩] = r at *
  refine enter (md := fun _ => 0) Tryz.func33 (fun hfit hgl => ?_)
  repeat' (first | refine go ?_ | (refine br (fun hc => ?_) (fun hc => ?_) <;> try (exfalso; omega)) | fail)
  rw [decide_eq_true (by omega)]
  exact .junkd ⟨rfl, rfl⟩
instance awake23_t [ht : Tab10 n0 w0] : Ctr (env n0 w0 gl) 33 [] H True (.bool true) H := .of fun _ => awake23_e

/-- Few jobs, and short texts. -/
def JFew (host fro : List UInt8) (to : List (List UInt8)) (l : List JobA) : Prop := l.length ≤ 20 ∧ host.length ≤ 300 ∧ fro.length ≤ 300 ∧ to.length ≤ 20 ∧ ∀ k, k < l.length → (l.getD k default).rcpt.length ≤ 300
theorem few23_e (host fro : List UInt8) (to : List (List UInt8)) (a : Int) (l : List JobA) (h1 : host.length ≤ 9223372036854775807) (h : EnvBig fro to a) (hl : l.length ≤ 9223372036854775807) (hb : ∀ x ∈ l, x.Big) :
    AEnter (env n0 w0 gl) 37 [.str host, .agg [.str fro, .sl to.length (to.map .str) .ro, .int .i64 a], .sl l.length (jobAV l) .ro] H (fun y H' => y = .ret (.bool (tf (JFew host fro to l))) ∧ H' = H) := by
  obtain ⟨h2, h3, h4, h5⟩ := h
  have hfl := jobAV_len l
  refine enter (md := fun _ => 0) Tryz.func37 (fun hfit hgl => ?_)
  repeat' (first | refine go ?_ | (refine br (fun hc => ?_) (fun hc => ?_) <;> try (exfalso; omega)) | fail)
  all_goals try (rw [tf_false (p := JFew host fro to l) (by rintro ⟨q1, q2, q3, q4, q5⟩; omega)]; exact .junkd ⟨rfl, rfl⟩)
  refine loop (fun i : Nat => (.top :: .top :: .sl l.length (jobAV l) .ro :: .top :: .ref H.length 0 :: .top :: .bool false :: .top :: .top :: .top :: .top :: .top :: .top :: .top :: .top :: .top :: .top :: .top :: .top :: .top :: .top :: .top :: .top :: .top :: .top :: .top :: .top :: .top :: .top :: .sl l.length (jobAV l) .ro :: .int .i64 l.length :: .int .i64 (i : Int) :: .top :: .top :: .top :: .top :: .top :: .top :: .top :: .top :: [])) (fun i => H ++ [.cells [.str fro, .sl to.length (to.map .str) .ro, .int .i64 a]]) (fun i => i ≤ l.length ∧ ∀ k, k < i → (l.getD k default).rcpt.length ≤ 300) (fun i => l.length - i) 0 ⟨Nat.zero_le _, fun k h => absurd h (Nat.not_lt_zero _)⟩ ?_
  rintro i ⟨hi, hall⟩
  by_cases hlt : i < l.length
  · have hat := jobAV_at hlt
    have hmem : l.getD i default ∈ l := by rw [List.getD_eq_getElem?_getD, List.getElem?_eq_getElem hlt]; exact List.getElem_mem _
    have hbx := hb _ hmem
    have hno : ¬ (l.getD i default).rcpt.length ≤ 300 → ¬ JFew host fro to l := fun h hh => h (hh.2.2.2.2 i hlt)
    have hyes : (l.getD i default).rcpt.length ≤ 300 → ∀ k, k < i + 1 → (l.getD k default).rcpt.length ≤ 300 := fun h k hk => by
      rcases Nat.lt_succ_iff_lt_or_eq.1 hk with h1 | h1
      · exact hall k h1
      · subst h1; exact h
    generalize l.getD i default = x at *
    obtain ⟨id, rc, st, tr, nx, co⟩ := x
    obtain ⟨b1, b2, b3⟩ := hbx
    simp only [JobA.cells] at hat
    simp only at hno hyes b1
    have hh := And.intro hfl hat
    repeat' (first | refine go ?_ | (refine br (fun hc => ?_) (fun hc => ?_) <;> try (exfalso; omega)) | fail)
    all_goals first
      | (rw [tf_false (hno (by omega))]; exact .junkd ⟨rfl, rfl⟩)
      | exact againJ (i + 1) ⟨by omega, hyes (by omega)⟩ (by omega) [.cells [.int .i64 id, .str rc, .int .i64 st, .int .i64 tr, .int .i64 nx, .int .i64 co]] (by simp)
  · obtain rfl : i = l.length := by omega
    rw [tf_true (p := JFew host fro to l) ⟨by omega, by omega, by omega, by omega, hall⟩]
    repeat' (first | refine go ?_ | (refine br (fun hc => ?_) (fun hc => ?_) <;> try (exfalso; omega)) | fail)
    exact .junkd ⟨rfl, rfl⟩

/-- How many are told. -/
noncomputable def cntT (l : List JobA) : Nat := (l.filter fun x => tf x.Told).length
theorem cntT_take {l : List JobA} {i : Nat} (h : i < l.length) : cntT (l.take (i + 1)) = cntT (l.take i) + (if tf (l.getD i default).Told then 1 else 0) := by
  unfold cntT
  rw [List.take_succ_eq_append_getElem h, List.filter_append, List.length_append]
  simp only [List.getD_eq_getElem?_getD, List.getElem?_eq_getElem h, Option.getD_some]
  congr 1
  rw [List.filter_cons, List.filter_nil]
  split <;> simp
theorem cntT_le (l : List JobA) : cntT l ≤ l.length := List.length_filter_le ..
theorem told_iff (l : List JobA) : toldS l ≠ [] ↔ 0 < cntT l := by
  induction l with
  | nil => simp [toldS, cntT]
  | cons x l ih =>
    by_cases h : x.Told
    · have h1 : toldS (x :: l) ≠ [] := by
        simp only [toldS, List.flatMap_cons, JobA.told]
        rw [tf_true h]; simp
      have h2 : 0 < cntT (x :: l) := by unfold cntT; rw [List.filter_cons, if_pos (tf_true h)]; simp
      exact ⟨fun _ => h2, fun _ => h1⟩
    · have h1 : toldS (x :: l) = toldS l := by simp only [toldS, List.flatMap_cons, JobA.told]; rw [tf_false h]; simp
      have h2 : cntT (x :: l) = cntT l := by unfold cntT; rw [List.filter_cons, if_neg (by rw [tf_false h]; simp)]
      rw [h1, h2]; exact ih

end Go.Ab.Tryz
