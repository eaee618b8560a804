/- Walks: the laws on mailbox files. -/
import Derived.Test.YtpdjgbpmlckepaaDoorLMbox5
set_option linter.unusedSimpArgs false
set_option linter.unusedVariables false
set_option maxHeartbeats 4000000
set_option maxRecDepth 4000
namespace Go.Ab
open Go Go.RowKit
/-- A contract holds where less is known of its arguments. -/
theorem ACall.args {E : Env} {f : FuncId} {a b : List AV} {H : List AO} {R : AE → List AO → Prop} (k : ACall E f a H R) (h : ∀ g cs, VRels g b cs → VRels g a cs) : ACall E f b H R := fun g w cs hr hv => k g w cs hr (h g cs hv)
theorem rels_ro1 {g : Ghost} {n : Nat} {xs : List AV} {tok : Tok} {cs : Array Value} (h : VRels g [.sl n xs tok] cs) : VRels g [.sl n xs .ro] cs := ⟨h.1, fun i => match i with
  | 0 => sl_ro g _ (h.2 0)
  | i + 1 => .top _⟩
end Go.Ab
namespace Go.Ab.Tryd
open Go Go.Ab Go.Proofs
attribute [local irreducible] W Wl Wop TrA WSeq WLoopS FPost DPost RPost WRound DK onEnd
attribute [local simp] belowL_bytesAV
variable {n0 : Nat} {w0 : World} {gl : Nat → List AV} {H : List AO}

theorem awake10_e [ht : Tab10 n0 w0] : AEnter (env n0 w0 gl) 19 [] H (fun y H' => y = .ret (.bool true) ∧ H' = H) := by
  have hE : ∀ H tok, Ctr (env n0 w0 gl) 26 [.sl 1 [.str [97, 64, 98], .int .i64 5, .sl 7 [.int .u8 70, .int .u8 114, .int .u8 111, .int .u8 109, .int .u8 32, .int .u8 120, .int .u8 10] .ro] tok] H True (.tup [.sl 20 (bytesAV [70, 114, 111, 109, 32, 97, 64, 98, 32, 53, 10, 62, 70, 114, 111, 109, 32, 120, 10, 10]) .ro, .int .i64 0]) H := fun H tok => ⟨fun _ => by
    have hok : ∀ x ∈ ([⟨[97, 64, 98], 5, [70, 114, 111, 109, 32, 120, 10]⟩] : List Ltr), x.Ok := by
      intro x hx
      simp only [List.mem_singleton] at hx; subst hx
      exact ⟨.inr mail_ab, by decide, .inr (by decide)⟩
    have hsh : showM [⟨[97, 64, 98], 5, [70, 114, 111, 109, 32, 120, 10]⟩] = [70, 114, 111, 109, 32, 97, 64, 98, 32, 53, 10, 62, 70, 114, 111, 109, 32, 120, 10, 10] := by decide +kernel
    have := (export_t (n0 := n0) (w0 := w0) (gl := gl) (H := H) [⟨[97, 64, 98], 5, [70, 114, 111, 109, 32, 120, 10]⟩]).call ⟨by decide, fun x hx => by
      simp only [List.mem_singleton] at hx; subst hx
      exact ⟨by decide, by decide, by decide⟩⟩
    unfold exportV at this
    rw [tf_true hok, hsh] at this
    exact this.args fun g cs h => rels_ro1 h⟩
  refine enter (md := fun t => if t = 4 then 2 else 0) Tryd.func19 (fun hfit hgl => ?_)
  repeat' (first | refine go ?_ | (refine br (fun hc => ?_) (fun hc => ?_) <;> try (exfalso; omega)) | fail)
  exact .junkd ⟨rfl, rfl⟩
instance awake10_t [ht : Tab10 n0 w0] : Ctr (env n0 w0 gl) 19 [] H True (.bool true) H := .of fun _ => awake10_e

/-- What a letter's parts are at most. -/
def Ltr.Big (x : Ltr) : Prop := x.fro.length ≤ 9223372036854775807 ∧ x.body.length ≤ 9223372036854775807 ∧ -9223372036854775808 ≤ x.at_ ∧ x.at_ ≤ 9223372036854775807
/-- Few letters, and short ones. -/
def LFew (l : List Ltr) : Prop := l.length ≤ 20 ∧ ∀ k, k < l.length → (l.getD k default).fro.length ≤ 300 ∧ (l.getD k default).body.length ≤ 500
theorem few10_e (l : List Ltr) (hl : l.length ≤ 9223372036854775807) (hb : ∀ x ∈ l, x.Big) : AEnter (env n0 w0 gl) 23 [.sl l.length (ltrAV l) .ro] H (fun y H' => y = .ret (.bool (tf (LFew l))) ∧ H' = H) := by
  have hfl := ltrAV_len l
  by_cases h20 : l.length ≤ 20
  · refine enter (md := fun _ => 0) Tryd.func23 (fun hfit hgl => ?_)
    repeat' (first | refine go ?_ | (refine br (fun hc => ?_) (fun hc => ?_) <;> try (exfalso; omega)) | fail)
    refine loop (fun i : Nat => (.sl l.length (ltrAV l) .ro :: .top :: .bool false :: .top :: .top :: .top :: .top :: .top :: .sl l.length (ltrAV l) .ro :: .int .i64 l.length :: .int .i64 (i : Int) :: .top :: .top :: .top :: .top :: .top :: .top :: .top :: .top :: .top :: .top :: .top :: .top :: .top :: .top :: [])) (fun i => H) (fun i => i ≤ l.length ∧ ∀ k, k < i → (l.getD k default).fro.length ≤ 300 ∧ (l.getD k default).body.length ≤ 500) (fun i => l.length - i) 0 ⟨Nat.zero_le _, fun k h => absurd h (Nat.not_lt_zero _)⟩ ?_
    rintro i ⟨hi, hall⟩
    by_cases hlt : i < l.length
    · have hat := ltrAV_at hlt
      have hmem : l.getD i default ∈ l := by rw [List.getD_eq_getElem?_getD, List.getElem?_eq_getElem hlt]; exact List.getElem_mem _
      have hbx := hb _ hmem
      have hno : ¬ ((l.getD i default).fro.length ≤ 300 ∧ (l.getD i default).body.length ≤ 500) → ¬ LFew l := fun h hh => h (hh.2 i hlt)
      have hyes : ((l.getD i default).fro.length ≤ 300 ∧ (l.getD i default).body.length ≤ 500) → ∀ k, k < i + 1 → (l.getD k default).fro.length ≤ 300 ∧ (l.getD k default).body.length ≤ 500 := fun h k hk => by
        rcases Nat.lt_succ_iff_lt_or_eq.1 hk with h1 | h1
        · exact hall k h1
        · subst h1; exact h
      generalize l.getD i default = x at *
      obtain ⟨fro, a, body⟩ := x
      obtain ⟨b1, b2, b3, b4⟩ := hbx
      simp only [Ltr.cells] at hat
      simp only at hno hyes b1 b2
      have hh := And.intro hfl hat
      repeat' (first | refine go ?_ | (refine br (fun hc => ?_) (fun hc => ?_) <;> try (exfalso; omega)) | fail)
      all_goals first
        | (rw [tf_false (hno (by omega))]; exact .junkd ⟨rfl, rfl⟩)
        | exact again (i + 1) ⟨by omega, hyes (by omega)⟩
    · obtain rfl : i = l.length := by omega
      rw [tf_true (p := LFew l) ⟨h20, hall⟩]
      repeat' (first | refine go ?_ | (refine br (fun hc => ?_) (fun hc => ?_) <;> try (exfalso; omega)) | fail)
      exact .now ⟨rfl, rfl⟩
  · rw [tf_false (p := LFew l) (fun h => h20 h.1)]
    refine enter (md := fun _ => 0) Tryd.func23 (fun hfit hgl => ?_)
    repeat' (first | refine go ?_ | (refine br (fun hc => ?_) (fun hc => ?_) <;> try (exfalso; omega)) | fail)
    exact .now ⟨rfl, rfl⟩

theorem small_of_few {l : List Ltr} (hb : ∀ x ∈ l, x.Big) (h : LFew l) : ∀ x ∈ l, x.Small := fun x hx => by
  obtain ⟨k, hk, rfl⟩ := List.getElem_of_mem hx
  have := h.2 k hk
  rw [List.getD_eq_getElem?_getD, List.getElem?_eq_getElem hk] at this
  simp only [Option.getD_some] at this
  exact ⟨by omega, by omega, (hb _ hx).2.2.2⟩

theorem exportV_cases (l : List Ltr) : ∃ x tok e, exportV l = .tup [.sl (List.length x) (bytesAV x) tok, .int .i64 e] ∧ (e = 0 → x = showM l ∧ tok = .ro ∧ ∀ y ∈ l, y.Ok) ∧ (e ≠ 0 → x = []) := by
  unfold exportV
  by_cases h : ∀ x ∈ l, x.Ok
  · rw [tf_true h]; exact ⟨_, .ro, 0, rfl, fun _ => ⟨rfl, rfl, h⟩, fun h => absurd rfl h⟩
  · rw [tf_false h]; exact ⟨[], .full, 100, rfl, fun h => by omega, fun _ => rfl⟩

end Go.Ab.Tryd
