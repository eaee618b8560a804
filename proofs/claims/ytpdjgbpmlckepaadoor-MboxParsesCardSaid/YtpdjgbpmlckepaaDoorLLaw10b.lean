/- Walks: the laws on mailbox files that are read. -/
import Derived.Test.YtpdjgbpmlckepaaDoorLLaw10
import Derived.Test.YtpdjgbpmlckepaaDoorLMbox9
set_option linter.unusedSimpArgs false
set_option linter.unusedVariables false
set_option maxHeartbeats 4000000
set_option maxRecDepth 4000
namespace Go.Ab.Tryd
open Go Go.Ab Go.Proofs
attribute [local irreducible] W Wl Wop TrA WSeq WLoopS FPost DPost RPost WRound DK onEnd
attribute [local simp] belowL_bytesAV belowL_ltrAV
variable {n0 : Nat} {w0 : World} {gl : Nat → List AV} {H : List AO}

theorem same10_e (l : List Ltr) (tok : Tok) (ht : tok = .ro ∨ l = []) (hl : l.length ≤ 9223372036854775807) (hb : ∀ x ∈ l, x.Big) : AEnter (env n0 w0 gl) 22 [.sl l.length (ltrAV l) tok, .sl l.length (ltrAV l) .ro] H (fun y H' => y = .ret (.bool true) ∧ H' = H) := by
  have hfl := ltrAV_len l
  refine enter (md := fun _ => 0) Tryd.func22 (fun hfit hgl => ?_)
  repeat' (first | refine go ?_ | (refine br (fun hc => ?_) (fun hc => ?_) <;> try (exfalso; omega)) | fail)
  refine loop0 (fun i : Nat => (.sl l.length (ltrAV l) tok :: .sl l.length (ltrAV l) .ro :: .top :: .top :: .bool false :: .top :: .top :: .top :: .top :: .top :: .top :: .top :: .int .i64 l.length :: .int .i64 (i : Int) :: .top :: .top :: .top :: .top :: .top :: .top :: .top :: .top :: .top :: .top :: .top :: .top :: .top :: .top :: .top :: .top :: .top :: .top :: .top :: .top :: .top :: .top :: .top :: .top :: .top :: .top :: .top :: .top :: .top :: .top :: .top :: .top :: .top :: .top :: .top :: .top :: .top :: .top :: .top :: .top :: .top :: .top :: [])) (fun i => i ≤ l.length) (fun i => l.length - i) 0 (Nat.zero_le _) ?_
  intro i hi
  by_cases hlt : i < l.length
  · obtain rfl : tok = .ro := ht.resolve_right (fun e => by rw [e] at hlt; simp at hlt)
    have hat := ltrAV_at hlt
    have hbx := hb (l.getD i default) (by rw [List.getD_eq_getElem?_getD, List.getElem?_eq_getElem hlt]; exact List.getElem_mem _)
    have hrow : List.drop (i * 3) (ltrAV l) = (l.getD i default).cells ++ List.drop (i * 3 + 3) (ltrAV l) := by
      have := (List.take_append_drop 3 (List.drop (i * 3) (ltrAV l))).symm
      rw [hat, List.drop_drop] at this
      first
        | exact this
        | (rw [Nat.add_comm 3] at this; exact this)
    generalize l.getD i default = x at *
    obtain ⟨f, n, bd⟩ := x
    obtain ⟨b1, b2, b3, b4⟩ := hbx
    simp only [Ltr.cells] at hat hrow
    simp only at b1 b2 b3 b4
    have hh := And.intro hfl hrow
    repeat' (first | refine go ?_ | (refine br (fun hc => ?_) (fun hc => ?_) <;> try (exfalso; omega)) | fail)
    exact again (i + 1) (by omega)
  · repeat' (first | refine go ?_ | (refine br (fun hc => ?_) (fun hc => ?_) <;> try (exfalso; omega)) | fail)
    exact .now ⟨rfl, rfl⟩

theorem show_len2 {x : Ltr} (h1 : x.fro.length ≤ 300) (h2 : x.body.length ≤ 500) (h0 : 0 ≤ x.at_) (h3 : x.at_ ≤ 9223372036854775807) : x.show.length ≤ 1400 := by
  have h4 := itoa_len h0 h3
  have h5 := quoteS_len x.body
  have h6 : (whoS x.fro).length ≤ 301 := by
    unfold whoS
    split
    · decide
    · omega
  simp only [Ltr.show, List.length_append, List.length_cons, List.length_nil, show fromB.length = 5 from rfl]
  omega
theorem showM_len2 : ∀ {l : List Ltr}, (∀ x ∈ l, x.fro.length ≤ 300 ∧ x.body.length ≤ 500 ∧ 0 ≤ x.at_ ∧ x.at_ ≤ 9223372036854775807) → (showM l).length ≤ l.length * 1400
  | [], _ => by simp [showM]
  | x :: l, h => by
    have ih := showM_len2 (l := l) (fun y hy => h y (by simp [hy]))
    have hx := h x (by simp)
    have := show_len2 hx.1 hx.2.1 hx.2.2.1 hx.2.2.2
    simp only [showM, List.flatMap_cons, List.length_append, List.length_cons] at *
    omega

theorem mboxBack_t [ht : Tab10 n0 w0] [he : Errs n0 w0] (b : List UInt8) (l : List Ltr) (hb0 : b.length ≤ 9223372036854775807) (hl : l.length ≤ 9223372036854775807) (hb : ∀ x ∈ l, x.Big) : AEnter (env n0 w0 gl) 7 [.sl b.length (bytesAV b) .ro, .sl l.length (ltrAV l) .ro] H (fun y H' => y = .ret (.bool true) ∧ H' = H) := by
  have hf : ∀ H, Ctr (env n0 w0 gl) 23 [.sl l.length (ltrAV l) .ro] H True (.bool (tf (LFew l))) H := fun H => .of fun _ => few10_e l hl hb
  by_cases h2 : b.length ≤ 2000
  · have hql := quoteS_len b
    have hqu : ∀ H, Ctr (env n0 w0 gl) 24 [.sl (quoteS b).length (bytesAV (quoteS b)) .ro] H True (.sl b.length (bytesAV b) .ro) H := fun H => ⟨fun _ => by
      have := (unquote_t (n0 := n0) (w0 := w0) (gl := gl) (H := H) (quoteS b)).call (by omega)
      rwa [unquote_quote] at this⟩
    by_cases hF : LFew l
    · rw [tf_true hF] at hf
      have hs := small_of_few hb hF
      have h20 := hF.1
      have hE : ∀ H, Ctr (env n0 w0 gl) 26 [.sl l.length (ltrAV l) .ro] H True (exportV l) H := fun H => ⟨fun _ => (export_t (n0 := n0) (w0 := w0) (gl := gl) (H := H) l).call ⟨by omega, hs⟩⟩
      unfold exportV at hE
      by_cases hok : ∀ x ∈ l, x.Ok
      · rw [tf_true hok] at hE
        simp only [if_true] at hE
        have hall : ∀ x ∈ l, x.fro.length ≤ 300 ∧ x.body.length ≤ 500 ∧ 0 ≤ x.at_ ∧ x.at_ ≤ 9223372036854775807 := fun x hx => by
          obtain ⟨k, hk, rfl⟩ := List.getElem_of_mem hx
          have := hF.2 k hk
          rw [List.getD_eq_getElem?_getD, List.getElem?_eq_getElem hk] at this
          simp only [Option.getD_some] at this
          exact ⟨this.1, this.2, (hok _ hx).2.1, (hb _ hx).2.2.2⟩
        have hsl := showM_len2 hall
        have hp : ∀ H, Ctr (env n0 w0 gl) 20 [.sl (showM l).length (bytesAV (showM l)) .ro] H True (.tup [.sl l.length (ltrAV l) .ro, .int .i64 0]) H := fun H => .of fun _ => by
          have := mparse_t (n0 := n0) (w0 := w0) (gl := gl) (H := H) (showM l) (by omega)
          unfold mreadV at this
          rw [mreadR_show (fun x hx => ⟨hok x hx, (hb x hx).2.2.2⟩)] at this
          exact this
        have hS : ∀ H, Ctr (env n0 w0 gl) 22 [.sl l.length (ltrAV l) .ro, .sl l.length (ltrAV l) .ro] H True (.bool true) H := fun H => .of fun _ => same10_e l .ro (.inl rfl) hl hb
        refine enter (md := fun _ => 0) Tryd.func7 (fun hfit hgl => ?_)
        repeat' (first | refine go ?_ | (refine br (fun hc => ?_) (fun hc => ?_) <;> try (exfalso; omega)) | fail)
        all_goals exact .now ⟨rfl, rfl⟩
      · rw [tf_false hok] at hE
        simp only [Bool.false_eq_true, if_false] at hE
        refine enter (md := fun _ => 0) Tryd.func7 (fun hfit hgl => ?_)
        repeat' (first | refine go ?_ | (refine br (fun hc => ?_) (fun hc => ?_) <;> try (exfalso; omega)) | fail)
        all_goals exact .now ⟨rfl, rfl⟩
    · rw [tf_false hF] at hf
      refine enter (md := fun _ => 0) Tryd.func7 (fun hfit hgl => ?_)
      repeat' (first | refine go ?_ | (refine br (fun hc => ?_) (fun hc => ?_) <;> try (exfalso; omega)) | fail)
      all_goals exact .now ⟨rfl, rfl⟩
  · refine enter (md := fun _ => 0) Tryd.func7 (fun hfit hgl => ?_)
    repeat' (first | refine go ?_ | (refine br (fun hc => ?_) (fun hc => ?_) <;> try (exfalso; omega)) | fail)
    all_goals exact .now ⟨rfl, rfl⟩

end Go.Ab.Tryd
