/- Walks: slices.Grow, Concat and Clone. -/
import Derived.Test.YtpdjgbpmlckepaaGreatDoorAb35
import Derived.Test.YtpdjgbpmlckepaaGreatDoorLEncA
import Derived.Test.YtpdjgbpmlckepaaGreatDoorLRound
import Derived.Test.YtpdjgbpmlckepaaGreatDoorShSl
set_option linter.unusedSimpArgs false
set_option linter.unusedVariables false
set_option maxHeartbeats 4000000
set_option maxRecDepth 10000
namespace Go.Ab.Tryz
open Go Go.Ab Go.Proofs Go.RowKit
attribute [local irreducible] W Wl Wop TrA WSeq WLoopS FPost DPost RPost WRound DK onEnd
attribute [local simp] belowL_bytesAV belowL_strsM belowL_appM
variable {n0 : Nat} {w0 : World} {gl : Nat → List AV} {H : List AO}

theorem grow_e (n : Nat) (h0 : 0 < n) (hn : n ≤ 140737488355328) : AEnter (env n0 w0 gl) 122 [.sl 0 [] .full, .int .i64 n] H (fun y H' => y = .ret (.sl 0 [] (.at H.length 0)) ∧ H' = H ++ [.tail 1 0]) :=
  AEnter.of_calls (fn := Tryz.f122) Tryz.func122 rfl rfl fun g w cs hr hv => by
    obtain ⟨c, d, rfl, h1, h2⟩ := rels2 hv
    have := h2.int_inv; subst this
    obtain ⟨z, inf, p1, p2, p3, p4, p5, p6, _, hz, p9⟩ := ((env n0 w0 gl).ok 5 _ (by rw [ty5])).info
    have hs : inf.size = 1 := p3
    have hb : inf.bytes = 1 := p4
    have go : ∀ p, Calls Tryz.prog 122 #[.slice p 0 0, .int .i64 n] w (EConc (env n0 w0 gl) g (fun y H' => y = .ret (.sl 0 [] (.at H.length 0)) ∧ H' = H ++ [.tail 1 0])) := by
      intro p
      refine (Any8.slices_Grow_grow (P := Tryz.prog) Tryz.growB inf z p1 p2 (by omega) p 0 0 n [] w (Nat.le_refl _) (by omega) (by rw [hb]; omega) (by omega) (by simp) (fun _ => rfl) (fun a _ j v hj => by simp at hj)).mono ?_
      rintro e w' ⟨rfl, rfl⟩
      have hbel : Below w.heap.size w (w.drew.alloc (.cells ((#[] : Array Value) ++ Builtin.zeroCells z.cells (0 + n - 0) ++ Builtin.zeroCells z.cells (grownCap w (0 + n) 0 5 - (0 + n))) 5)) := ((Below.refl _ w).drew).alloc (Nat.le_refl _) _
      obtain ⟨g', q1, q2, q3⟩ := Rep.new_room hr hbel (Nat.le_refl _) (Grew.alloc w.drew _).new 1 (grownCap w (0 + n) 0 5) (by
        have hge : 0 + n ≤ grownCap w (0 + n) 0 5 := grownCap_ge w _ _ _
        have p5' : z.cells.size = 1 := p5
        simp only [Builtin.zeroCells, Array.size_append, Array.size_map, Array.size_range, p5', Nat.mul_one, List.size_toArray, List.length_nil]
        omega)
      exact ⟨_, _, g', ⟨rfl, rfl⟩, q1, q2, .ret q3⟩
    cases h1 with
    | nsl => exact go _
    | sl _ _ _ b o cap vs hcap hk hvs ht =>
      have h3 : cap = 0 := by have : cap - 0 = 0 := ht; omega
      subst h3
      exact go _

/-- Parts, one behind the other. -/
def catL (l : Parts) : List UInt8 := l.flatMap (·.1)
theorem catL_take {l : Parts} {i : Nat} (h : i < l.length) : catL (l.take (i + 1)) = catL (l.take i) ++ (l.getD i ([], .ro)).1 := by
  unfold catL
  rw [List.take_succ_eq_append_getElem h, List.flatMap_append]
  simp [h, List.getD_eq_getElem?_getD]
theorem catL_mono (l : Parts) (i : Nat) : (catL (l.take i)).length ≤ (catL l).length := by
  have : catL l = catL (l.take i) ++ catL (l.drop i) := by
    conv => lhs; rw [← List.take_append_drop i l]
    simp only [catL, List.flatMap_append]
  rw [this, List.length_append]; omega
theorem concat_e (l : Parts) (tok : Tok) (hl : l.length ≤ 1000000) (h0 : 0 < (catL l).length) (hc : (catL l).length ≤ 1000000000) : AEnter (env n0 w0 gl) 67 [.sl l.length (partsAV l) tok] H (fun y H' => y = .ret (.sl (catL l).length (bytesAV (catL l)) .ro) ∧ H' = H) := by
  have hpl := partsAV_len l
  have hg : ∀ H, Ctr (env n0 w0 gl) 122 [.sl 0 [] .full, .int .i64 ((catL l).length : Nat)] H True (.sl 0 [] (.at H.length 0)) (H ++ [.tail 1 0]) := fun H => .of fun _ => grow_e _ h0 (by omega)
  refine enter (md := fun _ => 0) Tryz.func67 (fun hfit hgl => ?_)
  repeat' (first | refine go ?_ | (refine br (fun hc => ?_) (fun hc => ?_) <;> try (exfalso; omega)) | fail)
  refine loop0 (fun i : Nat => (.sl l.length (partsAV l) tok :: .top :: .sl 0 [] .full :: .int .i64 ((catL (l.take i)).length : Nat) :: .top :: .top :: .top :: .top :: .top :: .sl l.length (partsAV l) tok :: .int .i64 l.length :: .int .i64 (i : Int) :: .top :: .top :: .top :: .top :: .top :: .top :: .top :: .top :: .top :: .top :: .top :: .top :: .top :: .top :: .top :: .top :: .top :: .top :: .top :: .top :: .top :: .top :: .top :: .top :: [])) (fun i => i ≤ l.length) (fun i => l.length - i) 0 (Nat.zero_le _) ?_
  intro i hi
  by_cases hlt : i < l.length
  · have hat := partsAV_at hlt
    have hst := catL_take hlt
    have hmo := catL_mono l (i + 1)
    generalize hf : (l.getD i ([], .ro)).1 = f at *
    generalize hft : (l.getD i ([], .ro)).2 = ft at *
    have hsl : (catL (l.take (i + 1))).length = (catL (l.take i)).length + f.length := by rw [hst, List.length_append]
    have hh := And.intro hpl hat
    repeat' (first | refine go ?_ | (refine br (fun hc => ?_) (fun hc => ?_) <;> try (exfalso; omega)) | fail)
    rw [show ((catL (l.take i)).length : Int) + (f.length : Int) = ((catL (l.take (i + 1))).length : Nat) by rw [hsl]; simp]
    exact again (i + 1) (by omega)
  · obtain rfl : i = l.length := by omega
    rw [List.take_length]
    repeat' (first | refine go ?_ | (refine br (fun hc => ?_) (fun hc => ?_) <;> try (exfalso; omega)) | fail)
    refine loop (fun i : Nat => (.sl l.length (partsAV l) tok :: .top :: .sl 0 [] .full :: .top :: .top :: .top :: .sl (catL (l.take i)).length (bytesAV (catL (l.take i))) (.at H.length (catL (l.take i)).length) :: .top :: .top :: .top :: .top :: .top :: .top :: .top :: .top :: .top :: .top :: .top :: .top :: .top :: .top :: .top :: .top :: .top :: .top :: .sl l.length (partsAV l) tok :: .int .i64 l.length :: .int .i64 (i : Int) :: .top :: .top :: .top :: .top :: .top :: .top :: .top :: .top :: []))
      (fun i => H ++ [.tail 1 (catL (l.take i)).length]) (fun i => i ≤ l.length) (fun i => l.length - i) 0 (Nat.zero_le _) ?_
    intro i hi
    by_cases hlt : i < l.length
    · have hat := partsAV_at hlt
      have hst := catL_take hlt
      have hmo := catL_mono l (i + 1)
      generalize hf : (l.getD i ([], .ro)).1 = f at *
      generalize hft : (l.getD i ([], .ro)).2 = ft at *
      have hsl : (catL (l.take (i + 1))).length = (catL (l.take i)).length + f.length := by rw [hst, List.length_append]
      have hsb : bytesAV (catL (l.take (i + 1))) = bytesAV (catL (l.take i)) ++ bytesAV f := by rw [hst]; simp [bytesAV]
      have hh := And.intro hpl hat
      repeat' (first | refine go ?_ | (refine br (fun hc => ?_) (fun hc => ?_) <;> try (exfalso; omega)) | fail)
      rw [← hsl, ← hsb]
      exact again (i + 1) (by omega)
    · obtain rfl : i = l.length := by omega
      rw [List.take_length]
      repeat' (first | refine go ?_ | (refine br (fun hc => ?_) (fun hc => ?_) <;> try (exfalso; omega)) | fail)
      exact .weak (fun _ _ h => slRo h) (.junkd ⟨rfl, rfl⟩)

/-- slices.Clone of no holds. -/
theorem cloneH_e : AEnter (env n0 w0 gl) 168 [.sl 0 [] .full] H (fun y H' => y = .ret (.sl 0 [] (.at H.length 0)) ∧ H' = H ++ [.tail 2 0]) :=
  AEnter.of_calls (fn := Tryz.f168) Tryz.func168 rfl rfl fun g w cs hr hv => by
    obtain ⟨c, rfl, h1⟩ := rels1 hv
    obtain ⟨z, inf, p1, p2, p3, p4, p5, p6, _, hz, p9⟩ := ((env n0 w0 gl).ok 34 _ (by rw [ty34])).info
    have hs : inf.size = 2 := p3
    have hb : inf.bytes = 32 := p4
    have hz2 : z.cells.size = 2 := p5
    have nil_ : ∀ n c, Calls Tryz.prog 168 #[.slice none n c] w (EConc (env n0 w0 gl) g (fun y H' => y = .ret (.sl 0 [] (.at H.length 0)) ∧ H' = H ++ [.tail 2 0])) := by
      intro n c
      refine (AnyE.slices_Clone_nil (P := Tryz.prog) Tryz.cloneH n c w).mono ?_
      rintro e w' ⟨rfl, rfl⟩
      obtain ⟨g', q1, q2, q3⟩ := Rep.no_room hr 2 none
      exact ⟨_, _, g', ⟨rfl, rfl⟩, q1, q2, .ret q3⟩
    have some_ : ∀ a cap, Calls Tryz.prog 168 #[.slice (some a) 0 cap] w (EConc (env n0 w0 gl) g (fun y H' => y = .ret (.sl 0 [] (.at H.length 0)) ∧ H' = H ++ [.tail 2 0])) := by
      intro a cap
      refine (clone_any (P := Tryz.prog) Tryz.cloneH inf z 2 32 p1 p2 hs hb hz2 (by decide) (fun w => Tryz.sizeOf34 w) a.block a.off a.spot 0 cap [] w (by simp) (by decide) (by decide) (fun j u hj => by simp at hj) (fun u hu => by simp at hu)).mono ?_
      rintro e w' ⟨v', rfl, ⟨_, ⟨rfl, _⟩ | ⟨g2, cap2, cur, rfl, hg2, hc2, _, _, hcs, _⟩⟩, hne, hbel⟩
      · exact absurd rfl hne
      · obtain ⟨g', q1, q2, q3⟩ := Rep.new_room hr hbel hg2 hc2 2 cap2 (by omega)
        exact ⟨_, _, g', ⟨rfl, rfl⟩, q1, q2, .ret q3⟩
    cases h1 with
    | nsl =>
      rename_i p _
      cases p with
      | none => exact nil_ _ _
      | some a => exact some_ _ _
    | sl _ _ _ b o cap vs hcap hk hvs ht => exact some_ _ _

end Go.Ab.Tryz
