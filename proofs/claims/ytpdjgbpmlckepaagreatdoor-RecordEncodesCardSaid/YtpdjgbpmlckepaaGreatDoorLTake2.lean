/- Walks: a part taken, told twice. -/
import Derived.Test.YtpdjgbpmlckepaaGreatDoorLTake
import Derived.Test.YtpdjgbpmlckepaaGreatDoorFrE
import Derived.Test.YtpdjgbpmlckepaaGreatDoorSHead2
set_option linter.unusedSimpArgs false
set_option linter.unusedVariables false
set_option maxHeartbeats 4000000
set_option maxRecDepth 4000
namespace Go.Ab.Tryz
open Go Go.Ab Go.Proofs
attribute [local irreducible] W Wl Wop TrA WSeq WLoopS FPost DPost RPost WRound DK onEnd
variable {n0 : Nat} {w0 : World} {gl : Nat → List AV} {H : List AO}
attribute [local simp] belowL_bytesAV

/-- What taking hands back. -/
noncomputable def takeV (b : List UInt8) : AV := match cut15R b with
  | some (x, n) => .tup [.sl x.length (bytesAV x) .ro, .sl (b.drop n).length (bytesAV (b.drop n)) .ro, .bool true]
  | none => .tup [.sl 0 [] .full, .sl b.length (bytesAV b) .ro, .bool false]

theorem take_all (b : List UInt8) : List.take b.length (bytesAV b) = bytesAV b := List.take_of_length_le (by simp [bytesAV])
theorem cut15R_some {b x : List UInt8} {n : Nat} (h : cut15R b = some (x, n)) : 2 ≤ n ∧ n ≤ b.length ∧ x.length ≤ b.length := by
  unfold cut15R at h
  split at h
  · rename_i hk
    have ht := hk.2
    have h5 := ht.2.2.2.2.1
    injection h with h; injection h with h1 h2
    subst h1; subst h2
    refine ⟨by omega, by omega, ?_⟩
    rw [List.length_take, List.length_drop]; omega
  · simp at h

theorem take_e (b : List UInt8) (hb : b.length ≤ 140737488355328) : AEnter (env n0 w0 gl) 129 [.sl b.length (bytesAV b) .ro] H (fun y H' => y = .ret (takeV b) ∧ H' = H) := by
  cases hc : cut15R b with
  | none =>
    have h1 : ∀ H, Ctr (env n0 w0 gl) 132 [.sl b.length (bytesAV b) .ro] H True (.tup [.sl 0 [] .full, .int .i64 0]) H := fun H => .of fun _ => by
      have := cut_e (n0 := n0) (w0 := w0) (gl := gl) (H := H) b (by omega)
      rw [hc] at this; exact this
    refine enter (md := fun _ => 0) Tryz.func129 (fun hfit hgl => ?_)
    repeat' (first | refine go ?_ | (refine br (fun hc => ?_) (fun hc => ?_) <;> try (exfalso; omega)) | fail)
    simp only [takeV, hc]
    exact .now ⟨rfl, rfl⟩
  | some xn =>
    obtain ⟨x, n⟩ := xn
    have hb2 := cut15R_some hc
    have h1 : ∀ H, Ctr (env n0 w0 gl) 132 [.sl b.length (bytesAV b) .ro] H True (.tup [.sl x.length (bytesAV x) .ro, .int .i64 n]) H := fun H => .of fun _ => by
      have := cut_e (n0 := n0) (w0 := w0) (gl := gl) (H := H) b (by omega)
      rw [hc] at this; exact this
    have h2 : ∀ H tok, Ctr (env n0 w0 gl) 175 [.sl (b.length - n) (List.drop n (bytesAV b)) tok] H True (.sl (b.drop n).length (bytesAV (b.drop n)) .ro) H := fun H tok => ⟨fun _ => by
      have := (clone_t (n0 := n0) (w0 := w0) (gl := gl) (H := H) (b.drop n) tok).call (by rw [List.length_drop]; omega)
      rw [show b.length - n = (b.drop n).length by rw [List.length_drop], show List.drop n (bytesAV b) = bytesAV (b.drop n) by simp [bytesAV]]
      exact this⟩
    refine enter (md := fun _ => 0) Tryz.func129 (fun hfit hgl => ?_)
    have hh := take_all b
    repeat' (first | refine go ?_ | (refine br (fun hc => ?_) (fun hc => ?_) <;> try (exfalso; omega)) | fail)
    simp only [takeV, hc, List.length_drop]
    exact .now ⟨rfl, rfl⟩
instance take_t (b : List UInt8) : Ctr (env n0 w0 gl) 129 [.sl b.length (bytesAV b) .ro] H (b.length ≤ 140737488355328) (takeV b) H := .of fun hb => take_e b hb

theorem lead_iff {b : List UInt8} {k : Nat} (h1 : 1 ≤ k) (h2 : k < b.length) : Lead (b.take k) ↔ ¬ (b.getD 0 0 = 48 ∧ 1 < k) := by
  have h0 : (b.take k).getD 0 0 = b.getD 0 0 := by simp [List.getD_eq_getElem?_getD, List.getElem?_take, show 0 < k by omega]
  have hl : (b.take k).length = k := by rw [List.length_take]; omega
  constructor
  · rintro ⟨_, h | h⟩ ⟨h3, h4⟩
    · exact h (h0.trans h3)
    · have := congrArg List.length h
      rw [hl] at this; simp at this; omega
  · intro h
    refine ⟨fun h3 => by rw [h3] at hl; simp at hl; omega, ?_⟩
    by_cases h3 : b.getD 0 0 = 48
    · right
      have hk : k = 1 := by
        rcases Nat.lt_or_ge 1 k with h4 | h4
        · exact absurd ⟨h3, h4⟩ h
        · omega
      subst hk
      cases b with
      | nil => simp at h2
      | cons c b => simp at h3; subst h3; simp
    · left; rw [h0]; exact h3

theorem tup_weak {g : Ghost} {xs ys : List AV} {c : Value} (hl : ys.length = xs.length) (h : ∀ i c, VRel g (xs.getD i .top) c → VRel g (ys.getD i .top) c) (r : VRel g (.tup xs) c) : VRel g (.tup ys) c := by
  cases r with
  | tup _ cs h1 h2 => exact .tup _ _ (h1.trans hl.symm) (fun i => h i _ (h2 i))
theorem sl_ro {g : Ghost} {n : Nat} {xs : List AV} {tok : Tok} {c : Value} (r : VRel g (.sl n xs tok) c) : VRel g (.sl n xs .ro) c := by
  cases r with
  | nsl t h => exact .nsl _ trivial
  | sl n xs tok b o cap vs hn hk hx ht => exact .sl n xs _ b o cap vs hn hk hx trivial

theorem ref_take_e (b : List UInt8) (hb : b.length ≤ 140737488355328) : AEnter (env n0 w0 gl) 47 [.sl b.length (bytesAV b) .ro] H (fun y H' => y = .ret (takeV b) ∧ H' = H) := by
  have hrow := row_bytes b
  have hall := take_all b
  refine enter (md := fun _ => 0) Tryz.func47 (fun hfit hgl => ?_)
  repeat' (first | refine go ?_ | (refine br (fun hc => ?_) (fun hc => ?_) <;> try (exfalso; omega)) | fail)
  refine loop0 (fun i : Nat => (.sl b.length (bytesAV b) .ro :: .top :: .sl 0 [] .full :: .sl 0 [] .full :: .bool false :: .int .i64 (i : Int) :: .top :: .top :: .top :: .top :: .top :: .top :: .top :: .top :: .top :: .top :: .top :: .top :: .top :: .top :: .top :: .top :: .top :: .top :: .top :: .top :: .top :: .top :: .top :: .top :: .top :: .top :: .top :: .top :: .top :: .top :: .top :: .top :: .top :: .top :: .top :: .top :: .top :: .top :: .top :: .top :: .top :: .top :: .top :: .top :: .top :: .top :: .top :: .top :: .top :: .top :: .top :: .top :: .top :: .top :: .top :: .top :: .top :: .top :: .top :: .top :: .top :: .top :: .top :: .top :: .top :: .top :: [])) (fun i => i ≤ b.length ∧ i ≤ 9 ∧ ∀ k, k < i → b.getD k 0 ≠ 58) (fun i => b.length - i) 0 ⟨Nat.zero_le _, by omega, fun k h => absurd h (Nat.not_lt_zero _)⟩ ?_
  rintro i ⟨hi, hi9, hno⟩
  by_cases hlt : i < b.length ∧ i < 9
  · by_cases hc58 : b.getD i 0 = 58
    · have hc58' : (b.getD i 0).toNat = 58 := by rw [hc58]; rfl
      have hx : Lib.indexByte (b.take 9) 58 = (i : Int) := indexByte_first (by rw [List.length_take]; omega) (by rw [show (b.take 9).getD i 0 = b.getD i 0 by simp [List.getD_eq_getElem?_getD, List.getElem?_take, hlt.2]]; exact hc58') (fun j hj h => hno j hj (by
        rw [show (b.take 9).getD j 0 = b.getD j 0 by simp [List.getD_eq_getElem?_getD, List.getElem?_take, show j < 9 by omega]] at h
        exact UInt8.toNat_inj.1 h))
      have htk : List.take i (bytesAV b) = bytesAV (b.take i) := by simp [bytesAV]
      have htl : (b.take i).length = i := by rw [List.length_take]; omega
      have hite : ∀ (p : Prop) [Decidable p] (a : Tok), (if p then a else a) = a := fun p _ a => ite_self a
      have hnat : ((i : Int) + 1 + ((decVal (List.take i b) : Nat) : Int)).toNat = i + 1 + decVal (b.take i) := by omega
      by_cases hT : TakeOk b i
      · have h5 := hT.2.2.2.2.1
        have h4 := hT.2.2.2.1
        have h44 : (b.getD (i + (1 + decVal (b.take i))) 0).toNat = 44 := by rw [← Nat.add_assoc, hT.2.2.2.2.2]; rfl
        have hF : Fine (b.take i) := ⟨hT.2.2.1, by omega⟩
        have hL : Lead (b.take i) := (lead_iff hT.1 hlt.1).2 hT.2.1
        have hn : ∀ H, Ctr (env n0 w0 gl) 57 [.str (b.take i)] H True (.tup [.int .i64 (decVal (b.take i)), .bool true]) H := fun H => ⟨fun _ => by
          have := (number_t (n0 := n0) (w0 := w0) (gl := gl) (H := H) (b.take i)).call (by omega)
          rwa [numV_good hF, tf_true hL] at this⟩
        have hxl : ((b.drop (i + 1)).take (decVal (b.take i))).length = decVal (b.take i) := by rw [List.length_take, List.length_drop]; omega
        have hxe : List.drop (i + 1) (List.take (i + (1 + decVal (b.take i))) (bytesAV b)) = bytesAV ((b.drop (i + 1)).take (decVal (b.take i))) := by
          rw [List.drop_take, show i + (1 + decVal (b.take i)) - (i + 1) = decVal (b.take i) by omega]; simp [bytesAV]
        have hxs : i + (1 + decVal (b.take i)) - (i + 1) = decVal (b.take i) := by omega
        generalize hxx : (b.drop (i + 1)).take (decVal (b.take i)) = x at *
        have hh := And.intro hrow (And.intro hall (And.intro (Nat.sub_zero i) (And.intro htk (And.intro htl (And.intro hite (And.intro hc58' (And.intro hnat (And.intro h44 (And.intro hxe (And.intro hxs hxl))))))))))
        repeat' (first | refine go ?_ | (refine br (fun hc => ?_) (fun hc => ?_) <;> try (exfalso; omega)) | fail)
        have e1 : ((i : Int) + 2 + ((decVal (List.take i b) : Nat) : Int)).toNat = i + decVal (b.take i) + 2 := by omega
        rw [e1]
        refine Out.weak (b := .tup [.sl x.length (bytesAV x) .ro, .sl (b.drop (i + decVal (b.take i) + 2)).length (bytesAV (b.drop (i + decVal (b.take i) + 2))) .ro, .bool true]) (fun g c r => tup_weak (by rfl) (fun j c r => ?_) r) (.junkd ⟨?_, rfl⟩)
        · match j, r with
          | 0, r => rw [hxl]; exact sl_ro r
          | 1, r =>
            simp only [List.getD_cons_succ, List.getD_cons_zero] at r ⊢
            rw [List.length_drop, show bytesAV (b.drop (i + decVal (b.take i) + 2)) = List.drop (i + decVal (b.take i) + 2) (bytesAV b) by simp [bytesAV]]; exact r
          | 2, r => exact r
          | _ + 3, r => exact r
        · simp only [takeV, cut15R_at hx hT, hxx]
      · have hbad := cut15R_bad hx hT
        by_cases hN : Fine (b.take i) ∧ Lead (b.take i)
        · have hn : ∀ H, Ctr (env n0 w0 gl) 57 [.str (b.take i)] H True (.tup [.int .i64 (decVal (b.take i)), .bool true]) H := fun H => ⟨fun _ => by
            have := (number_t (n0 := n0) (w0 := w0) (gl := gl) (H := H) (b.take i)).call (by omega)
            rwa [numV_good hN.1, tf_true hN.2] at this⟩
          have hi1 : 1 ≤ i := by
            rcases Nat.eq_zero_or_pos i with h | h
            · subst h; exact absurd rfl hN.2.1
            · exact h
          have hh := And.intro hrow (And.intro hall (And.intro (Nat.sub_zero i) (And.intro htk (And.intro htl (And.intro hite hc58')))))
          repeat' (first | refine go ?_ | (refine br (fun hc => ?_) (fun hc => ?_) <;> try (exfalso; omega)) | fail)
          · simp only [takeV, hbad]; exact .now ⟨rfl, rfl⟩
          · simp only [takeV, hbad]; exact .now ⟨rfl, rfl⟩
          · simp only [takeV, hbad]; exact .now ⟨rfl, rfl⟩
          · exact absurd ⟨hi1, (lead_iff hi1 hlt.1).1 hN.2, hN.1.1, by omega, by omega, by rw [hnat] at hc; exact UInt8.toNat_inj.1 (show (b.getD _ 0).toNat = (44 : UInt8).toNat by show _ = 44; omega)⟩ hT
        · have hn : ∃ m : Int, ∀ H, Ctr (env n0 w0 gl) 57 [.str (b.take i)] H True (.tup [.int .i64 m, .bool false]) H := by
            by_cases hF : Fine (b.take i)
            · refine ⟨((decVal (b.take i) : Nat) : Int), fun H => ⟨fun _ => ?_⟩⟩
              have := (number_t (n0 := n0) (w0 := w0) (gl := gl) (H := H) (b.take i)).call (by omega)
              rwa [numV_good hF, tf_false (fun h => hN ⟨hF, h⟩)] at this
            · refine ⟨0, fun H => ⟨fun _ => ?_⟩⟩
              have := (number_t (n0 := n0) (w0 := w0) (gl := gl) (H := H) (b.take i)).call (by omega)
              rwa [numV_bad hF] at this
          obtain ⟨m, hn⟩ := hn
          have hh := And.intro hrow (And.intro hall (And.intro (Nat.sub_zero i) (And.intro htk (And.intro htl (And.intro hite hc58')))))
          repeat' (first | refine go ?_ | (refine br (fun hc => ?_) (fun hc => ?_) <;> try (exfalso; omega)) | fail)
          simp only [takeV, hbad]; exact .now ⟨rfl, rfl⟩
    · have hc58' : ¬ (b.getD i 0).toNat = 58 := fun h => hc58 (UInt8.toNat_inj.1 h)
      have hh := hrow
      repeat' (first | refine go ?_ | (refine br (fun hc => ?_) (fun hc => ?_) <;> try (exfalso; omega)) | fail)
      refine again (i + 1) ⟨by omega, by omega, fun k hk => ?_⟩ (by omega)
      rcases Nat.lt_succ_iff_lt_or_eq.1 hk with h | h
      · exact hno k h
      · subst h; exact hc58
  · have hx : cut15R b = none := by
      refine cut15R_none (indexByte_never fun j hj h => hno j ?_ ?_)
      · rw [List.length_take] at hj; omega
      · rw [List.length_take] at hj
        rw [show (b.take 9).getD j 0 = b.getD j 0 by simp [List.getD_eq_getElem?_getD, List.getElem?_take, show j < 9 by omega]] at h
        exact UInt8.toNat_inj.1 h
    have hh := hrow
    repeat' (first | refine go ?_ | (refine br (fun hc => ?_) (fun hc => ?_) <;> try (exfalso; omega)) | fail)
    all_goals (simp only [takeV, hx]; exact .now ⟨rfl, rfl⟩)

instance ref_take_t (b : List UInt8) : Ctr (env n0 w0 gl) 47 [.sl b.length (bytesAV b) .ro] H (b.length ≤ 140737488355328) (takeV b) H := .of fun hb => ref_take_e b hb

end Go.Ab.Tryz
