/- Walks: parts put together. -/
import Derived.Test.YtpdjgbpmlckepaaGreatDoorLConvA
import Derived.Test.YtpdjgbpmlckepaaGreatDoorFrE
set_option linter.unusedSimpArgs false
set_option linter.unusedVariables false
set_option maxHeartbeats 4000000
set_option maxRecDepth 4000
namespace Go.Ab.Tryz
open Go Go.Ab Go.Proofs
attribute [local irreducible] W Wl Wop TrA WSeq WLoopS FPost DPost RPost WRound DK onEnd
variable {n0 : Nat} {w0 : World} {gl : Nat → List AV} {H : List AO}
attribute [local simp] belowL_bytesAV

abbrev Parts := List (List UInt8 × Tok)
/-- Parts of bytes, as they are seen. -/
def partsAV (l : Parts) : List AV := l.map fun p => .sl p.1.length (bytesAV p.1) p.2
theorem partsAV_len (l : Parts) : (partsAV l).length = l.length := by simp [partsAV]
theorem partsAV_at {l : Parts} {i : Nat} (h : i < l.length) : (partsAV l).getD i .top = .sl (l.getD i ([], .ro)).1.length (bytesAV (l.getD i ([], .ro)).1) (l.getD i ([], .ro)).2 := by
  simp [partsAV, List.getD_eq_getElem?_getD, h]
/-- A part, put. -/
def putF (s : List UInt8) : List UInt8 := Lib.decDigits s.length ++ 58 :: (s ++ [44])
def putL (l : List (List UInt8)) : List UInt8 := l.flatMap putF
theorem putL_take {l : Parts} {i : Nat} (h : i < l.length) : putL ((l.take (i + 1)).map (·.1)) = putL ((l.take i).map (·.1)) ++ putF (l.getD i ([], .ro)).1 := by
  rw [List.take_add_one, List.map_append]
  simp [putL, h, List.getD_eq_getElem?_getD]
theorem putL_mono (l : Parts) (i : Nat) : (putL ((l.take i).map (·.1))).length ≤ (putL (l.map (·.1))).length := by
  have : putL (l.map (·.1)) = putL ((l.take i).map (·.1)) ++ putL ((l.drop i).map (·.1)) := by
    conv => lhs; rw [← List.take_append_drop i l]
    simp only [putL, List.map_append, List.flatMap_append]
  rw [this, List.length_append]; omega
theorem putF_len (s : List UInt8) : (putF s).length = Lib.nDigits s.length + (s.length + 2) := by simp [putF, Lib.decDigits_length]

instance put_t [ht : Tab10 n0 w0] (l : Parts) (tok : Tok) : Ctr (env n0 w0 gl) 72 [.sl l.length (partsAV l) tok] H (l.length ≤ 9223372036854775807 ∧ (putL (l.map (·.1))).length ≤ 140737488350000) (.sl (putL (l.map (·.1))).length (bytesAV (putL (l.map (·.1)))) .ro) H := .of fun ⟨hl, hb⟩ => by
  have hpl := partsAV_len l
  refine enter (md := fun _ => 0) Tryz.func72 (fun hfit hgl => ?_)
  refine gos ?_
  refine wseq_normal ?_
  refine gos ?_
  refine wseq_normal ?_
  refine gos ?_
  refine wseq_shift (Shift.vec 1 3 rfl) ?_
  simp only [List.set_cons_succ, List.set_cons_zero]
  repeat' (first | refine go ?_ | (refine br (fun hc => ?_) (fun hc => ?_) <;> try (exfalso; omega)) | fail)
  refine loop (fun i : Nat => (.sl l.length (partsAV l) tok :: .top :: .sl 0 [] .full :: .vsl H.length (putL ((l.take i).map (·.1))).length :: .top :: .top :: .sl l.length (partsAV l) tok :: .int .i64 l.length :: .int .i64 (i : Int) :: .top :: .top :: .top :: .top :: .top :: .top :: .top :: .top :: .top :: .top :: .top :: .top :: .top :: .top :: .top :: .top :: [])) (fun i => H ++ [.vec 1 (putL ((l.take i).map (·.1))).length (bytesAV (putL ((l.take i).map (·.1))))]) (fun i => i ≤ l.length) (fun i => l.length - i) 0 (Nat.zero_le _) ?_
  intro i hi
  by_cases hlt : i < l.length
  · have hat := partsAV_at hlt
    have hst := putL_take hlt
    have hmo := putL_mono l (i + 1)
    generalize hf : (l.getD i ([], .ro)).1 = f at *
    generalize hft : (l.getD i ([], .ro)).2 = ft at *
    have hsl : (putL ((l.take (i + 1)).map (·.1))).length = (putL ((l.take i).map (·.1))).length + (Lib.nDigits f.length + (1 + (f.length + 1))) := by rw [hst, List.length_append, putF_len]; omega
    have hsb : bytesAV (putL ((l.take (i + 1)).map (·.1))) = bytesAV (putL ((l.take i).map (·.1))) ++ (bytesAV (Lib.decDigits f.length) ++ .int .u8 58 :: (bytesAV f ++ [.int .u8 44])) := by rw [hst]; simp [putF, bytesAV, byteAV]
    have hh := And.intro hpl hat
    repeat' (first | refine go ?_ | (refine br (fun hc => ?_) (fun hc => ?_) <;> try (exfalso; omega)) | fail)
    rw [← hsl, ← hsb]
    exact again (i + 1) (by omega)
  · obtain rfl : i = l.length := by omega
    rw [List.take_length]
    refine gos ?_
    refine wseq_normal ?_
    refine gos ?_
    refine wseq_shift (Shift.know 3 (sz := 1) rfl (by rw [List.getElem?_append_right (Nat.le_refl _), Nat.sub_self]; rfl)) ?_
    simp only [List.set_cons_succ, List.set_cons_zero, setE0]
    repeat' (first | refine go ?_ | (refine br (fun hc => ?_) (fun hc => ?_) <;> try (exfalso; omega)) | fail)
    exact .junkd ⟨rfl, rfl⟩

instance ref_put_t [ht : Tab10 n0 w0] (l : Parts) (tok : Tok) : Ctr (env n0 w0 gl) 39 [.sl l.length (partsAV l) tok] H (l.length ≤ 9223372036854775807 ∧ (putL (l.map (·.1))).length ≤ 140737488350000) (.sl (putL (l.map (·.1))).length (bytesAV (putL (l.map (·.1)))) .ro) H := .of fun ⟨hl, hb⟩ => by
  have hpl := partsAV_len l
  refine enter (md := fun _ => 0) Tryz.func39 (fun hfit hgl => ?_)
  refine gos ?_
  refine wseq_normal ?_
  refine gos ?_
  refine wseq_normal ?_
  refine gos ?_
  refine wseq_shift (Shift.vec 1 3 rfl) ?_
  simp only [List.set_cons_succ, List.set_cons_zero]
  repeat' (first | refine go ?_ | (refine br (fun hc => ?_) (fun hc => ?_) <;> try (exfalso; omega)) | fail)
  refine loop (fun i : Nat => (.sl l.length (partsAV l) tok :: .top :: .sl 0 [] .full :: .vsl H.length (putL ((l.take i).map (·.1))).length :: .top :: .top :: .sl l.length (partsAV l) tok :: .int .i64 l.length :: .int .i64 (i : Int) :: .top :: .top :: .top :: .top :: .top :: .top :: .top :: .top :: .top :: .top :: .top :: .top :: .top :: .top :: .top :: .top :: [])) (fun i => H ++ [.vec 1 (putL ((l.take i).map (·.1))).length (bytesAV (putL ((l.take i).map (·.1))))]) (fun i => i ≤ l.length) (fun i => l.length - i) 0 (Nat.zero_le _) ?_
  intro i hi
  by_cases hlt : i < l.length
  · have hat := partsAV_at hlt
    have hst := putL_take hlt
    have hmo := putL_mono l (i + 1)
    generalize hf : (l.getD i ([], .ro)).1 = f at *
    generalize hft : (l.getD i ([], .ro)).2 = ft at *
    have hsl : (putL ((l.take (i + 1)).map (·.1))).length = (putL ((l.take i).map (·.1))).length + (Lib.nDigits f.length + (1 + (f.length + 1))) := by rw [hst, List.length_append, putF_len]; omega
    have hsb : bytesAV (putL ((l.take (i + 1)).map (·.1))) = bytesAV (putL ((l.take i).map (·.1))) ++ (bytesAV (Lib.decDigits f.length ++ [58]) ++ (bytesAV f ++ [.int .u8 44])) := by rw [hst]; simp [putF, bytesAV, byteAV]
    have hit : Lib.itoa ((f.length : Nat) : Int) = Lib.decDigits f.length := Lib.itoa_nonneg _
    have hdl := Lib.decDigits_length f.length
    have hh := And.intro hpl (And.intro hat (And.intro hit hdl))
    repeat' (first | refine go ?_ | (refine br (fun hc => ?_) (fun hc => ?_) <;> try (exfalso; omega)) | fail)
    rw [← hsl, ← hsb]
    exact again (i + 1) (by omega)
  · obtain rfl : i = l.length := by omega
    rw [List.take_length]
    refine gos ?_
    refine wseq_normal ?_
    refine gos ?_
    refine wseq_shift (Shift.know 3 (sz := 1) rfl (by rw [List.getElem?_append_right (Nat.le_refl _), Nat.sub_self]; rfl)) ?_
    simp only [List.set_cons_succ, List.set_cons_zero, setE0]
    repeat' (first | refine go ?_ | (refine br (fun hc => ?_) (fun hc => ?_) <;> try (exfalso; omega)) | fail)
    exact .junkd ⟨rfl, rfl⟩

end Go.Ab.Tryz
