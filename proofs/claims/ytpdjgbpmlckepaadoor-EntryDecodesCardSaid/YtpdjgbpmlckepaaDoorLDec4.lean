/- Walks: any bytes read as a message, by the document; the whole of it. -/
import Derived.Test.YtpdjgbpmlckepaaDoorLDec3
import Derived.Test.YtpdjgbpmlckepaaDoorSNum2
import Derived.Test.YtpdjgbpmlckepaaDoorLTake2
set_option linter.unusedSimpArgs false
set_option linter.unusedVariables false
set_option maxHeartbeats 8000000
set_option maxRecDepth 4000
namespace Go.Ab.Tryd
open Go Go.Ab Go.Proofs
attribute [local irreducible] W Wl Wop TrA WSeq WLoopS FPost DPost RPost WRound DK onEnd
attribute [local simp] belowL_bytesAV belowL_strsM belowL_appM
variable {n0 : Nat} {w0 : World} {gl : Nat → List AV} {H : List AO}

noncomputable def decV (b : List UInt8) : AV := match decM b with
  | some m => .tup [.agg m.av, .int .i64 0]
  | none => .tup [.agg [.int .i64 0, .str [], .str [], .sl 0 [] .full, .int .i64 0, .sl 0 [] .full], .int .i64 150]
theorem decode_t [ht : Tab10 n0 w0] [he : Errs n0 w0] (b : List UInt8) (hb : b.length ≤ 10000) : AEnter (env n0 w0 gl) 10 [.sl b.length (bytesAV b) .ro] H (fun y H' => y = .ret (decV b) ∧ H' = H) := by
  have hp := dec1_t (n0 := n0) (w0 := w0) (gl := gl) (H := H) b hb
  unfold decV
  refine enter (md := fun _ => 0) Tryd.func10 (fun hfit hgl => ?_)
  repeat' (first | refine go ?_ | (refine br (fun hc => ?_) (fun hc => ?_) <;> try (exfalso; omega)) | fail)
  ((with_reducible apply wop_call); (· rfl); (· rfl); (· (simp only [AAct.ev, List.getD_cons_zero, List.getD_cons_succ, constAV, env_gl]; try exact rfl)); (· (simp only [evCallArgs, List.map_cons, List.map_nil, List.nil_append, List.append_nil, List.cons_append, Array.toList, List.toList_toArray, AAct.ev, List.getD_cons_zero, List.getD_cons_succ, constAV, env_gl]; try exact rfl)))
  rcases hM : decM b with _ | m
  · refine (caught_t (R := fun x H' => x = .ret (.int .i64 150) ∧ ∃ x1 x2 x3 x4 x5 x6 z, H' = H ++ .cells [.sl b.length (bytesAV b) .ro] :: .cells [x1, x2, x3, x4, x5, x6] :: .cells [.int .i64 150] :: z) _ [] _ fun hf2 => ?_).call.mono ?_
    · simp only [List.append_assoc, List.cons_append, List.nil_append]
      refine hp.call.mono ?_
      rintro x H' (⟨l, h, _⟩ | ⟨_, rfl, x1, x2, x3, x4, x5, x6, z, rfl⟩)
      · rw [hM] at h; cases h
      · exact ⟨by simp, .inr ⟨rfl, .now ⟨rfl, x1, x2, x3, x4, x5, x6, z, by simp⟩⟩⟩
    · rintro x H' ⟨rfl, x1, x2, x3, x4, x5, x6, z, rfl⟩
      repeat' (first | refine go ?_ | (refine br (fun hc => ?_) (fun hc => ?_) <;> try (exfalso; omega)) | fail)
      exact .junkd ⟨rfl, rfl⟩
  · refine (caught_t (R := fun x H' => x = .ret (.int .i64 0) ∧ H' = H ++ [.cells [.sl b.length (bytesAV b) .ro], .cells m.av, .cells [.int .i64 0]]) _ [] _ fun hf2 => ?_).call.mono ?_
    · simp only [List.append_assoc, List.cons_append, List.nil_append]
      refine hp.call.mono ?_
      rintro x H' (⟨l', h, rfl, rfl⟩ | ⟨h, _⟩)
      · rw [hM] at h
        injection h with h
        subst h
        exact ⟨by simp, .inl ⟨rfl, .now ⟨rfl, by simp⟩⟩⟩
      · rw [hM] at h; cases h
    · rintro x H' ⟨rfl, rfl⟩
      obtain ⟨id, cls, fro, to, at_, body⟩ := m
      simp only [Msg.av]
      repeat' (first | refine go ?_ | (refine br (fun hc => ?_) (fun hc => ?_) <;> try (exfalso; omega)) | fail)
      exact .junkd ⟨rfl, rfl⟩

/-- Parts taken, one behind the other, as far as there are any. -/
noncomputable def takeS (b : List UInt8) : Nat → List (List UInt8) × List UInt8
  | 0 => ([], b)
  | i + 1 => match cut15R (takeS b i).2 with
    | some (x, n) => ((takeS b i).1 ++ [x], (takeS b i).2.drop n)
    | none => takeS b i
theorem takeS_some {b x : List UInt8} {i n : Nat} (h : cut15R (takeS b i).2 = some (x, n)) : takeS b (i + 1) = ((takeS b i).1 ++ [x], (takeS b i).2.drop n) := by
  simp only [takeS, h]
theorem takeS_stuck {b : List UInt8} {i : Nat} (h : cut15R (takeS b i).2 = none) : ∀ j, takeS b (i + j) = takeS b i
  | 0 => rfl
  | j + 1 => by
    have ih := takeS_stuck h j
    rw [← Nat.add_assoc]
    simp only [takeS, ih, h]
theorem takeS_len (b : List UInt8) : ∀ i, (takeS b i).2.length ≤ b.length
  | 0 => Nat.le_refl _
  | i + 1 => by
    have ih := takeS_len b i
    simp only [takeS]
    cases h : cut15R (takeS b i).2 with
    | none => simpa using ih
    | some xn => simp only [List.length_drop]; omega
theorem partsAV_snoc (l : List (List UInt8)) (x : List UInt8) : partsAV (roP (l ++ [x])) = partsAV (roP l) ++ [.sl x.length (bytesAV x) .ro] := by simp [partsAV, roP]


theorem takeS_put (L : List (List UInt8)) (hL : ∀ x ∈ L, x.length ≤ 1000000) : ∀ i, i ≤ L.length → takeS (putL L) i = (L.take i, putL (L.drop i))
  | 0, _ => by simp [takeS]
  | i + 1, hi => by
    have ih := takeS_put L hL i (by omega)
    have hc := cut15R_put L[i] (putL (L.drop (i + 1))) (hL _ (List.getElem_mem (by omega)))
    have hd : putL (L.drop i) = putF L[i] ++ putL (L.drop (i + 1)) := by rw [List.drop_eq_getElem_cons (by omega : i < L.length), putL_cons]
    rw [← hd] at hc
    have := takeS_some (b := putL L) (i := i) (x := L[i]) (n := (putF L[i]).length) (by rw [ih]; exact hc)
    rw [this, ih]
    simp only
    rw [hd, List.drop_left, List.take_succ_eq_append_getElem (by omega)]
/-- The message that some parts are. -/
noncomputable def refM (l : List (List UInt8)) : Msg := ⟨numN (l.getD 0 []), l.getD 1 [], l.getD 2 [], (l.take (l.length - 1)).drop 5, numN (l.getD 3 []), l.getD (l.length - 1) []⟩
theorem ref_of {m : Msg} {b : List UInt8} (hS : m.Small) (hE : m.EncOk) (hb : m.enc = b) : (takeS b 110).2 = [] ∧ 7 ≤ (takeS b 110).1.length ∧ refM (takeS b 110).1 = m := by
  obtain ⟨id, cls, fro, to, at_, body⟩ := m
  have hC := hE.1
  have hI := hE.2
  simp only at hC hI
  have hat0 : 0 ≤ at_ := hC.2.2.2.1
  have hat9 : at_ ≤ 9223372036854775807 := hS.1
  have hnid := numOk_itoa (n := id) (by omega) (by omega)
  have hnat := numOk_itoa hat0 hat9
  obtain ⟨idn, rfl⟩ : ∃ k : Nat, id = (k : Int) := ⟨id.toNat, by omega⟩
  obtain ⟨atn, rfl⟩ : ∃ k : Nat, at_ = (k : Int) := ⟨at_.toNat, by omega⟩
  rw [Lib.itoa_nonneg] at hnid hnat
  have hto : ∀ x ∈ to, x.length ≤ 1000000 := fun x hx => by
    obtain ⟨i, hi, rfl⟩ := List.getElem_of_mem hx
    have := mailbox_len (hC.2.2.2.2.2 i hi)
    rw [List.getD_eq_getElem?_getD, List.getElem?_eq_getElem hi] at this
    simp only [Option.getD_some] at this; omega
  have hfro : fro.length ≤ 1000000 := by
    rcases hC.1 with h | h
    · omega
    · have := mailbox_len h; omega
  have dl : ∀ k, k ≤ 9223372036854775807 → (Lib.decDigits k).length ≤ 1000000 := fun k hk => by
    have h := Lib.decDigits_length k
    have h2 : Lib.nDigits k ≤ 19 := nDigits_le (by omega) (by omega)
    omega
  have hl100 := hC.2.2.1
  have hl1 := hC.2.1
  generalize hLd : [Lib.decDigits idn, cls, fro, Lib.decDigits atn, Lib.decDigits to.length] ++ (to ++ [body]) = L
  have hbL : b = putL L := by
    rw [← hb, enc_mk2, ← hLd]
    simp [putL]
  have hLl : L.length = to.length + 6 := by rw [← hLd]; simp
  have hLs : ∀ x ∈ L, x.length ≤ 1000000 := fun x hx => by
    rw [← hLd] at hx
    simp only [List.mem_append, List.mem_cons, List.not_mem_nil, or_false] at hx
    rcases hx with (rfl | rfl | rfl | rfl | rfl) | h | rfl
    · exact dl _ (by omega)
    · have := hI.2.2.2.2; omega
    · exact hfro
    · exact dl _ (by omega)
    · exact dl _ (by omega)
    · exact hto x h
    · have := hC.2.2.2.2.1; omega
  have hT := takeS_put L hLs L.length (Nat.le_refl _)
  rw [List.take_length, List.drop_length, ← hbL] at hT
  have hT2 := takeS_stuck (b := b) (i := L.length) (by rw [hT]; exact cut_nil) (110 - L.length)
  rw [show L.length + (110 - L.length) = 110 by omega, hT] at hT2
  rw [hT2]
  refine ⟨rfl, by simp only; omega, ?_⟩
  simp only
  unfold refM
  have e3 : (L.take (L.length - 1)).drop 5 = to := by
    rw [hLl, ← hLd]
    rw [show to.length + 6 - 1 = ([Lib.decDigits idn, cls, fro, Lib.decDigits atn, Lib.decDigits to.length] ++ to).length by simp, ← List.append_assoc, List.take_left]
    simp
  have e4 : L.getD (L.length - 1) [] = body := by
    rw [hLl, ← hLd, List.getD_eq_getElem?_getD, List.getElem?_append_right (by simp), List.getElem?_append_right (by simp)]
    simp
  rw [e3, e4]
  have n0 : numN (Lib.decDigits idn) = idn := by unfold numN; rw [if_pos hnid.1.1]; exact hnid.2
  have n3 : numN (Lib.decDigits atn) = atn := by unfold numN; rw [if_pos hnat.1.1]; exact hnat.2
  subst hLd
  simp [n0, n3]

end Go.Ab.Tryd
