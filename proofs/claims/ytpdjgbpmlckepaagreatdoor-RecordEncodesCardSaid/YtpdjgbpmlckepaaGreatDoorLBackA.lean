/- Plain laws: what is put is taken. -/
import Derived.Test.YtpdjgbpmlckepaaGreatDoorLTake2
import Derived.Test.YtpdjgbpmlckepaaGreatDoorLPut
import Derived.Test.YtpdjgbpmlckepaaGreatDoorLEncA
import Derived.Lib.AtoiErrMem
import Derived.Lib.ParseIntB
import Derived.Test.YtpdjgbpmlckepaaGreatDoorShParse
import Derived.Test.YtpdjgbpmlckepaaGreatDoorLRound
import Derived.Test.YtpdjgbpmlckepaaGreatDoorAb32
import Derived.Test.YtpdjgbpmlckepaaGreatDoorLEq
section
set_option linter.unusedSimpArgs false
set_option linter.unusedVariables false
set_option maxHeartbeats 2000000
set_option maxRecDepth 4000
namespace Go.Ab.Tryz
open Go Go.Ab Go.Proofs

theorem dec_unfold (u : Nat) : Lib.decDigits u = if u < 10 then [UInt8.ofNat (48 + u)] else Lib.decDigits (u / 10) ++ [UInt8.ofNat (48 + u % 10)] := by
  conv => lhs; rw [Lib.decDigits]
  split <;> rfl
theorem dg_nat {d : Nat} (h : d < 10) : (UInt8.ofNat (48 + d)).toNat = 48 + d := UInt8.toNat_ofNat_of_lt' (by show _ < 256; omega)
theorem decVal_snoc (s : List UInt8) (c : UInt8) : decVal (s ++ [c]) = 10 * decVal s + (c.toNat - 48) := by simp [decVal, List.foldl_append]
theorem decVal_dec (u : Nat) : decVal (Lib.decDigits u) = u := by
  induction u using Nat.strongRecOn with
  | _ u ih =>
    rw [dec_unfold]
    split
    · rename_i h; simp only [decVal, List.foldl_cons, List.foldl_nil]; rw [dg_nat h]; omega
    · rw [decVal_snoc, ih (u / 10) (by omega), dg_nat (by omega)]; omega
theorem digits_dec (u : Nat) : ∀ c ∈ Lib.decDigits u, 48 ≤ c.toNat ∧ c.toNat ≤ 57 := by
  induction u using Nat.strongRecOn with
  | _ u ih =>
    rw [dec_unfold]
    split
    · rename_i h; intro c hc; simp only [List.mem_singleton] at hc; subst hc; rw [dg_nat h]; omega
    · intro c hc
      rcases List.mem_append.1 hc with h | h
      · exact ih (u / 10) (by omega) c h
      · simp only [List.mem_singleton] at h; subst h; rw [dg_nat (by omega)]; omega
theorem head_dec (u : Nat) (h : 10 ≤ u) : ((Lib.decDigits u).getD 0 0).toNat ≠ 48 := by
  induction u using Nat.strongRecOn with
  | _ u ih =>
    rw [dec_unfold, if_neg (by omega)]
    have hl := Lib.decDigits_length (u / 10)
    have hp := nDigits_pos (u / 10)
    have e : (Lib.decDigits (u / 10) ++ [UInt8.ofNat (48 + u % 10)]).getD 0 0 = (Lib.decDigits (u / 10)).getD 0 0 := by
      simp only [List.getD_eq_getElem?_getD]
      rw [List.getElem?_append_left (by omega)]
    rw [e]
    by_cases h2 : 10 ≤ u / 10
    · exact ih (u / 10) (by omega) h2
    · rw [dec_unfold, if_pos (by omega)]
      show (UInt8.ofNat (48 + u / 10)).toNat ≠ 48
      rw [dg_nat (by omega)]; omega

theorem cut15R_put (s rest : List UInt8) (hs : s.length ≤ 1000000) : cut15R (putF s ++ rest) = some (s, (putF s).length) := by
  have hl := Lib.decDigits_length s.length
  have hp := nDigits_pos s.length
  have h7 : Lib.nDigits s.length ≤ 7 := nDigits_le (by omega) (by omega)
  generalize hk : Lib.nDigits s.length = k at *
  have hb : putF s ++ rest = Lib.decDigits s.length ++ 58 :: (s ++ 44 :: rest) := by simp [putF]
  have htk : (putF s ++ rest).take k = Lib.decDigits s.length := by rw [hb, ← hl, List.take_left]
  have hget : ∀ i, i < k → (putF s ++ rest).getD i 0 = (Lib.decDigits s.length).getD i 0 := fun i hi => by
    rw [hb]; simp only [List.getD_eq_getElem?_getD]; rw [List.getElem?_append_left (by omega)]
  have hdig : ∀ i, i < k → 48 ≤ ((Lib.decDigits s.length).getD i 0).toNat ∧ ((Lib.decDigits s.length).getD i 0).toNat ≤ 57 := fun i hi => by
    have : (Lib.decDigits s.length).getD i 0 ∈ Lib.decDigits s.length := by
      rw [List.getD_eq_getElem?_getD, List.getElem?_eq_getElem (by omega)]; exact List.getElem_mem _
    exact digits_dec _ _ this
  have h58 : (putF s ++ rest).getD k 0 = 58 := by
    rw [hb]; simp only [List.getD_eq_getElem?_getD]; rw [List.getElem?_append_right (by omega), hl, Nat.sub_self]; rfl
  have hlen : (putF s ++ rest).length = k + (1 + (s.length + (1 + rest.length))) := by rw [hb]; simp [hl]; omega
  have ht9 : ∀ i, i < 9 → ((putF s ++ rest).take 9).getD i 0 = (putF s ++ rest).getD i 0 := fun i hi => by
    simp only [List.getD_eq_getElem?_getD, List.getElem?_take, if_pos hi]
  have hx : Lib.indexByte ((putF s ++ rest).take 9) 58 = (k : Int) := indexByte_first (by rw [List.length_take]; omega) (by rw [ht9 k (by omega), h58]) (fun j hj h => by
    rw [ht9 j (by omega), hget j hj] at h
    have := hdig j hj
    have e : (58 : UInt8).toNat = 58 := rfl
    omega)
  have hv : decVal ((putF s ++ rest).take k) = s.length := by rw [htk, decVal_dec]
  have hT : TakeOk (putF s ++ rest) k := by
    refine ⟨hp, ?_, ?_, by rw [hv]; exact hs, by rw [hv, hlen]; omega, ?_⟩
    · rintro ⟨h1, h2⟩
      rw [hget 0 (by omega)] at h1
      have h10 : 10 ≤ s.length := by
        rcases Nat.lt_or_ge s.length 10 with h | h
        · have : Lib.nDigits s.length = 1 := by rw [Lib.nDigits, dif_pos h]
          omega
        · exact h
      exact head_dec _ h10 (by rw [h1]; rfl)
    · rw [htk]; intro i hi; rw [hl] at hi; exact hdig i hi
    · rw [hv, hb]
      simp only [List.getD_eq_getElem?_getD]
      rw [List.getElem?_append_right (by omega), hl, show k + 1 + s.length - k = s.length + 1 by omega, List.getElem?_cons_succ, List.getElem?_append_right (Nat.le_refl _), Nat.sub_self]; rfl
  rw [cut15R_at hx hT, hv]
  congr 2
  · rw [hb, show List.drop (k + 1) (Lib.decDigits s.length ++ 58 :: (s ++ 44 :: rest)) = s ++ 44 :: rest by
      rw [show k + 1 = (Lib.decDigits s.length ++ [58]).length by simp [hl], show Lib.decDigits s.length ++ 58 :: (s ++ 44 :: rest) = (Lib.decDigits s.length ++ [58]) ++ (s ++ 44 :: rest) by simp, List.drop_left]]
    exact List.take_left
  · rw [putF_len]; omega
theorem takeV_put (s rest : List UInt8) (hs : s.length ≤ 1000000) : takeV (putF s ++ rest) = .tup [.sl s.length (bytesAV s) .ro, .sl rest.length (bytesAV rest) .ro, .bool true] := by
  unfold takeV
  rw [cut15R_put s rest hs]
  simp only [List.drop_left]
theorem putL_cons (s : List UInt8) (l : List (List UInt8)) : putL (s :: l) = putF s ++ putL l := by simp [putL]

end Go.Ab.Tryz

end

section
set_option linter.unusedSimpArgs false
set_option linter.unusedVariables false
set_option maxHeartbeats 4000000
set_option maxRecDepth 4000
namespace Go.Ab.Tryz
open Go Go.Ab Go.Proofs
attribute [local irreducible] W Wl Wop TrA WSeq WLoopS FPost DPost RPost WRound DK onEnd
variable {n0 : Nat} {w0 : World} {gl : Nat → List AV} {H : List AO}
attribute [local simp] belowL_bytesAV belowL_strs

theorem text_e (c : Nat) (s rest : List UInt8) (hs : s.length ≤ 1000000) (hr : rest.length ≤ 100000000) (hH : H[c]? = some (.cells [.sl (putF s ++ rest).length (bytesAV (putF s ++ rest)) .ro])) :
    AEnter (env n0 w0 gl) 131 [.ref c 0] H (fun y H' => y = .ret (.str s) ∧ H' = H.set c (.cells [.sl rest.length (bytesAV rest) .ro])) := by
  have hd7 : Lib.nDigits s.length ≤ 7 := nDigits_le (by omega) (by omega)
  have hpl := putF_len s
  have hcut := cut15R_put s rest hs
  have hdrop : (putF s ++ rest).drop (putF s).length = rest := List.drop_left
  have hll : (putF s ++ rest).length = (putF s).length + rest.length := List.length_append
  generalize putF s ++ rest = r at *
  generalize (putF s).length = n at *
  have h1 : ∀ H, Ctr (env n0 w0 gl) 132 [.sl r.length (bytesAV r) .ro] H True (.tup [.sl s.length (bytesAV s) .ro, .int .i64 n]) H := fun H => .of fun _ => by
    have := cut_e (n0 := n0) (w0 := w0) (gl := gl) (H := H) r (by omega)
    rw [hcut] at this; exact this
  have hite : ∀ (p : Prop) [Decidable p] (a : Tok), (if p then a else a) = a := fun p _ a => ite_self a
  have hh := And.intro hH (And.intro (take_all r) hite)
  refine enter (md := fun _ => 0) Tryz.func131 (fun hfit hgl => ?_)
  repeat' (first | refine go ?_ | (refine br (fun hc => ?_) (fun hc => ?_) <;> try (exfalso; omega)) | fail)
  refine .now ⟨rfl, ?_⟩
  rw [show List.drop n (bytesAV r) = bytesAV rest by rw [← hdrop]; simp [bytesAV], show r.length - n = rest.length by omega]

theorem parseUintM_fold : ∀ (l : List UInt8) (acc : Nat), (∀ c ∈ l, 48 ≤ c.toNat ∧ c.toNat ≤ 57) → l.foldl (fun n c => 10 * n + (c.toNat - 48)) acc ≤ 9223372036854775807 → Lib.parseUintM (2 ^ 64 - 1) acc l = .ok (l.foldl (fun n c => 10 * n + (c.toNat - 48)) acc)
  | [], acc, _, _ => rfl
  | c :: l, acc, hd, hv => by
    have h1 := hd c (List.mem_cons_self ..)
    have key : ∀ (l : List UInt8) (n : Nat), n ≤ l.foldl (fun n c => 10 * n + (c.toNat - 48)) n := by
      intro l
      induction l with
      | nil => intro n; exact Nat.le_refl _
      | cons c l ih => intro n; exact Nat.le_trans (show n ≤ 10 * n + (c.toNat - 48) by omega) (ih _)
    have h2 := key l (10 * acc + (c.toNat - 48))
    simp only [List.foldl_cons] at hv ⊢
    have h3 : (2 : Nat) ^ 64 - 1 = 18446744073709551615 := by decide
    rw [Lib.parseUintM, if_pos h1, if_neg (by omega), if_neg (by rw [h3]; omega), Nat.mul_comm acc 10]
    exact parseUintM_fold l _ (fun x hx => hd x (List.mem_cons_of_mem _ hx)) hv
theorem parse_dec (k : Nat) (hk : k ≤ 9223372036854775807) : Lib.parseIntB 64 (Lib.decDigits k) = .ok (k : Int) := by
  have hd := digits_dec k
  have hv := decVal_dec k
  have hl := Lib.decDigits_length k
  have hp := nDigits_pos k
  have hf := parseUintM_fold (Lib.decDigits k) 0 hd (by show decVal _ ≤ _; rw [hv]; exact hk)
  have hf2 : Lib.parseUintM (2 ^ 64 - 1) 0 (Lib.decDigits k) = .ok k := by rw [hf]; exact congrArg _ hv
  cases hs : Lib.decDigits k with
  | nil => rw [hs] at hl; simp at hl; omega
  | cons c r =>
    have h1 := hd c (by rw [hs]; exact List.mem_cons_self ..)
    rw [hs] at hf2
    unfold Lib.parseIntB
    simp only
    rw [if_neg (by omega)]
    unfold Lib.parseUintB
    rw [if_neg (by simp), hf2]
    simp only
    have h3 : (2 : Nat) ^ (64 - 1) = 9223372036854775808 := by decide
    rw [if_neg (by rw [h3]; omega), if_neg (by omega), if_neg (by omega)]

theorem parseInt_ok (k : Nat) (hk : k ≤ 9223372036854775807) : Ctr (env n0 w0 gl) 134 [.str (Lib.decDigits k), .int .i64 10, .int .i64 64] H True (.tup [.int .i64 k, .nili]) H := .of fun _ =>
  AEnter.of_calls (fn := Tryz.f134) Tryz.func134 rfl rfl fun g w cs hr hv => by
    obtain ⟨c, ds, rfl, h1, h2⟩ := rels_cons hv
    obtain ⟨d, e, rfl, h3, h4⟩ := rels2 h2
    have := h3.int_inv; subst this
    have := h4.int_inv; subst this
    have := h1.str_inv; subst this
    have hsz : (⟨(Lib.decDigits k).toArray⟩ : ByteArray).size ≤ 9223372036854775806 := by
      show (Lib.decDigits k).toArray.size ≤ _
      rw [List.size_toArray, Lib.decDigits_length]; have := nDigits_le (u := k) (k := 20) (by omega) (by omega); omega
    have hrel : VRel g (.tup [.int .i64 k, .nili]) (.tuple #[.int .i64 k, .nilIface]) := .tup _ _ rfl (fun i => match i with | 0 => .int _ _ | 1 => .nili | _ + 2 => .top _)
    refine (Tryz.strconv_ParseInt_10_at64_ok ⟨(Lib.decDigits k).toArray⟩ hsz (k : Int) (by simpa using parse_dec k hk) w).mono ?_
    rintro e w' ⟨rfl, rfl | ⟨t, rfl⟩⟩
    · exact econc_same hr hrel
    · exact econc_ret hr (Lib.bytesWorld_below w _ t) hrel

theorem number_back (c d k : Nat) (rest : List UInt8) (hk : k ≤ 9223372036854775807) (hr : rest.length ≤ 100000000) (hcd : c ≠ d) (hH : H[c]? = some (.cells [.sl (putF (Lib.decDigits k) ++ rest).length (bytesAV (putF (Lib.decDigits k) ++ rest)) .ro])) (hD : H[d]? = some (.cells [.fn 131 [] [.ref c 0]])) :
    AEnter (env n0 w0 gl) 133 [.ref d 0] H (fun y H' => y = .ret (.int .i64 k) ∧ H' = H.set c (.cells [.sl rest.length (bytesAV rest) .ro])) := by
  have hdl : (Lib.decDigits k).length ≤ 1000000 := by rw [Lib.decDigits_length]; have := nDigits_le (u := k) (k := 20) (by omega) (by omega); omega
  have h1 : Ctr (env n0 w0 gl) 131 [.ref c 0] H True (.str (Lib.decDigits k)) (H.set c (.cells [.sl rest.length (bytesAV rest) .ro])) := .of fun _ => text_e c (Lib.decDigits k) rest hdl hr hH
  have h2 : ∀ H, Ctr (env n0 w0 gl) 134 [.str (Lib.decDigits k), .int .i64 10, .int .i64 64] H True (.tup [.int .i64 k, .nili]) H := fun H => parseInt_ok k hk
  have hh := hD
  refine enter (md := fun _ => 0) Tryz.func133 (fun hfit hgl => ?_)
  repeat' (first | refine go ?_ | (refine br (fun hc => ?_) (fun hc => ?_) <;> try (exfalso; omega)) | fail)
  exact .now ⟨rfl, rfl⟩

theorem text_r (c : Nat) (s rest r : List UInt8) (h0 : putF s ++ rest = r) (hs : s.length ≤ 1000000) (hr : rest.length ≤ 100000000) (hH : H[c]? = some (.cells [.sl r.length (bytesAV r) .ro])) :
    AEnter (env n0 w0 gl) 131 [.ref c 0] H (fun y H' => y = .ret (.str s) ∧ H' = H.set c (.cells [.sl rest.length (bytesAV rest) .ro])) := by
  subst h0; exact text_e c s rest hs hr hH
theorem number_r (c d k : Nat) (rest r : List UInt8) (h0 : putF (Lib.decDigits k) ++ rest = r) (hk : k ≤ 9223372036854775807) (hr : rest.length ≤ 100000000) (hcd : c ≠ d) (hH : H[c]? = some (.cells [.sl r.length (bytesAV r) .ro])) (hD : H[d]? = some (.cells [.fn 131 [] [.ref c 0]])) :
    AEnter (env n0 w0 gl) 133 [.ref d 0] H (fun y H' => y = .ret (.int .i64 k) ∧ H' = H.set c (.cells [.sl rest.length (bytesAV rest) .ro])) := by
  subst h0; exact number_back c d k rest hk hr hcd hH hD

end Go.Ab.Tryz

end

section
set_option linter.unusedSimpArgs false
set_option linter.unusedVariables false
set_option maxHeartbeats 4000000
set_option maxRecDepth 4000
namespace Go.Ab
variable {E : Env} {N : Nat} {ts : List AV} {ds : List ADef} {H : List AO}
open Go Go.RowKit
end Go.Ab
namespace Go.Ab.Tryz
open Go Go.Ab Go.Proofs
attribute [local irreducible] W Wl Wop TrA WSeq WLoopS FPost DPost RPost WRound DK onEnd
variable {n0 : Nat} {w0 : World} {gl : Nat → List AV} {H : List AO}
attribute [local simp] belowL_bytesAV belowL_strs

/-- The receivers read so far, in the message. -/
def toV (to : List (List UInt8)) (n i : Nat) : AV := match i with
  | 0 => .sl 0 [] .full
  | j + 1 => .sl (j + 1) ((to.take (j + 1)).map .str) (.at (n + 5) (j + 1))
def toT (i : Nat) : List AO := match i with
  | 0 => []
  | j + 1 => [.tail 1 (j + 1)]
theorem toS_succ {to : List (List UInt8)} {i : Nat} (h : i < to.length) : (to.take (i + 1)).map AV.str = (to.take i).map AV.str ++ [.str (to.getD i [])] := by
  rw [List.take_add_one, List.getElem?_eq_getElem h]
  simp only [Option.toList_some, List.map_append, List.map_cons, List.map_nil, List.getD_eq_getElem?_getD, List.getElem?_eq_getElem h, Option.getD_some]
theorem restTo {to : List (List UInt8)} {body : List UInt8} {i : Nat} (h : i < to.length) : putF (to.getD i []) ++ putL (to.drop (i + 1) ++ [body]) = putL (to.drop i ++ [body]) := by
  rw [List.drop_eq_getElem_cons h, List.cons_append, putL_cons]
  simp [List.getD_eq_getElem?_getD, h]

theorem decode1_e [ht : Tab10 n0 w0] (idn atn : Nat) (cls fro body b rs : List UInt8) (to : List (List UInt8)) (hid : idn ≤ 9223372036854775807) (hat : atn ≤ 9223372036854775807) (hcls : cls.length ≤ 1000000) (hfro : fro.length ≤ 1000000) (htl : to.length ≤ 100) (ht1 : 1 ≤ to.length)
    (hto : ∀ i, i < to.length → (to.getD i []).length ≤ 1000000) (hbody : body.length ≤ 1000000) (hrs : rs = putL (to ++ [body])) (hE : (Msg.mk idn cls fro to atn body).EncOk) (hS : (Msg.mk idn cls fro to atn body).Small) (hbe : (Msg.mk idn cls fro to atn body).enc = b) (hall : ∀ i, (putL (to.drop i ++ [body])).length ≤ 60000000) (hr : rs.length ≤ 60000000) (hb : b = putF (Lib.decDigits idn) ++ (putF cls ++ (putF fro ++ (putF (Lib.decDigits atn) ++ (putF (Lib.decDigits to.length) ++ rs))))) :
    AEnter (env n0 w0 gl) 130 [.ref H.length 0, .ref (H.length + 1) 0] (H ++ [.cells [.sl b.length (bytesAV b) .ro], .cells [.int .i64 0, .str [], .str [], .sl 0 [] .full, .int .i64 0, .sl 0 [] .full], .cells [.int .i64 0]]) (fun y H' => y = .ret (.tup []) ∧ H' = H ++ [.cells [.sl b.length (bytesAV b) .ro], .cells [.int .i64 idn, .str cls, .str fro, .sl to.length (to.map .str) .ro, .int .i64 atn, .sl body.length (bytesAV body) .ro], .cells [.int .i64 0]]) := by
  have hl1 := putF_len cls
  have hl2 := putF_len fro
  have hl3 := putF_len (Lib.decDigits atn)
  have hl4 := putF_len (Lib.decDigits to.length)
  have e2 : Lib.nDigits cls.length ≤ 7 := nDigits_le (by omega) (by omega)
  have e3 : Lib.nDigits fro.length ≤ 7 := nDigits_le (by omega) (by omega)
  have e4 : (Lib.decDigits atn).length ≤ 20 := by rw [Lib.decDigits_length]; exact nDigits_le (by omega) (by omega)
  have e5 : (Lib.decDigits to.length).length ≤ 20 := by rw [Lib.decDigits_length]; exact nDigits_le (by omega) (by omega)
  have e6 : Lib.nDigits (Lib.decDigits atn).length ≤ 7 := nDigits_le (by omega) (by omega)
  have e7 : Lib.nDigits (Lib.decDigits to.length).length ≤ 7 := nDigits_le (by omega) (by omega)
  generalize hr4 : putF (Lib.decDigits to.length) ++ rs = r4 at *
  generalize hr3 : putF (Lib.decDigits atn) ++ r4 = r3 at *
  generalize hr2 : putF fro ++ r3 = r2 at *
  generalize hr1 : putF cls ++ r2 = r1 at *
  have hb4 : r4.length ≤ 61000000 := by rw [← hr4, List.length_append]; omega
  have hb3 : r3.length ≤ 62000000 := by rw [← hr3, List.length_append]; omega
  have hb2 : r2.length ≤ 70000000 := by rw [← hr2, List.length_append]; omega
  have hb1 : r1.length ≤ 80000000 := by rw [← hr1, List.length_append]; omega
  have hn0 : Ctr (env n0 w0 gl) 133 [.ref (H.length + 4) 0] (H ++ [.cells [.sl b.length (bytesAV b) .ro], .cells [.int .i64 0, .str [], .str [], .sl 0 [] .full, .int .i64 0, .sl 0 [] .full], .cells [.int .i64 0], .cells [.sl b.length (bytesAV b) .ro], .cells [.fn 131 [] [.ref (H.length + 3) 0]]]) True (.int .i64 idn) (H ++ [.cells [.sl b.length (bytesAV b) .ro], .cells [.int .i64 0, .str [], .str [], .sl 0 [] .full, .int .i64 0, .sl 0 [] .full], .cells [.int .i64 0], .cells [.sl r1.length (bytesAV r1) .ro], .cells [.fn 131 [] [.ref (H.length + 3) 0]]]) := .of fun _ => by
    have := number_r (n0 := n0) (w0 := w0) (gl := gl) (H := (H ++ [.cells [.sl b.length (bytesAV b) .ro], .cells [.int .i64 0, .str [], .str [], .sl 0 [] .full, .int .i64 0, .sl 0 [] .full], .cells [.int .i64 0], .cells [.sl b.length (bytesAV b) .ro], .cells [.fn 131 [] [.ref (H.length + 3) 0]]])) (H.length + 3) (H.length + 4) idn r1 _ hb.symm hid (by omega) (by omega) (by simp) (by simp)
    simpa using this
  have hn1 : Ctr (env n0 w0 gl) 131 [.ref (H.length + 3) 0] (H ++ [.cells [.sl b.length (bytesAV b) .ro], .cells [.int .i64 0, .str [], .str [], .sl 0 [] .full, .int .i64 0, .sl 0 [] .full], .cells [.int .i64 0], .cells [.sl r1.length (bytesAV r1) .ro], .cells [.fn 131 [] [.ref (H.length + 3) 0]]]) True (.str cls) (H ++ [.cells [.sl b.length (bytesAV b) .ro], .cells [.int .i64 0, .str [], .str [], .sl 0 [] .full, .int .i64 0, .sl 0 [] .full], .cells [.int .i64 0], .cells [.sl r2.length (bytesAV r2) .ro], .cells [.fn 131 [] [.ref (H.length + 3) 0]]]) := .of fun _ => by
    have := text_r (n0 := n0) (w0 := w0) (gl := gl) (H := (H ++ [.cells [.sl b.length (bytesAV b) .ro], .cells [.int .i64 0, .str [], .str [], .sl 0 [] .full, .int .i64 0, .sl 0 [] .full], .cells [.int .i64 0], .cells [.sl r1.length (bytesAV r1) .ro], .cells [.fn 131 [] [.ref (H.length + 3) 0]]])) (H.length + 3) cls r2 _ hr1 hcls (by omega) (by simp)
    simpa using this
  have hn2 : Ctr (env n0 w0 gl) 131 [.ref (H.length + 3) 0] (H ++ [.cells [.sl b.length (bytesAV b) .ro], .cells [.int .i64 0, .str [], .str [], .sl 0 [] .full, .int .i64 0, .sl 0 [] .full], .cells [.int .i64 0], .cells [.sl r2.length (bytesAV r2) .ro], .cells [.fn 131 [] [.ref (H.length + 3) 0]]]) True (.str fro) (H ++ [.cells [.sl b.length (bytesAV b) .ro], .cells [.int .i64 0, .str [], .str [], .sl 0 [] .full, .int .i64 0, .sl 0 [] .full], .cells [.int .i64 0], .cells [.sl r3.length (bytesAV r3) .ro], .cells [.fn 131 [] [.ref (H.length + 3) 0]]]) := .of fun _ => by
    have := text_r (n0 := n0) (w0 := w0) (gl := gl) (H := (H ++ [.cells [.sl b.length (bytesAV b) .ro], .cells [.int .i64 0, .str [], .str [], .sl 0 [] .full, .int .i64 0, .sl 0 [] .full], .cells [.int .i64 0], .cells [.sl r2.length (bytesAV r2) .ro], .cells [.fn 131 [] [.ref (H.length + 3) 0]]])) (H.length + 3) fro r3 _ hr2 hfro (by omega) (by simp)
    simpa using this
  have hn3 : Ctr (env n0 w0 gl) 133 [.ref (H.length + 4) 0] (H ++ [.cells [.sl b.length (bytesAV b) .ro], .cells [.int .i64 0, .str [], .str [], .sl 0 [] .full, .int .i64 0, .sl 0 [] .full], .cells [.int .i64 0], .cells [.sl r3.length (bytesAV r3) .ro], .cells [.fn 131 [] [.ref (H.length + 3) 0]]]) True (.int .i64 atn) (H ++ [.cells [.sl b.length (bytesAV b) .ro], .cells [.int .i64 0, .str [], .str [], .sl 0 [] .full, .int .i64 0, .sl 0 [] .full], .cells [.int .i64 0], .cells [.sl r4.length (bytesAV r4) .ro], .cells [.fn 131 [] [.ref (H.length + 3) 0]]]) := .of fun _ => by
    have := number_r (n0 := n0) (w0 := w0) (gl := gl) (H := (H ++ [.cells [.sl b.length (bytesAV b) .ro], .cells [.int .i64 0, .str [], .str [], .sl 0 [] .full, .int .i64 0, .sl 0 [] .full], .cells [.int .i64 0], .cells [.sl r3.length (bytesAV r3) .ro], .cells [.fn 131 [] [.ref (H.length + 3) 0]]])) (H.length + 3) (H.length + 4) atn r4 _ hr3 hat (by omega) (by omega) (by simp) (by simp)
    simpa using this
  have hn4 : Ctr (env n0 w0 gl) 133 [.ref (H.length + 4) 0] (H ++ [.cells [.sl b.length (bytesAV b) .ro], .cells [.int .i64 idn, .str cls, .str fro, .sl 0 [] .full, .int .i64 atn, .sl 0 [] .full], .cells [.int .i64 0], .cells [.sl r4.length (bytesAV r4) .ro], .cells [.fn 131 [] [.ref (H.length + 3) 0]]]) True (.int .i64 to.length) (H ++ [.cells [.sl b.length (bytesAV b) .ro], .cells [.int .i64 idn, .str cls, .str fro, .sl 0 [] .full, .int .i64 atn, .sl 0 [] .full], .cells [.int .i64 0], .cells [.sl rs.length (bytesAV rs) .ro], .cells [.fn 131 [] [.ref (H.length + 3) 0]]]) := .of fun _ => by
    have := number_r (n0 := n0) (w0 := w0) (gl := gl) (H := (H ++ [.cells [.sl b.length (bytesAV b) .ro], .cells [.int .i64 idn, .str cls, .str fro, .sl 0 [] .full, .int .i64 atn, .sl 0 [] .full], .cells [.int .i64 0], .cells [.sl r4.length (bytesAV r4) .ro], .cells [.fn 131 [] [.ref (H.length + 3) 0]]])) (H.length + 3) (H.length + 4) to.length rs _ hr4 (by omega) (by omega) (by omega) (by simp) (by simp)
    simpa using this
  refine enter (md := fun _ => 0) Tryz.func130 (fun hfit hgl => ?_)
  refine gos ?_
  refine wseq_normal ?_
  refine gos ?_
  refine wseq_normal ?_
  refine gos ?_
  refine wseq_normal ?_
  refine w_seq ?_
  refine w_drawnP (fun X => X[H.length + 4]? = some (.cells [.fn 131 [] [.ref (H.length + 3) 0]])) (by intro _ h; cases h) (by simp only [List.length_cons, List.length_nil, Nat.reduceAdd]; exact rfl) ?_
  refine goP ?_
  refine wseq_normal ?_
  repeat' (first | refine go ?_ | (refine br (fun hc => ?_) (fun hc => ?_) <;> try (exfalso; omega)) | fail)
  rw [hrs]
  refine loop (fun i : Nat => (.ref H.length 0 :: .ref (H.length + 1) 0 :: .ref (H.length + 3) 0 :: .ref (H.length + 4) 0 :: .top :: .top :: .top :: .top :: .top :: .top :: .top :: .top :: .top :: .top :: .top :: .top :: .top :: .top :: .top :: .top :: .top :: .top :: .top :: .top :: .top :: .top :: .top :: .top :: .top :: .top :: .top :: .top :: .top :: .top :: .int .i64 to.length :: .int .i64 (i : Int) :: .top :: .top :: .top :: .top :: .top :: .top :: .top :: .top :: .top :: .top :: .top :: .top :: .top :: .top :: .top :: .top :: .top :: .top :: .top :: .top :: .top :: .top :: .top :: .top :: .top :: .top :: .top :: .top :: [])) (fun i => H ++ ([.cells [.sl b.length (bytesAV b) .ro], .cells [.int .i64 idn, .str cls, .str fro, toV to H.length i, .int .i64 atn, .sl 0 [] .full], .cells [.int .i64 0], .cells [.sl (putL (to.drop i ++ [body])).length (bytesAV (putL (to.drop i ++ [body]))) .ro], .cells [.fn 131 [] [.ref (H.length + 3) 0]]] ++ toT i)) (fun i => i ≤ to.length) (fun i => to.length - i) 0 (Nat.zero_le _) ?_
  intro i hi
  by_cases hlt : i < to.length
  · have hsu := toS_succ hlt
    match i, hlt, hi, hsu with
    | 0, hlt, hi, hsu =>
      simp only [toV, toT, List.append_nil]
      skip
      have hx : Ctr (env n0 w0 gl) 131 [.ref (H.length + 3) 0] (H ++ [.cells [.sl b.length (bytesAV b) .ro], .cells [.int .i64 idn, .str cls, .str fro, .sl 0 [] .full, .int .i64 atn, .sl 0 [] .full], .cells [.int .i64 0], .cells [.sl (putL (to.drop 0 ++ [body])).length (bytesAV (putL (to.drop 0 ++ [body]))) .ro], .cells [.fn 131 [] [.ref (H.length + 3) 0]]]) True (.str (to.getD 0 [])) (H ++ [.cells [.sl b.length (bytesAV b) .ro], .cells [.int .i64 idn, .str cls, .str fro, .sl 0 [] .full, .int .i64 atn, .sl 0 [] .full], .cells [.int .i64 0], .cells [.sl (putL (to.drop (0 + 1) ++ [body])).length (bytesAV (putL (to.drop (0 + 1) ++ [body]))) .ro], .cells [.fn 131 [] [.ref (H.length + 3) 0]]]) := .of fun _ => by
        have := text_r (n0 := n0) (w0 := w0) (gl := gl) (H := (H ++ [.cells [.sl b.length (bytesAV b) .ro], .cells [.int .i64 idn, .str cls, .str fro, .sl 0 [] .full, .int .i64 atn, .sl 0 [] .full], .cells [.int .i64 0], .cells [.sl (putL (to.drop 0 ++ [body])).length (bytesAV (putL (to.drop 0 ++ [body]))) .ro], .cells [.fn 131 [] [.ref (H.length + 3) 0]]])) (H.length + 3) (to.getD 0 []) (putL (to.drop (0 + 1) ++ [body])) _ (restTo hlt) (hto _ hlt) (by have := hall (0 + 1); omega) (by simp)
        simpa using this

      have hh := hlt
      refine gos ?_
      refine wseq_normal ?_
      refine gos ?_
      refine wseq_normal ?_
      refine w_seq ?_
      refine w_block ?_
      refine w_drawnP (fun X => X[H.length + 1]? = some (.cells [.int .i64 idn, .str cls, .str fro, .sl 0 [] .full, .int .i64 atn, .sl 0 [] .full]) ∧ X[H.length + 4]? = some (.cells [.fn 131 [] [.ref (H.length + 3) 0]])) (by intro _ h; cases h) (by simp only [List.length_cons, List.length_nil, Nat.reduceAdd]; exact rfl) ?_
      refine goP ?_
      repeat' (first | refine go ?_ | (refine br (fun hc => ?_) (fun hc => ?_) <;> try (exfalso; omega)) | fail)
      rw [show [AV.str (to.getD 0 [])] = (to.take 1).map .str by rw [hsu]; rfl]
      exact again 1 (by omega)
    | j + 1, hlt, hi, hsu =>
      simp only [toV, toT, List.cons_append, List.nil_append]
      have hx : Ctr (env n0 w0 gl) 131 [.ref (H.length + 3) 0] (H ++ [.cells [.sl b.length (bytesAV b) .ro], .cells [.int .i64 idn, .str cls, .str fro, (.sl (j + 1) ((to.take (j + 1)).map .str) (.at (H.length + 5) (j + 1))), .int .i64 atn, .sl 0 [] .full], .cells [.int .i64 0], .cells [.sl (putL (to.drop (j + 1) ++ [body])).length (bytesAV (putL (to.drop (j + 1) ++ [body]))) .ro], .cells [.fn 131 [] [.ref (H.length + 3) 0]], .tail 1 (j + 1)]) True (.str (to.getD (j + 1) [])) (H ++ [.cells [.sl b.length (bytesAV b) .ro], .cells [.int .i64 idn, .str cls, .str fro, (.sl (j + 1) ((to.take (j + 1)).map .str) (.at (H.length + 5) (j + 1))), .int .i64 atn, .sl 0 [] .full], .cells [.int .i64 0], .cells [.sl (putL (to.drop (j + 1 + 1) ++ [body])).length (bytesAV (putL (to.drop (j + 1 + 1) ++ [body]))) .ro], .cells [.fn 131 [] [.ref (H.length + 3) 0]], .tail 1 (j + 1)]) := .of fun _ => by
        have := text_r (n0 := n0) (w0 := w0) (gl := gl) (H := (H ++ [.cells [.sl b.length (bytesAV b) .ro], .cells [.int .i64 idn, .str cls, .str fro, (.sl (j + 1) ((to.take (j + 1)).map .str) (.at (H.length + 5) (j + 1))), .int .i64 atn, .sl 0 [] .full], .cells [.int .i64 0], .cells [.sl (putL (to.drop (j + 1) ++ [body])).length (bytesAV (putL (to.drop (j + 1) ++ [body]))) .ro], .cells [.fn 131 [] [.ref (H.length + 3) 0]], .tail 1 (j + 1)])) (H.length + 3) (to.getD (j + 1) []) (putL (to.drop (j + 1 + 1) ++ [body])) _ (restTo hlt) (hto _ hlt) (by have := hall (j + 1 + 1); omega) (by simp)
        simpa using this

      have hl1 : (to.take (j + 1)).length = j + 1 := by rw [List.length_take]; omega
      have hl2 : ((to.take (j + 1)).map AV.str).length = j + 1 := by rw [List.length_map, hl1]
      have hh := And.intro hl1 hl2
      refine gos ?_
      refine wseq_normal ?_
      refine gos ?_
      refine wseq_normal ?_
      refine w_seq ?_
      refine w_block ?_
      refine w_drawnP (fun X => X[H.length + 1]? = some (.cells [.int .i64 idn, .str cls, .str fro, (.sl (j + 1) ((to.take (j + 1)).map .str) (.at (H.length + 5) (j + 1))), .int .i64 atn, .sl 0 [] .full]) ∧ X[H.length + 4]? = some (.cells [.fn 131 [] [.ref (H.length + 3) 0]])) (by intro _ h; cases h) (by simp only [List.length_cons, List.length_nil, Nat.reduceAdd]; exact rfl) ?_
      refine goP ?_
      repeat' (first | refine go ?_ | (refine br (fun hc => ?_) (fun hc => ?_) <;> try (exfalso; omega)) | fail)
      rw [← hsu]
      exact again (j + 2) (by omega)
  · obtain rfl : i = to.length := by omega
    have hV : toV to H.length to.length = .sl to.length (to.map .str) (.at (H.length + 5) to.length) := by
      obtain ⟨tl, htl1⟩ : ∃ j, to.length = j + 1 := ⟨to.length - 1, by omega⟩
      have : to.take to.length = to := List.take_length
      rw [htl1] at this ⊢
      simp only [toV, this]
    have hT : toT to.length = [.tail 1 to.length] := by
      obtain ⟨tl, htl1⟩ : ∃ j, to.length = j + 1 := ⟨to.length - 1, by omega⟩
      rw [htl1]; rfl
    simp only [hV, hT, List.drop_length, List.nil_append, List.cons_append]
    refine gos ?_
    refine wseq_normal ?_
    refine gos ?_
    refine wseq_shift (Shift.cells (H.length + 1) (xs := [.int .i64 idn, .str cls, .str fro, .sl to.length (to.map .str) (.at (H.length + 5) to.length), .int .i64 atn, .sl 0 [] .full]) (ys := [.int .i64 idn, .str cls, .str fro, .sl to.length (to.map .str) .ro, .int .i64 atn, .sl 0 [] .full]) (by simp) rfl (fun g k c r => by
      match k, r with
      | 0, r => exact r
      | 1, r => exact r
      | 2, r => exact r
      | 3, r => exact slRo r
      | 4, r => exact r
      | 5, r => exact r
      | k + 6, r => exact r)) ?_
    rw [show ∀ x y : AO, (H ++ [.cells [.sl b.length (bytesAV b) .ro], x, .cells [.int .i64 0], .cells [.sl (putL [body]).length (bytesAV (putL [body])) .ro], .cells [.fn 131 [] [.ref (H.length + 3) 0]], .tail 1 to.length]).set (H.length + 1) y = H ++ [.cells [.sl b.length (bytesAV b) .ro], y, .cells [.int .i64 0], .cells [.sl (putL [body]).length (bytesAV (putL [body])) .ro], .cells [.fn 131 [] [.ref (H.length + 3) 0]], .tail 1 to.length] from fun _ _ => by simp]
    have hx : Ctr (env n0 w0 gl) 131 [.ref (H.length + 3) 0] (H ++ [.cells [.sl b.length (bytesAV b) .ro], .cells [.int .i64 idn, .str cls, .str fro, .sl to.length (to.map .str) .ro, .int .i64 atn, .sl 0 [] .full], .cells [.int .i64 0], .cells [.sl (putL [body]).length (bytesAV (putL [body])) .ro], .cells [.fn 131 [] [.ref (H.length + 3) 0]], .tail 1 to.length]) True (.str body) (H ++ [.cells [.sl b.length (bytesAV b) .ro], .cells [.int .i64 idn, .str cls, .str fro, .sl to.length (to.map .str) .ro, .int .i64 atn, .sl 0 [] .full], .cells [.int .i64 0], .cells [.sl 0 [] .ro], .cells [.fn 131 [] [.ref (H.length + 3) 0]], .tail 1 to.length]) := .of fun _ => by
      have := text_r (n0 := n0) (w0 := w0) (gl := gl) (H := (H ++ [.cells [.sl b.length (bytesAV b) .ro], .cells [.int .i64 idn, .str cls, .str fro, .sl to.length (to.map .str) .ro, .int .i64 atn, .sl 0 [] .full], .cells [.int .i64 0], .cells [.sl (putL [body]).length (bytesAV (putL [body])) .ro], .cells [.fn 131 [] [.ref (H.length + 3) 0]], .tail 1 to.length])) (H.length + 3) body [] _ (show putF body ++ [] = putL [body] by simp [putL]) hbody (by simp) (by simp)
      simpa [show bytesAV [] = [] from rfl] using this
    have hen : ∀ H, Ctr (env n0 w0 gl) 66 [.agg [.int .i64 idn, .str cls, .str fro, .sl to.length (to.map .str) .ro, .int .i64 atn, .sl body.length (bytesAV body) .ro]] H True (.tup [.sl b.length (bytesAV b) .ro, .int .i64 0]) H := fun H => .of fun _ => by
      have := encode_ok (n0 := n0) (w0 := w0) (gl := gl) (H := H) _ hS hE
      rwa [hbe] at this
    have heq : ∀ H tok tok2, Ctr (env n0 w0 gl) 44 [.sl b.length (bytesAV b) tok, .sl b.length (bytesAV b) tok2] H True (.bool true) H := fun H tok tok2 => ⟨fun _ => by
      have := (equal_t (n0 := n0) (w0 := w0) (gl := gl) (H := H) b b tok tok2).call trivial
      rwa [show (b == b) = true by simp] at this⟩
    have hgl2 : ∀ i, belowL (H.length + 3) ((env n0 w0 gl).gl i) = true := by simpa using hgl
    have hfit2 : Fit (H.length + 3) H := fun o ho => by have := hfit o (List.mem_append_left _ ho); simpa using this
    repeat' (first | refine go ?_ | (refine br (fun hc => ?_) (fun hc => ?_) <;> try (exfalso; omega)) | fail)
    rw [show ∀ x1 x2 x3 x4 x5 x6 : AO, H ++ [x1, x2, x3, x4, x5, x6] = (H ++ [x1, x2, x3]) ++ [x4, x5, x6] from fun _ _ _ _ _ _ => by simp]
    exact .junkd ⟨rfl, rfl⟩

theorem enc_mk (idn atn : Nat) (cls fro body : List UInt8) (to : List (List UInt8)) : (Msg.mk idn cls fro to atn body).enc = putF (Lib.decDigits idn) ++ (putF cls ++ (putF fro ++ (putF (Lib.decDigits atn) ++ (putF (Lib.decDigits to.length) ++ putL (to ++ [body]))))) := by
  simp [Msg.enc, Msg.parts, Msg.headP, roP, putL, Function.comp_def]

/-- What was made of a message is read again as it was. -/
theorem decode_enc [ht : Tab10 n0 w0] (m : Msg) (hS : m.Small) (hE : m.EncOk) : AEnter (env n0 w0 gl) 81 [.sl m.enc.length (bytesAV m.enc) .ro] H (fun y H' => y = .ret (.tup [.agg m.av, .int .i64 0]) ∧ H' = H) := by
  obtain ⟨id, cls, fro, to, at_, body⟩ := m
  have hC := hE.1
  have hI := hE.2
  simp only at hC hI
  have hat0 : 0 ≤ at_ := hC.2.2.2.1
  have hat9 : at_ ≤ 9223372036854775807 := hS.1
  obtain ⟨idn, rfl⟩ : ∃ k : Nat, id = (k : Int) := ⟨id.toNat, by omega⟩
  obtain ⟨atn, rfl⟩ : ∃ k : Nat, at_ = (k : Int) := ⟨at_.toNat, by omega⟩
  have hto : ∀ i, i < to.length → (to.getD i []).length ≤ 1000000 := fun i hi => by have := mailbox_len (hC.2.2.2.2.2 i hi); omega
  have hfro : fro.length ≤ 1000000 := by
    rcases hC.1 with h | h
    · omega
    · have := mailbox_len h; omega
  have hbody : body.length ≤ 500000 := hC.2.2.2.2.1
  have hall : ∀ i, (putL (to.drop i ++ [body])).length ≤ 60000000 := fun i => by
    have := putL_bound (B := 500000) (by decide) (to.drop i ++ [body]) (fun s hs => by
      rcases List.mem_append.1 hs with h | h
      · obtain ⟨j, hj, rfl⟩ := List.getElem_of_mem (List.mem_of_mem_drop h)
        have := mailbox_len (hC.2.2.2.2.2 j hj)
        rw [List.getD_eq_getElem?_getD, List.getElem?_eq_getElem hj] at this
        simp only [Option.getD_some] at this; omega
      · simp only [List.mem_singleton] at h; subst h; exact hbody)
    have hl : (to.drop i ++ [body]).length ≤ 101 := by
      have := hC.2.2.1
      rw [List.length_append, List.length_drop]; simp only [List.length_cons, List.length_nil]; omega
    have h7 : (to.drop i ++ [body]).length * (500000 + 22) ≤ 101 * (500000 + 22) := Nat.mul_le_mul_right _ hl
    omega
  have hmk := enc_mk idn atn cls fro body to
  generalize hb : (Msg.mk idn cls fro to atn body).enc = b at *
  have h1 := decode1_e (n0 := n0) (w0 := w0) (gl := gl) (H := H) idn atn cls fro body b (putL (to ++ [body])) to (by omega) (by omega) (by have := hI.2.2.2.2; omega) hfro hC.2.2.1 hC.2.1 hto (by omega) rfl hE hS hb hall (by have := hall 0; simpa using this) hmk
  simp only [Msg.av]
  refine enter (md := fun _ => 0) Tryz.func81 (fun hfit hgl => ?_)
  repeat' (first | refine go ?_ | (refine br (fun hc => ?_) (fun hc => ?_) <;> try (exfalso; omega)) | fail)
  ((with_reducible apply wop_call); (· rfl); (· rfl); (· (simp only [AAct.ev, List.getD_cons_zero, List.getD_cons_succ, constAV, env_gl]; try exact rfl)); (· (simp only [evCallArgs, List.map_cons, List.map_nil, List.nil_append, List.append_nil, List.cons_append, Array.toList, List.toList_toArray, AAct.ev, List.getD_cons_zero, List.getD_cons_succ, constAV, env_gl]; try exact rfl)))
  refine ((caught_t (R := fun x H' => x = .ret (.int .i64 0) ∧ H' = H ++ [.cells [.sl b.length (bytesAV b) .ro], .cells [.int .i64 idn, .str cls, .str fro, .sl to.length (to.map .str) .ro, .int .i64 atn, .sl body.length (bytesAV body) .ro]]) _ [] _ ?_).call).mono ?_
  · intro hf2
    rw [List.append_assoc]
    refine h1.call.mono ?_
    have hfit2 : Fit (H.length + 2) H := fun o ho => by have := hf2 o (List.mem_append_left _ ho); simpa using this
    have hgl2 : ∀ i, belowL (H.length + 2) ((env n0 w0 gl).gl i) = true := fun i => belowL_mono (by omega) _ (hgl i)
    rintro x H' ⟨rfl, rfl⟩
    refine ⟨by simp, .inl ⟨rfl, ?_⟩⟩
    rw [show ∀ a b c : AO, H ++ [a, b, c] = (H ++ [a, b]) ++ [c] from fun _ _ _ => by simp]
    exact .junkd ⟨rfl, rfl⟩
  · rintro x H' ⟨rfl, rfl⟩
    repeat' (first | refine go ?_ | (refine br (fun hc => ?_) (fun hc => ?_) <;> try (exfalso; omega)) | fail)
    exact .junkd ⟨rfl, rfl⟩

end Go.Ab.Tryz

end
