/- Walks: the boundary that is not in any bytes; texts, each a line. -/
import Derived.Test.YtpdjgbpmlckepaaDoorLConv3
import Derived.Test.YtpdjgbpmlckepaaDoorLMbox1
import Derived.Test.YtpdjgbpmlckepaaDoorLHead4
import Derived.Test.YtpdjgbpmlckepaaDoorLBuild
import Derived.Test.YtpdjgbpmlckepaaDoorSMime
import Derived.Lib.ItoaMem
import Derived.Lib.ItoaLen
set_option linter.unusedSimpArgs false
set_option linter.unusedVariables false
set_option maxHeartbeats 2000000
set_option maxRecDepth 4000
namespace Go.Ab.Tryd
open Go Go.Ab Go.Proofs
attribute [local irreducible] W Wl Wop TrA WSeq WLoopS FPost DPost RPost WRound DK onEnd
variable {n0 : Nat} {w0 : World} {gl : Nat → List AV} {H : List AO}
attribute [local simp] belowL_bytesAV

instance index_any_t [hml : GLInt gl 0] (s t : List UInt8) (n k : Nat) (tok tok2 : Tok) : Ctr (env n0 w0 gl) 135 [.sl n (bytesAV s) tok, .sl k (bytesAV t) tok2] H (s.length = n ∧ t.length = k ∧ n < 4294967281 ∧ 2 ≤ k ∧ k ≤ 1000000000) (.int .i64 (Lib.index s t)) H := .of fun ⟨hs1, ht1, hs, hk2, hk3⟩ =>
  AEnter.of_calls (fn := Tryd.f135) Tryd.func135 rfl rfl fun g w cs hr hv => by
    subst hs1; subst ht1
    obtain ⟨c, d, rfl, h1, h2⟩ := rels2 hv
    rcases sl_bytes (s := t) hr h2 rfl with ⟨_, h⟩ | ⟨a2, c2, rfl, hc2, hcell2⟩
    · rw [h] at hk2; simp at hk2
    rcases sl_bytes hr h1 rfl with ⟨rfl, rfl⟩ | ⟨a1, c1, rfl, hc1, hcell1⟩
    · refine (Tryd.bytes_Index_nil _ t.length c2 w (by omega) (by omega)).mono ?_
      rintro e w' ⟨rfl, rfl⟩
      have : Lib.index [] t = if t.length = 0 then 0 else -1 := by
        unfold Lib.index; cases t <;> simp
      rw [this]
      exact econc_same hr (.int _ _)
    · obtain ⟨m, hm⟩ := hml.ex
      obtain ⟨v, hv1, hv2⟩ := gl_cell hr 0 (l := [.int .i64 m]) hm 0 (by simp)
      have hv3 := hv2.int_inv
      subst hv3
      refine (Any.bytes_Index_at { Tryd.laysM185 with } a1 a2 s.length c1 t.length c2 (s.map fun b => (b.toNat : Int)) (t.map fun b => (b.toNat : Int)) m w (by simp) (by simp) ?_ ?_ ?_ ?_ hc1 hs (by omega) hv1).mono ?_
      · intro x hx
        obtain ⟨b, _, rfl⟩ := List.mem_map.1 hx
        have := b.toNat_lt
        omega
      · intro x hx
        obtain ⟨b, _, rfl⟩ := List.mem_map.1 hx
        have := b.toNat_lt
        omega
      · intro i hi
        rw [(hcell1 i hi).2]
        simp [List.getD_eq_getElem?_getD, hi]
      · intro i hi
        rw [(hcell2 i hi).2]
        simp [List.getD_eq_getElem?_getD, hi]
      · rintro e w' ⟨rfl, q, rfl⟩
        rw [bytesOf_ints, bytesOf_ints]
        exact econc_ret hr ((RowKit.Below.refl _ _).trans ⟨rfl, rfl, rfl, Nat.le_refl _, fun _ _ => rfl⟩) (.int _ _)

instance contains_t [hml : GLInt gl 0] (s t : List UInt8) (n k : Nat) (tok tok2 : Tok) : Ctr (env n0 w0 gl) 97 [.sl n (bytesAV s) tok, .sl k (bytesAV t) tok2] H (s.length = n ∧ t.length = k ∧ n < 4294967281 ∧ 2 ≤ k ∧ k ≤ 1000000000) (.bool (!decide (Lib.index s t = -1))) H := .of fun ⟨hs1, ht1, hs, hk2, hk3⟩ => by
  refine enter (md := fun _ => 0) Tryd.func97 (fun hfit hgl => ?_)
  repeat' (first | refine go ?_ | (refine br (fun hc => ?_) (fun hc => ?_) <;> try (exfalso; omega)) | fail)
  exact .now ⟨rfl, rfl⟩

theorem boundary_e [ht : Tab10 n0 w0] [hml : GLInt gl 0] (b : List UInt8) (hb : b.length ≤ 1000000) : AEnter (env n0 w0 gl) 45 [.sl b.length (bytesAV b) .ro] H (fun y H' => y = .ret (.str (bdS b)) ∧ H' = H) := by
  have hle := bdN_le b
  have hle2 : (b.length + 1) * (b.length + 1) ≤ 1000001 * 1000001 := Nat.mul_le_mul (by omega) (by omega)
  refine enter (md := fun _ => 0) Tryd.func45 (fun hfit hgl => ?_)
  repeat' (first | refine go ?_ | (refine br (fun hc => ?_) (fun hc => ?_) <;> try (exfalso; omega)) | fail)
  refine loop (fun i : Nat => (.sl b.length (bytesAV b) .ro :: .top :: .str [] :: .int .i64 (i : Int) :: .top :: .top :: .top :: .top :: .top :: .top :: .top :: .top :: .top :: .top :: .top :: .top :: .top :: [])) (fun _ => H) (fun i => i ≤ bdN b) (fun i => bdN b - i) 0 (Nat.zero_le _) ?_
  intro i hi
  have hit : Lib.itoa ((i : Nat) : Int) = Lib.decDigits i := Lib.itoa_nonneg _
  have hdl : (Lib.decDigits i).length ≤ 21 := by rw [← hit]; exact Lib.itoa_length_le _ (by omega) (by omega)
  have hh := And.intro hit hdl
  repeat' (first | refine go ?_ | (refine br (fun hc => ?_) (fun hc => ?_) <;> try (exfalso; omega)) | fail)
  · have e := bdN_eq hc hi
    refine .now ⟨?_, rfl⟩
    unfold bdS; rw [← e]; rfl
  · refine again (i + 1) ?_ (by have : i ≠ bdN b := fun e => hc (e ▸ bdN_at b); omega)
    have : i ≠ bdN b := fun e => hc (e ▸ bdN_at b)
    omega
instance boundary_t [ht : Tab10 n0 w0] [hml : GLInt gl 0] (b : List UInt8) : Ctr (env n0 w0 gl) 45 [.sl b.length (bytesAV b) .ro] H (b.length ≤ 1000000) (.str (bdS b)) H := .of fun h => boundary_e b h

theorem take_drop_len (s : List UInt8) (i k : Nat) : List.drop i (List.take (i + k) s) = (s.drop i).take k := by
  rw [List.drop_take]; congr 1; omega

instance in_t (s t : List UInt8) : Ctr (env n0 w0 gl) 103 [.str s, .str t] H (s.length ≤ 1000000000 ∧ t.length ≤ 1000000000) (.int .i64 (Lib.index s t)) H := .of fun ⟨hs, ht⟩ => by
  refine enter (md := fun _ => 0) Tryd.func103 (fun hfit hgl => ?_)
  repeat' (first | refine go ?_ | (refine br (fun hc => ?_) (fun hc => ?_) <;> try (exfalso; omega)) | fail)
  refine loop (fun i : Nat => (.str s :: .str t :: .top :: .top :: .int .i64 0 :: .int .i64 (i : Int) :: .top :: .top :: .top :: .top :: .top :: .top :: .top :: .top :: .top :: .top :: .top :: .top :: .top :: .top :: .top :: .top :: .top :: .top :: .top :: [])) (fun _ => H) (fun i => i ≤ s.length + 1 ∧ ∀ k, k < i → (s.drop k).take t.length ≠ t) (fun i => s.length + 1 - i) 0 ⟨Nat.zero_le _, fun k h => absurd h (Nat.not_lt_zero _)⟩ ?_
  rintro i ⟨hi, hall⟩
  by_cases hlt : i + t.length ≤ s.length
  · have hpl : (i : Int) + (t.length : Int) = ((i + t.length : Nat) : Int) := by omega
    have hh := And.intro (take_drop_len s i t.length) hpl
    repeat' (first | refine go ?_ | (refine br (fun hc => ?_) (fun hc => ?_) <;> try (exfalso; omega)) | fail)
    · have e := index_at i s t hlt hc hall
      exact .now ⟨by rw [e], rfl⟩
    · refine again (i + 1) ⟨by omega, fun k hk => ?_⟩ (by omega)
      rcases Nat.lt_succ_iff_lt_or_eq.1 hk with h | h
      · exact hall k h
      · subst h; exact hc
  · have e := index_no s t fun k hk => hall k (by omega)
    rw [e]
    repeat' (first | refine go ?_ | (refine br (fun hc => ?_) (fun hc => ?_) <;> try (exfalso; omega)) | fail)
    exact .now ⟨rfl, rfl⟩

theorem boundary11_e [ht : Tab10 n0 w0] (b : List UInt8) (hb : b.length ≤ 1000000) : AEnter (env n0 w0 gl) 105 [.sl b.length (bytesAV b) .ro] H (fun y H' => y = .ret (.str (bdS b)) ∧ H' = H) := by
  have hle := bdN_le b
  have hle2 : (b.length + 1) * (b.length + 1) ≤ 1000001 * 1000001 := Nat.mul_le_mul (by omega) (by omega)
  refine enter (md := fun _ => 0) Tryd.func105 (fun hfit hgl => ?_)
  repeat' (first | refine go ?_ | (refine br (fun hc => ?_) (fun hc => ?_) <;> try (exfalso; omega)) | fail)
  refine loop (fun i : Nat => (.sl b.length (bytesAV b) .ro :: .top :: .str [] :: .int .i64 (i : Int) :: .top :: .top :: .top :: .top :: .top :: .top :: .top :: .top :: .top :: .top :: .top :: .top :: .top :: [])) (fun _ => H) (fun i => i ≤ bdN b) (fun i => bdN b - i) 0 (Nat.zero_le _) ?_
  intro i hi
  have hit : Lib.itoa ((i : Nat) : Int) = Lib.decDigits i := Lib.itoa_nonneg _
  have hdl : (Lib.decDigits i).length ≤ 21 := by rw [← hit]; exact Lib.itoa_length_le _ (by omega) (by omega)
  have hge := Lib.index_ge b (needle i)
  have hh := And.intro hit hdl
  by_cases hx : Lib.index b (needle i) = -1
  · have e := bdN_eq hx hi
    have hneg : Lib.index b (45 :: 45 :: 106 :: 111 :: 117 :: 114 :: 110 :: 97 :: 108 :: 45 :: Lib.decDigits i) < 0 := by
      have : Lib.index b (45 :: 45 :: 106 :: 111 :: 117 :: 114 :: 110 :: 97 :: 108 :: 45 :: Lib.decDigits i) = -1 := hx
      omega
    repeat' (first | refine go ?_ | (refine br (fun hc => ?_) (fun hc => ?_) <;> try (exfalso; omega)) | fail)
    refine .now ⟨?_, rfl⟩
    unfold bdS; rw [← e]; rfl
  · have hneg : 0 ≤ Lib.index b (45 :: 45 :: 106 :: 111 :: 117 :: 114 :: 110 :: 97 :: 108 :: 45 :: Lib.decDigits i) := by
      have h2 : Lib.index b (45 :: 45 :: 106 :: 111 :: 117 :: 114 :: 110 :: 97 :: 108 :: 45 :: Lib.decDigits i) ≠ -1 := hx
      have h3 : -1 ≤ Lib.index b (45 :: 45 :: 106 :: 111 :: 117 :: 114 :: 110 :: 97 :: 108 :: 45 :: Lib.decDigits i) := hge
      omega
    have : i ≠ bdN b := fun e => hx (e ▸ bdN_at b)
    repeat' (first | refine go ?_ | (refine br (fun hc => ?_) (fun hc => ?_) <;> try (exfalso; omega)) | fail)
    exact again (i + 1) (by omega) (by omega)
instance boundary11_t [ht : Tab10 n0 w0] (b : List UInt8) : Ctr (env n0 w0 gl) 105 [.sl b.length (bytesAV b) .ro] H (b.length ≤ 1000000) (.str (bdS b)) H := .of fun h => boundary11_e b h

/-- A row of texts. -/
theorem sl_strs {E : Env} {g : Ghost} {w : World} {n : Nat} {xs : List (List UInt8)} {tok : Tok} {c : Value} (hr : E.Rep g H w) (h : VRel g (.sl n (xs.map .str) tok) c) (hn : xs.length = n) (h0 : 0 < n) :
    ∃ b o cap, c = .slice (some ⟨b, o, none⟩) n cap ∧ n ≤ cap ∧ b < w.heap.size ∧ ∀ i x, xs[i]? = some x → w.cell? ⟨b, o + i, none⟩ = some (.string ⟨x.toArray⟩) := by
  generalize hx : xs.map AV.str = ys at h
  cases h with
  | nsl => exact absurd h0 (Nat.lt_irrefl _)
  | sl _ _ _ b o cap vs h1 hk hv ht =>
    subst hx
    refine ⟨b, o, cap, rfl, h1, hr.K_lt (hk 0 (by simp; omega)), fun i x hi => ?_⟩
    have hil : i < xs.length := (List.getElem?_eq_some_iff.1 hi).1
    have h2 := hr.know _ _ _ (hk i (by simpa using hil))
    have h3 := hv i
    have h4 : (xs.map AV.str).getD i .top = .str x := by simp [List.getD_eq_getElem?_getD, hi]
    rw [h4] at h3
    rw [h2, h3.str_inv]

instance lines11_t (xs : List (List UInt8)) (n : Nat) (tok : Tok) : Ctr (env n0 w0 gl) 54 [.sl n (xs.map .str) tok] H (xs.length = n ∧ 0 < n ∧ n ≤ 1000000000 ∧ (linesB xs).length ≤ 140737488355328) (.str (linesB xs)) H := .of fun ⟨hn, h0, hn2, hl⟩ =>
  AEnter.of_calls (fn := Tryd.f54) Tryd.func54 rfl rfl fun g w cs hr hv => by
    obtain ⟨c, rfl, h1⟩ := rels1 hv
    obtain ⟨b, o, cap, rfl, hc, hlt, hcell⟩ := sl_strs hr h1 hn h0
    have hm : (xs.map fun x => (⟨x.toArray⟩ : ByteArray)).map (·.data.toList) = xs := by
      rw [List.map_map]
      conv => rhs; rw [← List.map_id xs]
      exact List.map_congr_left fun x _ => by simp
    have key := Tryd.mime_lines b o cap (xs.map fun x => (⟨x.toArray⟩ : ByteArray)) w (fun j x hj => by
      rw [List.getElem?_map] at hj
      cases hx : xs[j]? with
      | none => rw [hx] at hj; simp at hj
      | some y => rw [hx] at hj; simp only [Option.map_some, Option.some.injEq] at hj; subst hj; exact hcell j y hx) hlt (by rw [List.length_map]; omega) (by rw [List.length_map]; omega) (by rw [hm]; exact hl)
    rw [hm, List.length_map, hn] at key
    refine key.mono ?_
    rintro e w' ⟨rfl, hb⟩
    exact econc_ret hr hb (.str _ _ rfl)

end Go.Ab.Tryd
