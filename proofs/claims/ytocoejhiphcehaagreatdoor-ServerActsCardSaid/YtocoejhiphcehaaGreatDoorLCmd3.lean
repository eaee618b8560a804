/- Walks: a size, an address behind a verb, what stands behind a verb. -/
import Derived.Test.YtocoejhiphcehaaGreatDoorLCmdA
import Derived.Test.YtocoejhiphcehaaGreatDoorLNum
import Derived.Lib.AtoiErrMem
set_option linter.unusedSimpArgs false
set_option linter.unusedVariables false
set_option maxHeartbeats 4000000
set_option maxRecDepth 4000
namespace Go.Ab.Tryz
open Go Go.Ab Go.Proofs
attribute [local irreducible] W Wl Wop TrA WSeq WLoopS FPost DPost RPost WRound DK onEnd
variable {n0 : Nat} {w0 : World} {gl : Nat → List AV} {H : List AO}
attribute [local simp] belowL_bytesAV

instance trim10_t (s : List UInt8) : Ctr (env n0 w0 gl) 99 [.str s, .str [48, 49, 50, 51, 52, 53, 54, 55, 56, 57]] H (s.length ≤ 9223372036854775807) (.str (Lib.trimS s [48, 49, 50, 51, 52, 53, 54, 55, 56, 57])) H := .of fun hs =>
  AEnter.of_calls (fn := Tryz.f99) Tryz.func99 rfl rfl fun g w cs hr hv => by
    obtain ⟨c, d, rfl, h1, h2⟩ := rels2 hv
    have h1 := h1.str_inv
    have h2 := h2.str_inv
    subst h1; subst h2
    refine (Any.strings_Trim_laid Tryz.lays160 (by kernel_rfl) ⟨s.toArray⟩ ⟨#[48, 49, 50, 51, 52, 53, 54, 55, 56, 57]⟩ w (by simpa [ByteArray.size] using hs) (by simp [ByteArray.size]) (ascii_of_all (by decide))).mono ?_
    rintro e w' ⟨rfl, hb⟩
    exact econc_ret hr hb (.str _ _ rfl)

/-- All bytes are digits. -/
def Digs (s : List UInt8) : Prop := ∀ c ∈ s, 48 ≤ c.toNat ∧ c.toNat ≤ 57
theorem dw_all (p : UInt8 → Bool) : ∀ l : List UInt8, (∀ x ∈ l.dropWhile p, p x = true) → ∀ x ∈ l, p x = true
  | [], _, x, hx => by cases hx
  | a :: l, h, x, hx => by
    by_cases ha : p a = true
    · rw [List.dropWhile_cons_of_pos ha] at h
      rcases List.mem_cons.1 hx with rfl | hx
      · exact ha
      · exact dw_all p l h x hx
    · rw [List.dropWhile_cons_of_neg ha] at h
      exact h x hx
theorem dw_nil (p : UInt8 → Bool) : ∀ l : List UInt8, l.dropWhile p = [] ↔ ∀ x ∈ l, p x = true := by
  intro l
  constructor
  · intro h
    exact dw_all p l (by rw [h]; intro x hx; cases hx)
  · intro h
    induction l with
    | nil => rfl
    | cons a l ih => rw [List.dropWhile_cons_of_pos (h a (List.mem_cons_self ..))]; exact ih fun x hx => h x (List.mem_cons_of_mem _ hx)
theorem dig_in (c : UInt8) : [48, 49, 50, 51, 52, 53, 54, 55, 56, 57].contains c = decide (48 ≤ c.toNat ∧ c.toNat ≤ 57) := by
  have key : ∀ n, n < 256 → ([48, 49, 50, 51, 52, 53, 54, 55, 56, 57] : List UInt8).contains (UInt8.ofNat n) = decide (48 ≤ (UInt8.ofNat n).toNat ∧ (UInt8.ofNat n).toNat ≤ 57) := by decide +kernel
  have := key c.toNat c.toNat_lt
  rwa [UInt8.ofNat_toNat] at this
theorem trim_digs (s : List UInt8) : Lib.trimS s [48, 49, 50, 51, 52, 53, 54, 55, 56, 57] = [] ↔ Digs s := by
  unfold Lib.trimS Lib.trimLeftS Lib.trimRightS
  rw [dw_nil]
  constructor
  · intro h c hc
    have h2 := dw_all (fun c => [48, 49, 50, 51, 52, 53, 54, 55, 56, 57].contains c) s.reverse (fun x hx => h x (List.mem_reverse.2 hx)) c (List.mem_reverse.2 hc)
    rw [dig_in] at h2
    exact of_decide_eq_true h2
  · intro h x hx
    have hx := List.mem_reverse.1 hx
    have hx := List.mem_reverse.1 ((List.dropWhile_sublist _).subset hx)
    rw [dig_in]
    exact decide_eq_true (h x hx)
theorem parseM_fold : ∀ (l : List UInt8) (acc : Nat), (∀ c ∈ l, 48 ≤ c.toNat ∧ c.toNat ≤ 57) → l.foldl (fun n c => 10 * n + (c.toNat - 48)) acc ≤ 9223372036854775807 → Lib.parseUintM (2 ^ 64 - 1) acc l = .ok (l.foldl (fun n c => 10 * n + (c.toNat - 48)) acc)
  | [], acc, _, _ => rfl
  | c :: l, acc, hd, hv => by
    have h1 := hd c (List.mem_cons_self ..)
    have key : ∀ (l : List UInt8) (n : Nat), n ≤ l.foldl (fun n c => 10 * n + (c.toNat - 48)) n := by
      intro l
      induction l with
      | nil => intro n; exact Nat.le_refl _
      | cons c l ih => intro n; exact Nat.le_trans (show n ≤ 10 * n + (c.toNat - 48) by omega) (ih _)
    have h2 := key l (10 * acc + (c.toNat - 48))
    simp only [List.foldl_cons] at hv ⊢
    have h3 : (2 : Nat) ^ 64 - 1 = 18446744073709551615 := by decide
    rw [Lib.parseUintM, if_pos h1, if_neg (by omega), if_neg (by rw [h3]; omega), Nat.mul_comm acc 10]
    exact parseM_fold l _ (fun x hx => hd x (List.mem_cons_of_mem _ hx)) hv
theorem decVal_18 {s : List UInt8} (h : Digs s) (hl : s.length ≤ 18) : decVal s ≤ 999999999999999999 := by
  have key : ∀ i, i ≤ s.length → decVal (s.take i) < 10 ^ i := by
    intro i
    induction i with
    | zero => intro _; simp [decVal]
    | succ i ih =>
      intro hi
      have h9 : s.getD i 0 ∈ s := by rw [List.getD_eq_getElem?_getD, List.getElem?_eq_getElem (by omega)]; exact List.getElem_mem _
      have := h _ h9
      rw [decVal_succ (by omega), Nat.pow_succ]
      have := ih (by omega)
      omega
  have := key s.length (Nat.le_refl _)
  rw [List.take_length] at this
  have h10 : 10 ^ s.length ≤ 10 ^ 18 := Nat.pow_le_pow_right (by decide) hl
  omega
theorem parse_digs {s : List UInt8} (h0 : s ≠ []) (hd : Digs s) (hl : s.length ≤ 18) : Lib.parseIntB 64 s = .ok (decVal s : Int) := by
  have hv := decVal_18 hd hl
  have hf2 : Lib.parseUintM (2 ^ 64 - 1) 0 s = .ok (decVal s) := parseM_fold s 0 hd (by show decVal s ≤ _; omega)
  cases s with
  | nil => exact absurd rfl h0
  | cons c r =>
    have h1 := hd c (List.mem_cons_self ..)
    unfold Lib.parseIntB
    simp only
    rw [if_neg (by omega)]
    unfold Lib.parseUintB
    rw [if_neg (by simp), hf2]
    simp only
    have h3 : (2 : Nat) ^ (64 - 1) = 9223372036854775808 := by decide
    rw [if_neg (by rw [h3]; omega), if_neg (by omega), if_neg (by omega)]

theorem parseInt_digs {s : List UInt8} (h0 : s ≠ []) (hd : Digs s) (hl : s.length ≤ 18) : Ctr (env n0 w0 gl) 100 [.str s, .int .i64 10, .int .i64 64] H True (.tup [.int .i64 (decVal s), .nili]) H := .of fun _ =>
  AEnter.of_calls (fn := Tryz.f100) Tryz.func100 rfl rfl fun g w cs hr hv => by
    obtain ⟨c, ds, rfl, h1, h2⟩ := rels_cons hv
    obtain ⟨d, e, rfl, h3, h4⟩ := rels2 h2
    have := h3.int_inv; subst this
    have := h4.int_inv; subst this
    have := h1.str_inv; subst this
    have hsz : (⟨s.toArray⟩ : ByteArray).size ≤ 9223372036854775806 := by
      show s.toArray.size ≤ _
      rw [List.size_toArray]; omega
    have hrel : VRel g (.tup [.int .i64 (decVal s), .nili]) (.tuple #[.int .i64 (decVal s), .nilIface]) := .tup _ _ rfl (fun i => match i with | 0 => .int _ _ | 1 => .nili | _ + 2 => .top _)
    refine (Tryz.strconv_ParseInt_10_at64_ok ⟨s.toArray⟩ hsz (decVal s : Int) (by simpa using parse_digs h0 hd hl) w).mono ?_
    rintro e w' ⟨rfl, rfl | ⟨t, rfl⟩⟩
    · exact econc_same hr hrel
    · exact econc_ret hr (Lib.bytesWorld_below w _ t) hrel

/-- The size at the end. -/
noncomputable def sizeR (s : List UInt8) : Option Int := if s = [] then some (-1) else match skipR [32, 83, 73, 90, 69, 61] s with
  | none => none
  | some r => if tf (r ≠ [] ∧ r.length ≤ 18 ∧ Digs r) then some (decVal r) else none
noncomputable def sizeV (s : List UInt8) : AV := match sizeR s with
  | some n => .tup [.int .i64 n, .bool true]
  | none => .tup [.int .i64 0, .bool false]
def sizeL (s : List UInt8) : List UInt8 := (skipR [32, 83, 73, 90, 69, 61] s).getD s

theorem skipR_len {what s r : List UInt8} (h : skipR what s = some r) : r.length ≤ s.length := by
  unfold skipR at h
  split at h
  · injection h with h; subst h; simp
  · cases h

instance skip4_t (A B D : AO) (what s : List UInt8) : Ctr (env n0 w0 gl) 97 [.ref (H.length + 2) 0, .str what] (H ++ [A, B, .cells [.str s], D]) (s.length ≤ 1000000 ∧ what.length ≤ 100) (.bool (skipR what s).isSome) (H ++ [A, B, .cells [.str ((skipR what s).getD s)], D]) := .of fun hs => by
  have hA : (H ++ [A, B, .cells [.str s], D])[H.length + 2]? = some (.cells [.str s]) := by rw [List.getElem?_append_right (by omega)]; simp
  have hset : ∀ X : AO, (H ++ [A, B, .cells [.str s], D]).set (H.length + 2) X = H ++ [A, B, X, D] := fun X => by rw [List.set_append_right _ _ (by omega)]; simp
  cases h : skipR what s with
  | none => exact skip_none hs.1 hs.2 hA h
  | some r => have := skip_some (n0 := n0) (w0 := w0) (gl := gl) hs.1 hs.2 hA h; rw [hset] at this; exact this

instance size4_t (A B D : AO) (s : List UInt8) : Ctr (env n0 w0 gl) 86 [.ref (H.length + 2) 0] (H ++ [A, B, .cells [.str s], D]) (s.length ≤ 1000000) (sizeV s) (H ++ [A, B, .cells [.str (sizeL s)], D]) := .of fun hs => by
  by_cases h0 : s = []
  · subst h0
    refine enter (md := fun _ => 0) Tryz.func86 (fun hfit hgl => ?_)
    repeat' (first | refine go ?_ | (refine br (fun hc => ?_) (fun hc => ?_) <;> try (exfalso; omega)) | fail)
    exact .now ⟨rfl, rfl⟩
  · have hl0 : s.length ≠ 0 := fun h => h0 (List.length_eq_zero_iff.1 h)
    unfold sizeV sizeR sizeL
    rw [if_neg h0]
    have hk := skip4_t (n0 := n0) (w0 := w0) (gl := gl) (H := H) A B D [32, 83, 73, 90, 69, 61] s
    cases hr : skipR [32, 83, 73, 90, 69, 61] s with
    | none =>
      rw [hr] at hk
      simp only [Option.isSome_none, Option.getD_none] at hk ⊢
      have hh := And.intro h0 hl0
      refine enter (md := fun _ => 0) Tryz.func86 (fun hfit hgl => ?_)
      repeat' (first | refine go ?_ | (refine br (fun hc => ?_) (fun hc => ?_) <;> try (exfalso; omega)) | fail)
      exact .now ⟨rfl, rfl⟩
    | some r =>
      have hrl := skipR_len hr
      rw [hr] at hk
      simp only [Option.isSome_some, Option.getD_some] at hk ⊢
      have htr := trim_digs r
      by_cases hr0 : r = []
      · subst hr0
        have hh := And.intro h0 hl0
        rw [tf_false (by simp)]
        refine enter (md := fun _ => 0) Tryz.func86 (fun hfit hgl => ?_)
        repeat' (first | refine go ?_ | (refine br (fun hc => ?_) (fun hc => ?_) <;> try (exfalso; omega)) | fail)
        exact .now ⟨rfl, rfl⟩
      · have hrl0 : r.length ≠ 0 := fun h => hr0 (List.length_eq_zero_iff.1 h)
        by_cases hr18 : r.length ≤ 18
        · by_cases hd : Digs r
          · rw [tf_true ⟨hr0, hr18, hd⟩]
            have hp := fun H => parseInt_digs (n0 := n0) (w0 := w0) (gl := gl) (H := H) hr0 hd hr18
            have hh := And.intro h0 (And.intro hl0 (And.intro hr0 (And.intro hrl0 (htr.2 hd))))
            refine enter (md := fun _ => 0) Tryz.func86 (fun hfit hgl => ?_)
            repeat' (first | refine go ?_ | (refine br (fun hc => ?_) (fun hc => ?_) <;> try (exfalso; omega)) | fail)
            exact .now ⟨rfl, rfl⟩
          · rw [tf_false (fun h => hd h.2.2)]
            have hn : ¬ Lib.trimS r [48, 49, 50, 51, 52, 53, 54, 55, 56, 57] = [] := fun h => hd (htr.1 h)
            have hh := And.intro h0 (And.intro hl0 (And.intro hr0 (And.intro hrl0 hn)))
            refine enter (md := fun _ => 0) Tryz.func86 (fun hfit hgl => ?_)
            repeat' (first | refine go ?_ | (refine br (fun hc => ?_) (fun hc => ?_) <;> try (exfalso; omega)) | fail)
            exact .now ⟨rfl, rfl⟩
        · rw [tf_false (fun h => hr18 h.2.1)]
          have hh := And.intro h0 (And.intro hl0 (And.intro hr0 hrl0))
          refine enter (md := fun _ => 0) Tryz.func86 (fun hfit hgl => ?_)
          repeat' (first | refine go ?_ | (refine br (fun hc => ?_) (fun hc => ?_) <;> try (exfalso; omega)) | fail)
          exact .now ⟨rfl, rfl⟩

/-- The address behind a word. -/
noncomputable def apR (what s : List UInt8) : Option (List UInt8 × List UInt8) := (skipR what s).bind pathR
noncomputable def apV (what s : List UInt8) : AV := match apR what s with
  | some (x, _) => .tup [.str x, .bool true]
  | none => .tup [.str [], .bool false]
noncomputable def apL (what s : List UInt8) : List UInt8 := match apR what s with
  | some (_, y) => y
  | none => (skipR what s).getD s

instance path4_t (A B D : AO) (what s : List UInt8) : Ctr (env n0 w0 gl) 85 [.ref (H.length + 2) 0, .str what] (H ++ [A, B, .cells [.str s], D]) (s.length ≤ 1000000 ∧ what.length ≤ 100) (apV what s) (H ++ [A, B, .cells [.str (apL what s)], D]) := .of fun ⟨hs, hw⟩ => by
  have hk := skip4_t (n0 := n0) (w0 := w0) (gl := gl) (H := H) A B D what s
  unfold apV apL apR
  cases hr : skipR what s with
  | none =>
    rw [hr] at hk
    simp only [Option.isSome_none, Option.getD_none, Option.bind_none] at hk ⊢
    refine enter (md := fun _ => 0) Tryz.func85 (fun hfit hgl => ?_)
    repeat' (first | refine go ?_ | (refine br (fun hc => ?_) (fun hc => ?_) <;> try (exfalso; omega)) | fail)
    exact .now ⟨rfl, rfl⟩
  | some r =>
    have hrl := skipR_len hr
    rw [hr] at hk
    simp only [Option.isSome_some, Option.getD_some, Option.bind_some] at hk ⊢
    have hp := fun H => pathParse_t (n0 := n0) (w0 := w0) (gl := gl) (H := H) r
    unfold pathV at hp
    cases hq : pathR r with
    | none =>
      simp only [hq] at hp ⊢
      refine enter (md := fun _ => 0) Tryz.func85 (fun hfit hgl => ?_)
      repeat' (first | refine go ?_ | (refine br (fun hc => ?_) (fun hc => ?_) <;> try (exfalso; omega)) | fail)
      exact .now ⟨rfl, rfl⟩
    | some q =>
      obtain ⟨x, y⟩ := q
      simp only [hq] at hp ⊢
      refine enter (md := fun _ => 0) Tryz.func85 (fun hfit hgl => ?_)
      repeat' (first | refine go ?_ | (refine br (fun hc => ?_) (fun hc => ?_) <;> try (exfalso; omega)) | fail)
      exact .now ⟨rfl, rfl⟩

instance rest4_t (A B : AO) (s : List UInt8) : Ctr (env n0 w0 gl) 84 [.ref (H.length + 3) 0] (H ++ [A, B, .cells [.str s], .cells [.ref (H.length + 2) 0]]) True (.bool (decide (s = []))) (H ++ [A, B, .cells [.str s], .cells [.ref (H.length + 2) 0]]) := .of fun hs => by
  refine enter (md := fun _ => 0) Tryz.func84 (fun hfit hgl => ?_)
  repeat' (first | refine go ?_ | (refine br (fun hc => ?_) (fun hc => ?_) <;> try (exfalso; omega)) | fail)
  exact .now ⟨rfl, rfl⟩

end Go.Ab.Tryz
