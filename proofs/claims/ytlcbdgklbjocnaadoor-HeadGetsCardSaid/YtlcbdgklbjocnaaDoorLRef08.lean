/- Walks: the reference's ground for heads. -/
import Derived.Test.YtlcbdgklbjocnaaDoorLHead6
import Derived.Test.YtlcbdgklbjocnaaDoorSHead2
set_option linter.unusedSimpArgs false
set_option linter.unusedVariables false
set_option maxHeartbeats 2000000
set_option maxRecDepth 4000
namespace Go.Ab.Tryd
open Go Go.Ab Go.Proofs
attribute [local irreducible] W Wl Wop TrA WSeq WLoopS FPost DPost RPost WRound DK onEnd
variable {n0 : Nat} {w0 : World} {gl : Nat → List AV} {H : List AO}
attribute [local simp] belowL_bytesAV

theorem bytesAV_get {s : List UInt8} {k : Nat} (h : k < s.length) : (bytesAV s).getD k .top = .int .u8 (s.getD k 0).toNat := by
  simp [bytesAV, byteAV, List.getD_eq_getElem?_getD, h]

theorem bytesAV_at {s : List UInt8} {k : Nat} (h : k < s.length) : ((bytesAV s).drop k).take 1 = [.int .u8 (s.getD k 0).toNat] := by
  rw [row1 (by rw [bytesAV_len]; exact h), bytesAV_get h]

/-- The first line. -/
def lineV (s : List UInt8) : AV := match crlfAt s with
  | some (x, _) => .tup [.str x, .bool true]
  | none => .tup [.str [], .bool false]

instance line_t (s : List UInt8) : Ctr (env n0 w0 gl) 59 [.sl s.length (bytesAV s) .ro] H (s.length ≤ 9223372036854775807) (lineV s) H := .of fun hs => by
  refine enter (md := fun _ => 0) Tryd.func59 (fun hfit hgl => ?_)
  repeat' (first | refine go ?_ | (refine br (fun hc => ?_) (fun hc => ?_) <;> try (exfalso; omega)) | fail)
  refine loop0 (fun i : Nat => (.sl s.length (bytesAV s) .ro :: .top :: .top :: .top :: .int .i64 ((i : Int) + 1) :: .top :: .top :: .top :: .top :: .top :: .top :: .top :: .top :: .top :: .top :: .top :: .top :: .top :: .top :: .top :: .top :: .top :: .top :: .top :: .top :: .top :: .top :: .top :: .top :: [])) (fun i => i ≤ s.length ∧ ∀ k, k < i → k + 1 < s.length → ¬ ((s.getD k 0).toNat = 13 ∧ (s.getD (k + 1) 0).toNat = 10)) (fun i => s.length - i) 0 ⟨Nat.zero_le _, fun k h => absurd h (Nat.not_lt_zero _)⟩ ?_
  rintro i ⟨hi, hall⟩
  have hh : (∀ k, k < s.length → ((bytesAV s).drop k).take 1 = [.int .u8 (s.getD k 0).toNat]) ∧ (∀ k, (bytesAV s).take k = bytesAV (s.take k)) ∧ ((i : Int) + 1 - 1) = (i : Int) ∧ (∀ k, k ≤ s.length → (s.take k).length = k) := ⟨fun k h => bytesAV_at h, fun k => bytesAV_take s k, by omega, fun k h => by rw [List.length_take]; omega⟩
  repeat' (first | refine go ?_ | (refine br (fun hc => ?_) (fun hc => ?_) <;> try (exfalso; omega)) | fail)
  · refine .now ⟨?_, rfl⟩
    unfold lineV
    rw [crlfAt_first (k := i) (by omega) (by omega) (by omega) (fun j hj => hall j hj (by omega))]
  · refine again (i + 1) ⟨by omega, fun k hk hk2 => ?_⟩
    rcases Nat.lt_succ_iff_lt_or_eq.1 hk with h | h
    · exact hall k h hk2
    · subst h; omega
  · refine again (i + 1) ⟨by omega, fun k hk hk2 => ?_⟩
    rcases Nat.lt_succ_iff_lt_or_eq.1 hk with h | h
    · exact hall k h hk2
    · subst h; omega
  · refine .now ⟨?_, rfl⟩
    unfold lineV
    rw [crlfAt_never (fun j hj => hall j (by omega) hj)]

def blankB (c : UInt8) : Prop := c.toNat = 32 ∨ c.toNat = 9
instance blank_t (c : UInt8) : Ctr (env n0 w0 gl) 60 [.int .u8 c.toNat] H True (.bool (tf (blankB c))) H := .of fun _ => by
  refine enter (md := fun _ => 0) Tryd.func60 (fun hfit hgl => ?_)
  repeat' (first | refine go ?_ | (refine br (fun hc => ?_) (fun hc => ?_) <;> try (exfalso; omega)) | fail)
  all_goals
    refine .now ⟨?_, rfl⟩
    congr 2
    first
      | (rw [tf_true (p := blankB c) (by unfold blankB; omega)]; done)
      | (rw [tf_decide]; exact tf_congr (by unfold blankB; omega))

instance colon_t (s : List UInt8) : Ctr (env n0 w0 gl) 61 [.str s] H (s.length ≤ 9223372036854775807) (.int .i64 (Lib.indexByte s 58)) H := .of fun hs => by
  refine enter (md := fun _ => 0) Tryd.func61 (fun hfit hgl => ?_)
  repeat' (first | refine go ?_ | (refine br (fun hc => ?_) (fun hc => ?_) <;> try (exfalso; omega)) | fail)
  refine loop0 (fun i : Nat => (.str s :: .top :: .top :: .int .i64 (i : Int) :: .top :: .top :: .top :: .top :: .top :: .top :: .top :: .top :: .top :: .top :: .top :: [])) (fun i => i ≤ s.length ∧ ∀ k, k < i → ¬ (s.getD k 0).toNat = (58 : UInt8).toNat) (fun i => s.length - i) 0 ⟨Nat.zero_le _, fun k h => absurd h (Nat.not_lt_zero _)⟩ ?_
  rintro i ⟨hi, hall⟩
  have h58 : (58 : UInt8).toNat = 58 := rfl
  repeat' (first | refine go ?_ | (refine br (fun hc => ?_) (fun hc => ?_) <;> try (exfalso; omega)) | fail)
  · refine .now ⟨?_, rfl⟩
    rw [indexByte_first (k := i) (by omega) (by omega) hall]
  · refine again (i + 1) ⟨by omega, fun k hk => ?_⟩
    rcases Nat.lt_succ_iff_lt_or_eq.1 hk with h | h
    · exact hall k h
    · subst h; omega
  · refine .now ⟨?_, rfl⟩
    rw [indexByte_never (fun j hj => hall j (by omega))]

theorem trimS_eq (s : List UInt8) : Lib.trimS s [32, 9] = dropR (([32, 9] : List UInt8).contains ·) (s.dropWhile (([32, 9] : List UInt8).contains ·)) := by
  rw [← dropLR]; rfl
theorem blank_contains (c : UInt8) : (([32, 9] : List UInt8).contains c = true) ↔ blankB c := by
  simp only [List.contains_cons, List.contains_nil, Bool.or_false, Bool.or_eq_true, beq_iff_eq, blankB, ← UInt8.toNat_inj]
  exact Iff.rfl

theorem blank_drop {t : List UInt8} (h : ¬ t.length = 0) (hb : blankB (t.getD 0 0)) : t.dropWhile (([32, 9] : List UInt8).contains ·) = (t.drop 1).dropWhile (([32, 9] : List UInt8).contains ·) := by
  cases t with
  | nil => simp at h
  | cons c t => rw [List.dropWhile_cons, if_pos ((blank_contains c).2 hb)]; rfl
theorem blank_stay {t : List UInt8} (hb : t.length = 0 ∨ ¬ blankB (t.getD 0 0)) : t.dropWhile (([32, 9] : List UInt8).contains ·) = t := by
  cases t with
  | nil => rfl
  | cons c t =>
    rw [List.dropWhile_cons, if_neg]
    intro h
    rcases hb with hb | hb
    · simp at hb
    · exact hb ((blank_contains c).1 h)
theorem blank_last {t : List UInt8} (h : ¬ t.length = 0) : t = t.take (t.length - 1) ++ [t.getD (t.length - 1) 0] := by
  conv => lhs; rw [← List.take_append_drop (t.length - 1) t]
  rw [List.drop_eq_getElem_cons (by omega), List.drop_eq_nil_of_le (by omega)]
  simp [List.getD_eq_getElem?_getD, show t.length - 1 < t.length by omega]
theorem blank_dropR {t : List UInt8} (h : ¬ t.length = 0) (hb : blankB (t.getD (t.length - 1) 0)) : dropR (([32, 9] : List UInt8).contains ·) t = dropR (([32, 9] : List UInt8).contains ·) (t.take (t.length - 1)) := by
  conv => lhs; rw [blank_last h]
  rw [dropR_snoc, if_pos ((blank_contains _).2 hb)]
theorem blank_stayR {t : List UInt8} (hb : t.length = 0 ∨ ¬ blankB (t.getD (t.length - 1) 0)) : dropR (([32, 9] : List UInt8).contains ·) t = t := by
  by_cases h : t.length = 0
  · rw [List.length_eq_zero_iff.1 h]; rfl
  · conv => lhs; rw [blank_last h]
    rw [dropR_snoc, if_neg (fun hh => (hb.resolve_left h) ((blank_contains _).1 hh)), ← blank_last h]

instance ref_trim_t (s : List UInt8) : Ctr (env n0 w0 gl) 62 [.str s] H (s.length ≤ 9223372036854775807) (.str (Lib.trimS s [32, 9])) H := .of fun hs => by
  refine enter (md := fun _ => 0) Tryd.func62 (fun hfit hgl => ?_)
  repeat' (first | refine go ?_ | (refine br (fun hc => ?_) (fun hc => ?_) <;> try (exfalso; omega)) | fail)
  refine loop0 (fun t : List UInt8 => (.str t :: .top :: .str [] :: .top :: .top :: .top :: .top :: .top :: .top :: .top :: .top :: .top :: .top :: .top :: .top :: .top :: .top :: .top :: .top :: .top :: .top :: .top :: .top :: .top :: .top :: .top :: .top :: .top :: [])) (fun t => t.length ≤ s.length ∧ t.dropWhile (([32, 9] : List UInt8).contains ·) = s.dropWhile (([32, 9] : List UInt8).contains ·)) (fun t => t.length) s ⟨Nat.le_refl _, rfl⟩ ?_
  rintro t ⟨ht, heq⟩
  repeat' (first | refine go ?_ | (refine br (fun hc => ?_) (fun hc => ?_) <;> try (exfalso; omega)) | fail)
  · refine again (t.drop 1) ⟨by simp; omega, ?_⟩ (by simp; omega)
    rw [← heq, blank_drop (by assumption) (tf_iff.1 hc)]
  all_goals
    have h0 : t = s.dropWhile (([32, 9] : List UInt8).contains ·) := by
      rw [← heq, blank_stay (by first | exact .inl hc | exact .inr (tf_not_iff.1 hc))]
    refine loop0 (fun r : List UInt8 => (.str r :: .top :: .str [] :: .top :: .top :: .top :: .top :: .top :: .top :: .top :: .top :: .top :: .top :: .top :: .top :: .top :: .top :: .top :: .top :: .top :: .top :: .top :: .top :: .top :: .top :: .top :: .top :: .top :: [])) (fun r => r.length ≤ s.length ∧ dropR (([32, 9] : List UInt8).contains ·) r = dropR (([32, 9] : List UInt8).contains ·) t) (fun r => r.length) t ⟨ht, rfl⟩ ?_
    rintro r ⟨hr, hreq⟩
    have hh : r.length ≤ s.length ∧ (¬ r.length = 0 → ((r.length : Int) - 1).toNat = r.length - 1) := ⟨hr, fun h => by omega⟩
    repeat' (first | refine go ?_ | (refine br (fun hc => ?_) (fun hc => ?_) <;> try (exfalso; omega)) | fail)
    all_goals first
      | (refine again (r.take (r.length - 1)) ⟨by rw [List.length_take]; omega, ?_⟩ (by rw [List.length_take]; omega)
         rw [← hreq, blank_dropR (by assumption) (tf_iff.1 hc)])
      | (refine .now ⟨?_, rfl⟩
         rw [trimS_eq, ← h0, ← hreq, blank_stayR (by first | exact .inl hc | exact .inr (tf_not_iff.1 hc))])

/-- Whether a body may stand in one line. -/
def PlainOk (s : List UInt8) : Prop := Lib.indexByte s 13 < 0 ∧ Lib.indexByte s 10 < 0 ∧ Lib.trimS s [32, 9] = s
theorem indexByte_neg (s : List UInt8) (c : UInt8) : Lib.indexByte s c < 0 ↔ ∀ i, i < s.length → ¬ (s.getD i 0).toNat = c.toNat := by
  rcases indexByte_cases s c with ⟨h1, h2⟩ | ⟨m, hm, h1, h2, h3⟩
  · rw [h1]; exact ⟨fun _ i hi h => h2 i hi (UInt8.toNat_inj.1 h), fun _ => by omega⟩
  · rw [h1]; exact ⟨fun h => by omega, fun h => absurd (by rw [h2]) (h m hm)⟩

instance plain_t (s : List UInt8) : Ctr (env n0 w0 gl) 65 [.str s] H (s.length ≤ 9223372036854775807) (.bool (tf (PlainOk s))) H := .of fun hs => by
  refine enter (md := fun _ => 0) Tryd.func65 (fun hfit hgl => ?_)
  repeat' (first | refine go ?_ | (refine br (fun hc => ?_) (fun hc => ?_) <;> try (exfalso; omega)) | fail)
  refine loop0 (fun i : Nat => (.str s :: .top :: .bool false :: .int .i64 (i : Int) :: .top :: .top :: .top :: .top :: .top :: .top :: .top :: .top :: .top :: .top :: .top :: .top :: .top :: .top :: .top :: .top :: .top :: .top :: .top :: .top :: [])) (fun i => i ≤ s.length ∧ ∀ k, k < i → ¬ (s.getD k 0).toNat = 13 ∧ ¬ (s.getD k 0).toNat = 10) (fun i => s.length - i) 0 ⟨Nat.zero_le _, fun k h => absurd h (Nat.not_lt_zero _)⟩ ?_
  rintro i ⟨hi, hall⟩
  repeat' (first | refine go ?_ | (refine br (fun hc => ?_) (fun hc => ?_) <;> try (exfalso; omega)) | fail)
  all_goals first
    | (refine again (i + 1) ⟨by omega, fun k hk => ?_⟩
       rcases Nat.lt_succ_iff_lt_or_eq.1 hk with h | h
       · exact hall k h
       · subst h; omega)
    | (refine .now ⟨?_, rfl⟩
       rw [tf_false (p := PlainOk s) (fun h => by
         first
           | exact (indexByte_neg s 13).1 h.1 i (by omega) (by show _ = 13; omega)
           | exact (indexByte_neg s 10).1 h.2.1 i (by omega) (by show _ = 10; omega))]
       done)
    | (refine .now ⟨?_, rfl⟩
       congr 2
       rw [tf_decide]
       exact tf_congr ⟨fun h => ⟨(indexByte_neg s 13).2 (fun k hk => (hall k (by omega)).1), (indexByte_neg s 10).2 (fun k hk => (hall k (by omega)).2), h.symm⟩, fun h => h.2.2.symm⟩)

end Go.Ab.Tryd
