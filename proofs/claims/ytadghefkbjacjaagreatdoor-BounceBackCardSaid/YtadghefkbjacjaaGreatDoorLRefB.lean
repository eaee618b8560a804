/- Walks: head.Parse. -/
import Derived.Test.YtadghefkbjacjaaGreatDoorLHeadB
import Derived.Test.YtadghefkbjacjaaGreatDoorSPath
section
set_option linter.unusedSimpArgs false
set_option linter.unusedVariables false
set_option maxHeartbeats 2000000
set_option maxRecDepth 4000
namespace Go.Ab.Tryz
open Go Go.Ab Go.Proofs
attribute [local irreducible] W Wl Wop TrA WSeq WLoopS FPost DPost RPost WRound DK onEnd
variable {n0 : Nat} {w0 : World} {gl : Nat → List AV} {H : List AO}
attribute [local simp] belowL_bytesAV

/-- What a head is: fields, how many bytes, an error's number. -/
noncomputable def headP (b : List UInt8) : Flds × Nat × Int := match headR b with
  | none => ([], 0, 80)
  | some (l, u) => if l.length ≤ 1000 ∧ u ≤ 100000 then (l.map trimF, u, 0) else ([], 0, 2)
def tokP (e : Int) : Tok := if e = 0 then .ro else .full
def parseV (p : Flds × Nat × Int) : AV := .tup [.sl p.1.length (fldAV p.1) (tokP p.2.2), .int .i64 p.2.1, .int .i64 p.2.2]

instance parse_head_t [hml : GLInt gl 0] (b : List UInt8) : Ctr (env n0 w0 gl) 82 [.sl b.length (bytesAV b) .ro] H (b.length < 4294967281) (parseV (headP b)) H := .of fun hb => by
  have hp := parse1_t (n0 := n0) (w0 := w0) (gl := gl) (H := H) b hb
  refine enter (md := fun _ => 0) Tryz.func82 (fun hfit hgl => ?_)
  repeat' (first | refine go ?_ | (refine br (fun hc => ?_) (fun hc => ?_) <;> try (exfalso; omega)) | fail)
  ((with_reducible apply wop_call); (· rfl); (· rfl); (· (simp only [AAct.ev, List.getD_cons_zero, List.getD_cons_succ, constAV, env_gl]; try exact rfl)); (· (simp only [evCallArgs, List.map_cons, List.map_nil, List.nil_append, List.append_nil, List.cons_append, Array.toList, List.toList_toArray, AAct.ev, List.getD_cons_zero, List.getD_cons_succ, constAV, env_gl]; try exact rfl)))
  rcases hq : headR b with _ | ⟨l, u⟩
  · rw [hq] at hp
    have hP : headP b = ([], 0, 80) := by unfold headP; rw [hq]
    rw [hP]
    refine (head_caught_t (R := fun x H' => x = .ret (.int .i64 80) ∧ H' = H ++ [.cells [.sl b.length (bytesAV b) .ro], .cells [.sl 0 [] .full], .cells [.int .i64 0], .cells [.int .i64 80]]) _ [] _ fun hf2 => ?_).call.mono ?_
    · simp only [List.append_assoc, List.cons_append, List.nil_append]
      refine hp.call.mono ?_
      rintro x H' ⟨rfl, rfl⟩
      refine ⟨by simp, .inr ⟨80, rfl, ?_⟩⟩
      exact .now ⟨rfl, by simp⟩
    · rintro x H' ⟨rfl, rfl⟩
      repeat' (first | refine go ?_ | (refine br (fun hc => ?_) (fun hc => ?_) <;> try (exfalso; omega)) | fail)
      exact .junkd ⟨rfl, rfl⟩
  · rw [hq] at hp
    by_cases hlu : l.length ≤ 1000 ∧ u ≤ 100000
    · simp only [if_pos hlu] at hp
      have hP : headP b = (l.map trimF, u, 0) := by unfold headP; rw [hq]; simp only [if_pos hlu]
      rw [hP]
      refine (head_caught_t (R := fun x H' => x = .ret (.int .i64 0) ∧ H' = H ++ [.cells [.sl b.length (bytesAV b) .ro], .cells [.vsl (H.length + 6) l.length], .cells [.int .i64 u], .cells [.int .i64 0], .cells [.vsl (H.length + 6) l.length], .cells [.int .i64 u], .vec 2 l.length (fldAV (l.map trimF))]) _ [] _ fun hf2 => ?_).call.mono ?_
      · simp only [List.append_assoc, List.cons_append, List.nil_append]
        refine hp.call.mono ?_
        rintro x H' ⟨rfl, rfl⟩
        exact ⟨by simp, .inl ⟨rfl, .now ⟨rfl, by simp⟩⟩⟩
      · rintro x H' ⟨rfl, rfl⟩
        refine gos ?_
        refine wseq_shift (Shift.cellKnow (H.length + 1) 0 (H.length + 6) (xs := [.vsl (H.length + 6) l.length]) (sz := 2) (n := l.length) (ys := fldAV (l.map trimF)) (by simp [getE]) rfl (by simp) (by simp [getE]) rfl) ?_
        simp only [getE, setE, List.set_cons_succ, List.set_cons_zero]
        repeat' (first | refine go ?_ | (refine br (fun hc => ?_) (fun hc => ?_) <;> try (exfalso; omega)) | fail)
        refine .junkd ⟨?_, rfl⟩
        simp [parseV, tokP]
    · simp only [if_neg hlu] at hp
      have hP : headP b = ([], 0, 2) := by unfold headP; rw [hq]; simp only [if_neg hlu]
      rw [hP]
      refine (head_caught_t (R := fun x H' => x = .ret (.int .i64 2) ∧ H' = H ++ [.cells [.sl b.length (bytesAV b) .ro], .cells [.vsl (H.length + 6) l.length], .cells [.int .i64 u], .cells [.int .i64 2], .cells [.vsl (H.length + 6) l.length], .cells [.int .i64 u], .vec 2 l.length (fldAV l)]) _ [] _ fun hf2 => ?_).call.mono ?_
      · simp only [List.append_assoc, List.cons_append, List.nil_append]
        refine hp.call.mono ?_
        rintro x H' ⟨rfl, rfl⟩
        refine ⟨by simp, .inr ⟨2, rfl, ?_⟩⟩
        exact .now ⟨rfl, by simp⟩
      · rintro x H' ⟨rfl, rfl⟩
        repeat' (first | refine go ?_ | (refine br (fun hc => ?_) (fun hc => ?_) <;> try (exfalso; omega)) | fail)
        exact .junkd ⟨rfl, rfl⟩

end Go.Ab.Tryz

end

section
set_option linter.unusedVariables false
namespace Go.Ab
open Go

theorem crlfAt_first : ∀ {s : List UInt8} {k : Nat}, k + 1 < s.length → (s.getD k 0).toNat = 13 → (s.getD (k + 1) 0).toNat = 10 → (∀ j, j < k → ¬ ((s.getD j 0).toNat = 13 ∧ (s.getD (j + 1) 0).toNat = 10)) → crlfAt s = some (s.take k, s.drop (k + 2))
  | [], k, h, _, _, _ => by simp at h
  | c :: t, 0, h, h1, h2, _ => by
    unfold crlfAt
    rw [if_pos]
    · cases t with
      | nil => simp at h
      | cons d t => simp
    · refine ⟨UInt8.toNat_inj.1 (by simpa using h1), ?_⟩
      cases t with
      | nil => simp at h
      | cons d t => simp only [List.head?_cons, Option.some.injEq]; exact UInt8.toNat_inj.1 (by simpa using h2)
  | c :: t, k + 1, h, h1, h2, h3 => by
    have ih := crlfAt_first (s := t) (k := k) (by simpa using h) (by simpa using h1) (by simpa using h2) (fun j hj => by have := h3 (j + 1) (by omega); simpa using this)
    unfold crlfAt
    rw [if_neg, ih]
    · simp
    · rintro ⟨rfl, h4⟩
      refine h3 0 (by omega) ⟨rfl, ?_⟩
      cases t with
      | nil => simp at h4
      | cons d t => simp only [List.head?_cons, Option.some.injEq] at h4; subst h4; rfl
theorem crlfAt_never : ∀ {s : List UInt8}, (∀ j, j + 1 < s.length → ¬ ((s.getD j 0).toNat = 13 ∧ (s.getD (j + 1) 0).toNat = 10)) → crlfAt s = none
  | [], _ => rfl
  | c :: t, h => by
    unfold crlfAt
    rw [if_neg, crlfAt_never (s := t) (fun j hj => by have := h (j + 1) (by simpa using hj); simpa using this)]
    · rfl
    · rintro ⟨rfl, h4⟩
      cases t with
      | nil => simp at h4
      | cons d t =>
        simp only [List.head?_cons, Option.some.injEq] at h4; subst h4
        exact h 0 (by simp) ⟨rfl, rfl⟩

theorem indexByte_first {s : List UInt8} {c : UInt8} {k : Nat} (hk : k < s.length) (h : (s.getD k 0).toNat = c.toNat) (hn : ∀ j, j < k → ¬ (s.getD j 0).toNat = c.toNat) : Lib.indexByte s c = (k : Int) := by
  rcases indexByte_cases s c with ⟨_, h2⟩ | ⟨m, hm, h1, h2, h3⟩
  · exact absurd (UInt8.toNat_inj.1 h) (h2 k hk)
  · rw [h1]
    have a : ¬ m < k := fun hlt => hn m hlt (by rw [h2])
    have b : ¬ k < m := fun hlt => h3 k hlt (UInt8.toNat_inj.1 h)
    omega
theorem indexByte_never {s : List UInt8} {c : UInt8} (hn : ∀ j, j < s.length → ¬ (s.getD j 0).toNat = c.toNat) : Lib.indexByte s c = -1 := by
  rcases indexByte_cases s c with ⟨h1, _⟩ | ⟨m, hm, h1, h2, h3⟩
  · exact h1
  · exact absurd (by rw [h2]) (hn m hm)

section
variable {p : UInt8 → Bool}
def dropR (p : UInt8 → Bool) (l : List UInt8) : List UInt8 := (l.reverse.dropWhile p).reverse
theorem dropR_snoc (l : List UInt8) (x : UInt8) : dropR p (l ++ [x]) = if p x then dropR p l else l ++ [x] := by
  unfold dropR
  rw [List.reverse_append, List.reverse_singleton, List.singleton_append, List.dropWhile_cons]
  split <;> simp
theorem dropWhile_nil_iff : ∀ {l : List UInt8}, l.dropWhile p = [] ↔ ∀ x ∈ l, p x = true
  | [] => by simp
  | x :: l => by
    rw [List.dropWhile_cons]
    by_cases hx : p x = true
    · rw [if_pos hx, dropWhile_nil_iff]; simp [hx]
    · rw [if_neg hx]; simp [hx]
theorem dropR_cons (l : List UInt8) (x : UInt8) : dropR p (x :: l) = if l.all p then (if p x then [] else [x]) else x :: dropR p l := by
  unfold dropR
  rw [List.reverse_cons, List.dropWhile_append]
  by_cases ha : l.all p = true
  · have : l.reverse.dropWhile p = [] := dropWhile_nil_iff.2 (by simpa using ha)
    rw [this, if_pos ha]
    simp only [List.isEmpty_nil, if_true, List.dropWhile_cons, List.dropWhile_nil]
    split <;> simp
  · have : l.reverse.dropWhile p ≠ [] := fun h => ha (by have := dropWhile_nil_iff.1 h; simpa using this)
    rw [if_neg ha, if_neg (by simpa using this)]
    simp
theorem dropLR (l : List UInt8) : (dropR p l).dropWhile p = dropR p (l.dropWhile p) := by
  induction l with
  | nil => rfl
  | cons x l ih =>
    by_cases hx : p x = true
    · have e1 : (x :: l).dropWhile p = l.dropWhile p := by rw [List.dropWhile_cons, if_pos hx]
      rw [e1, ← ih, dropR_cons]
      by_cases ha : l.all p = true
      · rw [if_pos ha, if_pos hx, ih]
        have : l.dropWhile p = [] := dropWhile_nil_iff.2 (by simpa using ha)
        rw [this]; rfl
      · rw [if_neg ha, List.dropWhile_cons, if_pos hx]
    · have e1 : (x :: l).dropWhile p = x :: l := by rw [List.dropWhile_cons, if_neg hx]
      rw [e1, dropR_cons]
      by_cases ha : l.all p = true
      · rw [if_pos ha, if_neg hx, List.dropWhile_cons, if_neg hx]
      · rw [if_neg ha, List.dropWhile_cons, if_neg hx]
end

end Go.Ab

end

section
set_option linter.unusedSimpArgs false
set_option linter.unusedVariables false
set_option maxHeartbeats 2000000
set_option maxRecDepth 4000
namespace Go.Ab.Tryz
open Go Go.Ab Go.Proofs
attribute [local irreducible] W Wl Wop TrA WSeq WLoopS FPost DPost RPost WRound DK onEnd
variable {n0 : Nat} {w0 : World} {gl : Nat → List AV} {H : List AO}
attribute [local simp] belowL_bytesAV

theorem bytesAV_get {s : List UInt8} {k : Nat} (h : k < s.length) : (bytesAV s).getD k .top = .int .u8 (s.getD k 0).toNat := by
  simp [bytesAV, byteAV, List.getD_eq_getElem?_getD, h]

theorem bytesAV_at {s : List UInt8} {k : Nat} (h : k < s.length) : ((bytesAV s).drop k).take 1 = [.int .u8 (s.getD k 0).toNat] := by
  rw [row1 (by rw [bytesAV_len]; exact h), bytesAV_get h]

/-- The first line. -/
def lineV (s : List UInt8) : AV := match crlfAt s with
  | some (x, _) => .tup [.str x, .bool true]
  | none => .tup [.str [], .bool false]

instance line_t (s : List UInt8) : Ctr (env n0 w0 gl) 157 [.sl s.length (bytesAV s) .ro] H (s.length ≤ 9223372036854775807) (lineV s) H := .of fun hs => by
  refine enter (md := fun _ => 0) Tryz.func157 (fun hfit hgl => ?_)
  repeat' (first | refine go ?_ | (refine br (fun hc => ?_) (fun hc => ?_) <;> try (exfalso; omega)) | fail)
  refine loop0 (fun i : Nat => (.sl s.length (bytesAV s) .ro :: .top :: .top :: .top :: .int .i64 ((i : Int) + 1) :: .top :: .top :: .top :: .top :: .top :: .top :: .top :: .top :: .top :: .top :: .top :: .top :: .top :: .top :: .top :: .top :: .top :: .top :: .top :: .top :: .top :: .top :: .top :: .top :: [])) (fun i => i ≤ s.length ∧ ∀ k, k < i → k + 1 < s.length → ¬ ((s.getD k 0).toNat = 13 ∧ (s.getD (k + 1) 0).toNat = 10)) (fun i => s.length - i) 0 ⟨Nat.zero_le _, fun k h => absurd h (Nat.not_lt_zero _)⟩ ?_
  rintro i ⟨hi, hall⟩
  have hh : (∀ k, k < s.length → ((bytesAV s).drop k).take 1 = [.int .u8 (s.getD k 0).toNat]) ∧ (∀ k, (bytesAV s).take k = bytesAV (s.take k)) ∧ ((i : Int) + 1 - 1) = (i : Int) ∧ (∀ k, k ≤ s.length → (s.take k).length = k) := ⟨fun k h => bytesAV_at h, fun k => bytesAV_take s k, by omega, fun k h => by rw [List.length_take]; omega⟩
  repeat' (first | refine go ?_ | (refine br (fun hc => ?_) (fun hc => ?_) <;> try (exfalso; omega)) | fail)
  · refine .now ⟨?_, rfl⟩
    unfold lineV
    rw [crlfAt_first (k := i) (by omega) (by omega) (by omega) (fun j hj => hall j hj (by omega))]
  · refine again (i + 1) ⟨by omega, fun k hk hk2 => ?_⟩
    rcases Nat.lt_succ_iff_lt_or_eq.1 hk with h | h
    · exact hall k h hk2
    · subst h; omega
  · refine again (i + 1) ⟨by omega, fun k hk hk2 => ?_⟩
    rcases Nat.lt_succ_iff_lt_or_eq.1 hk with h | h
    · exact hall k h hk2
    · subst h; omega
  · refine .now ⟨?_, rfl⟩
    unfold lineV
    rw [crlfAt_never (fun j hj => hall j (by omega) hj)]

def blankB (c : UInt8) : Prop := c.toNat = 32 ∨ c.toNat = 9
instance blank_t (c : UInt8) : Ctr (env n0 w0 gl) 158 [.int .u8 c.toNat] H True (.bool (tf (blankB c))) H := .of fun _ => by
  refine enter (md := fun _ => 0) Tryz.func158 (fun hfit hgl => ?_)
  repeat' (first | refine go ?_ | (refine br (fun hc => ?_) (fun hc => ?_) <;> try (exfalso; omega)) | fail)
  all_goals
    refine .now ⟨?_, rfl⟩
    congr 2
    first
      | (rw [tf_true (p := blankB c) (by unfold blankB; omega)]; done)
      | (rw [tf_decide]; exact tf_congr (by unfold blankB; omega))

instance colon_t (s : List UInt8) : Ctr (env n0 w0 gl) 159 [.str s] H (s.length ≤ 9223372036854775807) (.int .i64 (Lib.indexByte s 58)) H := .of fun hs => by
  refine enter (md := fun _ => 0) Tryz.func159 (fun hfit hgl => ?_)
  repeat' (first | refine go ?_ | (refine br (fun hc => ?_) (fun hc => ?_) <;> try (exfalso; omega)) | fail)
  refine loop0 (fun i : Nat => (.str s :: .top :: .top :: .int .i64 (i : Int) :: .top :: .top :: .top :: .top :: .top :: .top :: .top :: .top :: .top :: .top :: .top :: [])) (fun i => i ≤ s.length ∧ ∀ k, k < i → ¬ (s.getD k 0).toNat = (58 : UInt8).toNat) (fun i => s.length - i) 0 ⟨Nat.zero_le _, fun k h => absurd h (Nat.not_lt_zero _)⟩ ?_
  rintro i ⟨hi, hall⟩
  have h58 : (58 : UInt8).toNat = 58 := rfl
  repeat' (first | refine go ?_ | (refine br (fun hc => ?_) (fun hc => ?_) <;> try (exfalso; omega)) | fail)
  · refine .now ⟨?_, rfl⟩
    rw [indexByte_first (k := i) (by omega) (by omega) hall]
  · refine again (i + 1) ⟨by omega, fun k hk => ?_⟩
    rcases Nat.lt_succ_iff_lt_or_eq.1 hk with h | h
    · exact hall k h
    · subst h; omega
  · refine .now ⟨?_, rfl⟩
    rw [indexByte_never (fun j hj => hall j (by omega))]

theorem trimS_eq (s : List UInt8) : Lib.trimS s [32, 9] = dropR (([32, 9] : List UInt8).contains ·) (s.dropWhile (([32, 9] : List UInt8).contains ·)) := by
  rw [← dropLR]; rfl
theorem blank_contains (c : UInt8) : (([32, 9] : List UInt8).contains c = true) ↔ blankB c := by
  simp only [List.contains_cons, List.contains_nil, Bool.or_false, Bool.or_eq_true, beq_iff_eq, blankB, ← UInt8.toNat_inj]
  exact Iff.rfl

theorem blank_drop {t : List UInt8} (h : ¬ t.length = 0) (hb : blankB (t.getD 0 0)) : t.dropWhile (([32, 9] : List UInt8).contains ·) = (t.drop 1).dropWhile (([32, 9] : List UInt8).contains ·) := by
  cases t with
  | nil => simp at h
  | cons c t => rw [List.dropWhile_cons, if_pos ((blank_contains c).2 hb)]; rfl
theorem blank_stay {t : List UInt8} (hb : t.length = 0 ∨ ¬ blankB (t.getD 0 0)) : t.dropWhile (([32, 9] : List UInt8).contains ·) = t := by
  cases t with
  | nil => rfl
  | cons c t =>
    rw [List.dropWhile_cons, if_neg]
    intro h
    rcases hb with hb | hb
    · simp at hb
    · exact hb ((blank_contains c).1 h)
theorem blank_last {t : List UInt8} (h : ¬ t.length = 0) : t = t.take (t.length - 1) ++ [t.getD (t.length - 1) 0] := by
  conv => lhs; rw [← List.take_append_drop (t.length - 1) t]
  rw [List.drop_eq_getElem_cons (by omega), List.drop_eq_nil_of_le (by omega)]
  simp [List.getD_eq_getElem?_getD, show t.length - 1 < t.length by omega]
theorem blank_dropR {t : List UInt8} (h : ¬ t.length = 0) (hb : blankB (t.getD (t.length - 1) 0)) : dropR (([32, 9] : List UInt8).contains ·) t = dropR (([32, 9] : List UInt8).contains ·) (t.take (t.length - 1)) := by
  conv => lhs; rw [blank_last h]
  rw [dropR_snoc, if_pos ((blank_contains _).2 hb)]
theorem blank_stayR {t : List UInt8} (hb : t.length = 0 ∨ ¬ blankB (t.getD (t.length - 1) 0)) : dropR (([32, 9] : List UInt8).contains ·) t = t := by
  by_cases h : t.length = 0
  · rw [List.length_eq_zero_iff.1 h]; rfl
  · conv => lhs; rw [blank_last h]
    rw [dropR_snoc, if_neg (fun hh => (hb.resolve_left h) ((blank_contains _).1 hh)), ← blank_last h]

instance ref_trim_t (s : List UInt8) : Ctr (env n0 w0 gl) 161 [.str s] H (s.length ≤ 9223372036854775807) (.str (Lib.trimS s [32, 9])) H := .of fun hs => by
  refine enter (md := fun _ => 0) Tryz.func161 (fun hfit hgl => ?_)
  repeat' (first | refine go ?_ | (refine br (fun hc => ?_) (fun hc => ?_) <;> try (exfalso; omega)) | fail)
  refine loop0 (fun t : List UInt8 => (.str t :: .top :: .str [] :: .top :: .top :: .top :: .top :: .top :: .top :: .top :: .top :: .top :: .top :: .top :: .top :: .top :: .top :: .top :: .top :: .top :: .top :: .top :: .top :: .top :: .top :: .top :: .top :: .top :: [])) (fun t => t.length ≤ s.length ∧ t.dropWhile (([32, 9] : List UInt8).contains ·) = s.dropWhile (([32, 9] : List UInt8).contains ·)) (fun t => t.length) s ⟨Nat.le_refl _, rfl⟩ ?_
  rintro t ⟨ht, heq⟩
  repeat' (first | refine go ?_ | (refine br (fun hc => ?_) (fun hc => ?_) <;> try (exfalso; omega)) | fail)
  · refine again (t.drop 1) ⟨by simp; omega, ?_⟩ (by simp; omega)
    rw [← heq, blank_drop (by assumption) (tf_iff.1 hc)]
  all_goals
    have h0 : t = s.dropWhile (([32, 9] : List UInt8).contains ·) := by
      rw [← heq, blank_stay (by first | exact .inl hc | exact .inr (tf_not_iff.1 hc))]
    refine loop0 (fun r : List UInt8 => (.str r :: .top :: .str [] :: .top :: .top :: .top :: .top :: .top :: .top :: .top :: .top :: .top :: .top :: .top :: .top :: .top :: .top :: .top :: .top :: .top :: .top :: .top :: .top :: .top :: .top :: .top :: .top :: .top :: [])) (fun r => r.length ≤ s.length ∧ dropR (([32, 9] : List UInt8).contains ·) r = dropR (([32, 9] : List UInt8).contains ·) t) (fun r => r.length) t ⟨ht, rfl⟩ ?_
    rintro r ⟨hr, hreq⟩
    have hh : r.length ≤ s.length ∧ (¬ r.length = 0 → ((r.length : Int) - 1).toNat = r.length - 1) := ⟨hr, fun h => by omega⟩
    repeat' (first | refine go ?_ | (refine br (fun hc => ?_) (fun hc => ?_) <;> try (exfalso; omega)) | fail)
    all_goals first
      | (refine again (r.take (r.length - 1)) ⟨by rw [List.length_take]; omega, ?_⟩ (by rw [List.length_take]; omega)
         rw [← hreq, blank_dropR (by assumption) (tf_iff.1 hc)])
      | (refine .now ⟨?_, rfl⟩
         rw [trimS_eq, ← h0, ← hreq, blank_stayR (by first | exact .inl hc | exact .inr (tf_not_iff.1 hc))])

/-- Whether a body may stand in one line. -/
def PlainOk (s : List UInt8) : Prop := Lib.indexByte s 13 < 0 ∧ Lib.indexByte s 10 < 0 ∧ Lib.trimS s [32, 9] = s
theorem indexByte_neg (s : List UInt8) (c : UInt8) : Lib.indexByte s c < 0 ↔ ∀ i, i < s.length → ¬ (s.getD i 0).toNat = c.toNat := by
  rcases indexByte_cases s c with ⟨h1, h2⟩ | ⟨m, hm, h1, h2, h3⟩
  · rw [h1]; exact ⟨fun _ i hi h => h2 i hi (UInt8.toNat_inj.1 h), fun _ => by omega⟩
  · rw [h1]; exact ⟨fun h => by omega, fun h => absurd (by rw [h2]) (h m hm)⟩

instance plain_t (s : List UInt8) : Ctr (env n0 w0 gl) 242 [.str s] H (s.length ≤ 9223372036854775807) (.bool (tf (PlainOk s))) H := .of fun hs => by
  refine enter (md := fun _ => 0) Tryz.func242 (fun hfit hgl => ?_)
  repeat' (first | refine go ?_ | (refine br (fun hc => ?_) (fun hc => ?_) <;> try (exfalso; omega)) | fail)
  refine loop0 (fun i : Nat => (.str s :: .top :: .bool false :: .int .i64 (i : Int) :: .top :: .top :: .top :: .top :: .top :: .top :: .top :: .top :: .top :: .top :: .top :: .top :: .top :: .top :: .top :: .top :: .top :: .top :: .top :: .top :: [])) (fun i => i ≤ s.length ∧ ∀ k, k < i → ¬ (s.getD k 0).toNat = 13 ∧ ¬ (s.getD k 0).toNat = 10) (fun i => s.length - i) 0 ⟨Nat.zero_le _, fun k h => absurd h (Nat.not_lt_zero _)⟩ ?_
  rintro i ⟨hi, hall⟩
  repeat' (first | refine go ?_ | (refine br (fun hc => ?_) (fun hc => ?_) <;> try (exfalso; omega)) | fail)
  all_goals first
    | (refine again (i + 1) ⟨by omega, fun k hk => ?_⟩
       rcases Nat.lt_succ_iff_lt_or_eq.1 hk with h | h
       · exact hall k h
       · subst h; omega)
    | (refine .now ⟨?_, rfl⟩
       rw [tf_false (p := PlainOk s) (fun h => by
         first
           | exact (indexByte_neg s 13).1 h.1 i (by omega) (by show _ = 13; omega)
           | exact (indexByte_neg s 10).1 h.2.1 i (by omega) (by show _ = 10; omega))]
       done)
    | (refine .now ⟨?_, rfl⟩
       congr 2
       rw [tf_decide]
       exact tf_congr ⟨fun h => ⟨(indexByte_neg s 13).2 (fun k hk => (hall k (by omega)).1), (indexByte_neg s 10).2 (fun k hk => (hall k (by omega)).2), h.symm⟩, fun h => h.2.2.symm⟩)

end Go.Ab.Tryz

end

section
set_option linter.unusedVariables false
namespace Go.Ab.Tryz
open Go Go.Ab

theorem crlfAt_app {s x y : List UInt8} (h : crlfAt s = some (x, y)) : s = x ++ 13 :: 10 :: y := by
  induction s generalizing x with
  | nil => simp [crlfAt] at h
  | cons c t ih =>
    unfold crlfAt at h
    split at h
    · rename_i hc
      simp only [Option.some.injEq, Prod.mk.injEq] at h
      obtain ⟨rfl, rfl⟩ := h
      obtain ⟨rfl, h2⟩ := hc
      cases t with
      | nil => simp at h2
      | cons d t => simp only [List.head?_cons, Option.some.injEq] at h2; subst h2; rfl
    · cases hq : crlfAt t with
      | none => rw [hq] at h; simp at h
      | some p =>
        rw [hq] at h
        simp only [Option.map_some, Option.some.injEq, Prod.mk.injEq] at h
        obtain ⟨rfl, rfl⟩ := h
        rw [List.cons_append, ← ih hq]
/-- A line that holds no CR, its end, and what stands behind. -/
theorem crlfAt_line : ∀ {x : List UInt8} (y : List UInt8), (∀ c ∈ x, c ≠ 13) → crlfAt (x ++ 13 :: 10 :: y) = some (x, y)
  | [], y, _ => by rw [List.nil_append]; unfold crlfAt; rw [if_pos (by simp)]; rfl
  | c :: x, y, h => by
    rw [List.cons_append]
    unfold crlfAt
    rw [if_neg (fun hh => h c (by simp) hh.1), crlfAt_line y (fun d hd => h d (by simp [hd]))]
    rfl
theorem crlfAt_take : ∀ {s x y : List UInt8} {m : Nat}, crlfAt s = some (x, y) → crlfAt (s.take (x.length + 2 + m)) = some (x, y.take m) := by
  intro s
  induction s with
  | nil => intro x y m h; simp [crlfAt] at h
  | cons c t ih =>
    intro x y m h
    unfold crlfAt at h
    split at h
    · rename_i hc
      simp only [Option.some.injEq, Prod.mk.injEq] at h
      obtain ⟨rfl, rfl⟩ := h
      obtain ⟨rfl, h2⟩ := hc
      cases t with
      | nil => simp at h2
      | cons d t =>
        simp only [List.head?_cons, Option.some.injEq] at h2; subst h2
        rw [show ([] : List UInt8).length + 2 + m = m + 1 + 1 by simp; omega, List.take_succ_cons, List.take_succ_cons]
        exact crlfAt_line (x := []) _ (by simp)
    · rename_i hc
      cases hq : crlfAt t with
      | none => rw [hq] at h; simp at h
      | some p =>
        rw [hq] at h
        simp only [Option.map_some, Option.some.injEq, Prod.mk.injEq] at h
        obtain ⟨rfl, rfl⟩ := h
        have := ih (m := m) hq
        rw [show (c :: p.1).length + 2 + m = (p.1.length + 2 + m) + 1 by simp; omega, List.take_succ_cons]
        unfold crlfAt
        rw [this, if_neg]
        · rfl
        · rintro ⟨rfl, h2⟩
          refine hc ⟨rfl, ?_⟩
          cases t with
          | nil => simp at h2
          | cons d t => rw [show p.1.length + 2 + m = (p.1.length + 1 + m) + 1 by omega, List.take_succ_cons] at h2; exact h2
theorem linesOf_take : ∀ (pre post : List (List UInt8)) (s : List UInt8), linesOf s = pre ++ post → linesOf (s.take (pre.map fun x => x.length + 2).sum) = pre
  | [], post, s, h => by simp only [List.map_nil, List.sum_nil, List.take_zero]; exact linesOf_none rfl
  | x :: pre, post, s, h => by
    cases hc : crlfAt s with
    | none => rw [linesOf_none hc] at h; simp at h
    | some p =>
      obtain ⟨x', y⟩ := p
      rw [linesOf_some hc, List.cons_append] at h
      simp only [List.cons.injEq] at h
      obtain ⟨rfl, h⟩ := h
      rw [List.map_cons, List.sum_cons, linesOf_some (crlfAt_take hc), linesOf_take pre post y h]

theorem headR_cut {b : List UInt8} {l : Flds} {u : Nat} (h : headR b = some (l, u)) : headR (b.take u) = some (l, u) := by
  unfold headR at h
  cases hf : foldR hstep ([], 0) (linesOf b) with
  | go j =>
    rw [hf] at h; simp only [Option.some.injEq] at h; subst h
    have hu := (hstep_used _ _ _ hf).1
    simp only [Nat.zero_add] at hu
    have := linesOf_take (linesOf b) [] b (by simp)
    rw [← hu] at this
    unfold headR
    rw [this, hf]
  | stop j =>
    rw [hf] at h; simp only [Option.some.injEq] at h; subst h
    obtain ⟨pre, x, post, j1, hx, h1, h2⟩ := foldR_stop_ex _ _ _ hf
    have hu := (hstep_used _ _ _ h1).1
    simp only [Nat.zero_add] at hu
    have key : ((l, u) = (j1.1, j1.2 + 2) ∧ x.length = 0) ∨ (l, u) = j1 := by
      unfold hstep at h2
      split at h2
      · rename_i h0; simp only [Res.stop.injEq] at h2; exact .inl ⟨h2.symm, h0⟩
      · split at h2
        · split at h2 <;> simp at h2
        · split at h2
          · simp only [Res.stop.injEq] at h2; exact .inr h2.symm
          · split at h2
            · simp at h2
            · simp only [Res.stop.injEq] at h2; exact .inr h2.symm
    rcases key with ⟨key, h0⟩ | key
    · injection key with k1 k2
      have := linesOf_take (pre ++ [x]) post b (by rw [hx]; simp)
      have hs : ((pre ++ [x]).map fun x => x.length + 2).sum = u := by simp only [List.map_append, List.sum_append, List.map_cons, List.map_nil, List.sum_cons, List.sum_nil]; omega
      rw [hs] at this
      unfold headR
      rw [this, foldR_stop h1 h2]
    · subst key
      have := linesOf_take pre (x :: post) b hx
      rw [← hu] at this
      unfold headR
      rw [this, h1]
  | die p => rw [hf] at h; simp at h
theorem headP_cut {b : List UInt8} (h : (headP b).2.2 = 0) : headP (b.take (headP b).2.1) = headP b := by
  cases hR : headR b with
  | none => unfold headP at h; rw [hR] at h; simp at h
  | some j =>
    obtain ⟨l, u⟩ := j
    by_cases hlu : l.length ≤ 1000 ∧ u ≤ 100000
    · have hP : headP b = (l.map trimF, u, 0) := by unfold headP; rw [hR]; simp only [if_pos hlu]
      rw [hP]
      unfold headP
      rw [headR_cut hR]
      simp only [if_pos hlu]
    · unfold headP at h; rw [hR] at h; simp only [if_neg hlu] at h; omega

/-! ### Shown and read again -/
theorem no13 {s : List UInt8} (h : Lib.indexByte s 13 < 0) : ∀ c ∈ s, c ≠ 13 := by
  intro c hc he
  subst he
  obtain ⟨i, hi, he⟩ := List.getElem_of_mem hc
  exact (indexByte_neg s 13).1 h i hi (by simp [List.getD_eq_getElem?_getD, hi, he])
theorem nameOk_mem {s : List UInt8} (h : NameOk s) : ∀ c ∈ s, nameB c := by
  intro c hc
  obtain ⟨i, hi, he⟩ := List.getElem_of_mem hc
  have := h.1 i hi
  simpa [List.getD_eq_getElem?_getD, hi, he] using this
theorem cutAt_app : ∀ {x : List UInt8} (y : List UInt8), (∀ c ∈ x, c ≠ 58) → cutAt 58 (x ++ 58 :: y) = some (x, y)
  | [], y, _ => by simp [cutAt]
  | c :: x, y, h => by
    have := cutAt_app (x := x) y (fun d hd => h d (by simp [hd]))
    rw [List.cons_append]
    unfold cutAt
    rw [this]
    have hc : c ≠ 58 := h c (by simp)
    simp [hc]

/-- A field's line. -/
def lineF (f : List UInt8 × List UInt8) : List UInt8 := f.1 ++ 58 :: 32 :: f.2
theorem showF_line (f : List UInt8 × List UInt8) : showF f = lineF f ++ [13, 10] := by simp [showF, lineF]
theorem lineF_no13 {f : List UInt8 × List UInt8} (h : FldOk f) : ∀ c ∈ lineF f, c ≠ 13 := by
  intro c hc
  simp only [lineF, List.mem_append, List.mem_cons] at hc
  rcases hc with hc | rfl | rfl | hc
  · have := nameOk_mem h.1 c hc
    rintro rfl
    exact absurd this.1 (by decide)
  · decide
  · decide
  · exact no13 h.2.1 c hc
theorem linesOf_show : ∀ (l : Flds) (more : List UInt8), (∀ f ∈ l, FldOk f) → linesOf (showL l ++ more) = l.map lineF ++ linesOf more
  | [], more, _ => rfl
  | f :: l, more, h => by
    have e : showL (f :: l) ++ more = lineF f ++ 13 :: 10 :: (showL l ++ more) := by simp [showL, showF_line]
    rw [e, linesOf_some (crlfAt_line _ (lineF_no13 (h f (by simp)))), linesOf_show l more (fun g hg => h g (by simp [hg]))]
    rfl
theorem lineF_len (f : List UInt8 × List UInt8) : (lineF f).length + 2 = (showF f).length := by rw [showF_line]; simp
theorem hstep_line {j : Flds × Nat} {f : List UInt8 × List UInt8} (h : FldOk f) : hstep j (lineF f) = .go (j.1 ++ [(f.1, 32 :: f.2)], j.2 + (showF f).length) := by
  have h0 : f.1.length ≠ 0 := h.1.2.1
  have hl : (lineF f).length ≠ 0 := by simp [lineF]
  have hfirst : nameB ((lineF f).getD 0 0) := by
    have := h.1.1 0 (by omega)
    unfold lineF
    cases hq : f.1 with
    | nil => rw [hq] at h0; simp at h0
    | cons c t => rw [hq] at this; simpa using this
  unfold hstep
  rw [if_neg hl, if_neg (by have := hfirst.1; omega)]
  have hc : cutAt 58 (lineF f) = some (f.1, 32 :: f.2) := cutAt_app _ (fun c hc he => by subst he; exact (nameOk_mem h.1 _ hc).2.2 rfl)
  rw [hc]
  simp only [tf_true h.1, if_true, lineF_len]
theorem foldR_show : ∀ (l : Flds) (j : Flds × Nat), (∀ f ∈ l, FldOk f) → foldR hstep j (l.map lineF) = .go (j.1 ++ l.map (fun f => (f.1, 32 :: f.2)), j.2 + (showL l).length)
  | [], j, _ => by simp [foldR, showL]
  | f :: l, j, h => by
    rw [List.map_cons, foldR, hstep_line (h f (by simp))]
    simp only
    rw [foldR_show l _ (fun g hg => h g (by simp [hg]))]
    simp [showL]
    omega
theorem trim_pad {s : List UInt8} (h : Lib.trimS s [32, 9] = s) : Lib.trimS (32 :: s) [32, 9] = s := by
  rw [trimS_eq] at h ⊢
  rw [List.dropWhile_cons, if_pos (by decide)]
  exact h
theorem headP_show {l : Flds} {s : List UInt8} (more : List UInt8) (h : showR l = .inl s) : headP (s ++ more) = (l, s.length, 0) := by
  have hok : ∀ i, i < l.length → FldOk (l.getD i ([], [])) := by
    refine Classical.byContradiction fun hn => ?_
    unfold showR at h
    rw [tf_false hn] at h
    simp at h
  have hok2 : ∀ f ∈ l, FldOk f := fun f hf => by
    obtain ⟨i, hi, he⟩ := List.getElem_of_mem hf
    have := hok i hi
    simpa [List.getD_eq_getElem?_getD, hi, he] using this
  unfold showR at h
  rw [tf_true hok] at h
  simp only [if_true] at h
  split at h
  · rename_i hlu
    simp only [Sum.inl.injEq] at h
    subst h
    have e : showL l ++ [13, 10] ++ more = showL l ++ (13 :: 10 :: more) := by simp
    have hlines := linesOf_show l (13 :: 10 :: more) hok2
    have hl0 : linesOf (13 :: 10 :: more) = [] :: linesOf more := linesOf_some (crlfAt_line (x := []) more (by simp))
    rw [hl0] at hlines
    have hR : headR (showL l ++ [13, 10] ++ more) = some (l.map (fun f => (f.1, 32 :: f.2)), (showL l).length + 2) := by
      unfold headR
      rw [e, hlines, foldR_stop (foldR_show l ([], 0) hok2) (o := (l.map (fun f => (f.1, 32 :: f.2)), (showL l).length + 2)) (by unfold hstep; simp)]
    unfold headP
    rw [hR]
    simp only
    rw [if_pos ⟨by simpa using hlu.1, by omega⟩]
    have e2 : (l.map (fun f => (f.1, 32 :: f.2))).map trimF = l := by
      rw [List.map_map]
      conv => rhs; rw [← List.map_id l]
      refine List.map_congr_left fun f hf => ?_
      simp only [Function.comp, trimF, trim_pad (hok2 f hf).2.2.2, id]
    rw [e2]
    simp
  · simp at h

end Go.Ab.Tryz

end
