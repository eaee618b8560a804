/- Plain laws: a mailbox file, read as its reader reads it. -/
import Derived.Test.YtpdjgbpmlckepaaDoorSMbox3
set_option linter.unusedSimpArgs false
set_option linter.unusedVariables false
set_option maxHeartbeats 2000000
set_option maxRecDepth 4000
namespace Go.Ab.Tryd
open Go Go.Ab Go.Proofs

/-- Whether a line begins a letter. -/
def isFrom (x : List UInt8) : Bool := decide (x.take 5 = fromB)
open Classical in
/-- A letter's first line: who, when, what stands behind. -/
noncomputable def mheadR (s : List UInt8) : Option (List UInt8 × Int × List UInt8) :=
  match cutAt 10 s with
  | none => none
  | some (x, y) => match prefR fromB x with
    | none => none
    | some z => match cutAt 32 z with
      | none => none
      | some (who, when_) => match Lib.parseIntB 64 when_ with
        | .ok n => if Lib.itoa n = when_ ∧ 0 ≤ n ∧ (who = [45] ∨ MailboxOk who) then some (if who = [45] then [] else who, n, y) else none
        | _ => none
/-- How many bytes stand ahead of the next letter. -/
def bodyN (s : List UInt8) : Nat := ((lns s).takeWhile fun x => !isFrom x).flatten.length
def BodyOk (s : List UInt8) : Prop := 0 < bodyN s ∧ (s.getD (bodyN s - 1) 0).toNat = 10 ∧ (bodyN s - 1 = 0 ∨ (s.getD (bodyN s - 1 - 1) 0).toNat = 10)
open Classical in
noncomputable def mbodyR (s : List UInt8) : Option (List UInt8 × List UInt8) :=
  if BodyOk s then some (unquoteS (s.take (bodyN s - 1)), s.drop (bodyN s)) else none
/-- All letters. -/
noncomputable def mparseR : Nat → List UInt8 → Option (List Ltr)
  | 0, s => if s = [] then some [] else none
  | k + 1, s => if s = [] then some [] else match mheadR s with
    | none => none
    | some (f, n, y) => match mbodyR y with
      | none => none
      | some (b, z) => (mparseR k z).map (Ltr.mk f n b :: ·)

theorem takeWhile_flat_len (p : List UInt8 → Bool) (L : List (List UInt8)) : (L.takeWhile p).flatten.length ≤ L.flatten.length := by
  induction L with
  | nil => simp
  | cons x L ih =>
    simp only [List.takeWhile_cons]
    split
    · simp only [List.flatten_cons, List.length_append]; omega
    · simp
theorem bodyN_le (s : List UInt8) : bodyN s ≤ s.length := by
  have := takeWhile_flat_len (fun x => !isFrom x) (lns s)
  rwa [lns_join] at this
theorem mheadR_rest {s f y : List UInt8} {n : Int} (h : mheadR s = some (f, n, y)) : y.length < s.length ∧ f.length ≤ s.length ∧ n ≤ 9223372036854775807 ∧ 0 ≤ n := by
  unfold mheadR at h
  split at h
  · simp at h
  · rename_i x y' hc
    split at h
    · simp at h
    · rename_i z hz
      split at h
      · simp at h
      · rename_i who when_ hw
        split at h
        · rename_i m hm
          split at h
          · rename_i hk
            simp only [Option.some.injEq, Prod.mk.injEq] at h
            obtain ⟨h1, h2, h3⟩ := h
            subst h2; subst h3
            have l1 := cutAt_len hc
            have l2 := cutAt_len hw
            have l3 : z.length ≤ x.length := by
              unfold prefR at hz
              split at hz
              · injection hz with hz; subst hz; rw [List.length_drop]; omega
              · simp at hz
            have l4 : f.length ≤ who.length := by subst h1; split <;> simp
            have hb := parseIntB_le hm
            exact ⟨by omega, by omega, hb, hk.2.1⟩
          · simp at h
        · simp at h
where
  parseIntB_le {s : List UInt8} {n : Int} (h : Lib.parseIntB 64 s = .ok n) : n ≤ 9223372036854775807 := by
    have h3 : (2 : Nat) ^ (64 - 1) = 9223372036854775808 := by decide
    unfold Lib.parseIntB at h
    split at h
    · simp at h
    · simp only at h
      split at h <;> (try simp at h)
      all_goals (split at h <;> try simp at h)
      all_goals (try (split at h <;> try simp at h))
      all_goals (try (split at h <;> try simp at h))
      all_goals omega
theorem mparseR_all : ∀ (k : Nat) (s : List UInt8) (l : List Ltr), mparseR k s = some l → ∀ x ∈ l, x.fro.length ≤ s.length ∧ x.body.length ≤ s.length ∧ x.at_ ≤ 9223372036854775807
  | 0, s, l, h => by
    unfold mparseR at h
    split at h
    · injection h with h; subst h; intro x hx; simp at hx
    · simp at h
  | k + 1, s, l, h => by
    unfold mparseR at h
    split at h
    · injection h with h; subst h; intro x hx; simp at hx
    · split at h
      · simp at h
      · rename_i f n y hh
        split at h
        · simp at h
        · rename_i b z hb
          cases hp : mparseR k z with
          | none => rw [hp] at h; simp at h
          | some l' =>
            rw [hp] at h
            simp only [Option.map_some, Option.some.injEq] at h
            subst h
            obtain ⟨h1, h2, h3, _⟩ := mheadR_rest hh
            have ih := mparseR_all k z l' hp
            unfold mbodyR at hb
            split at hb
            · simp only [Option.some.injEq, Prod.mk.injEq] at hb
              obtain ⟨rfl, rfl⟩ := hb
              have hu := unquoteS_len (y.take (bodyN y - 1))
              rw [List.length_take] at hu
              intro x hx
              rcases List.mem_cons.1 hx with e | e
              · subst e; exact ⟨h2, by simp only; omega, h3⟩
              · have := ih x e
                rw [List.length_drop] at this
                omega
            · simp at hb
theorem mparseR_count : ∀ (k : Nat) (s : List UInt8) (l : List Ltr), mparseR k s = some l → l.length ≤ k
  | 0, s, l, h => by
    unfold mparseR at h
    split at h
    · injection h with h; subst h; simp
    · simp at h
  | k + 1, s, l, h => by
    unfold mparseR at h
    split at h
    · injection h with h; subst h; simp
    · split at h
      · simp at h
      · split at h
        · simp at h
        · rename_i b z hb
          cases hp : mparseR k z with
          | none => rw [hp] at h; simp at h
          | some l' =>
            rw [hp] at h
            simp only [Option.map_some, Option.some.injEq] at h
            subst h
            have := mparseR_count k z l' hp
            simpa using this

theorem end10 {b : List UInt8} (h : b.length = 0 ∨ (b.getD (b.length - 1) 0).toNat = 10) : b = [] ∨ ∃ t, b = t ++ [10] := by
  rcases h with h | h
  · exact .inl (List.length_eq_zero_iff.1 h)
  · by_cases h0 : b = []
    · exact .inl h0
    · right
      refine ⟨b.dropLast, ?_⟩
      have h1 := List.dropLast_concat_getLast h0
      have h2 : b.getLast h0 = 10 := by
        rw [List.getLast_eq_getElem]
        have hp := List.length_pos_iff.2 h0
        rw [List.getD_eq_getElem?_getD, List.getElem?_eq_getElem (by omega)] at h
        exact UInt8.toNat_inj.1 h
      rw [h2] at h1; exact h1.symm
theorem quote_end {b : List UInt8} (h : b = [] ∨ ∃ t, b = t ++ [10]) : quoteS b = [] ∨ ∃ t, quoteS b = t ++ [10] := by
  have hall := lns_all b h
  by_cases h0 : lns b = []
  · left; unfold quoteS; rw [h0]; rfl
  · right
    have h1 := List.dropLast_concat_getLast h0
    obtain ⟨y, _, hy⟩ := isLine_quote (hall _ (List.getLast_mem h0))
    refine ⟨(lns b).dropLast.flatMap quoteL ++ y, ?_⟩
    unfold quoteS
    rw [← h1, List.flatMap_append]
    simp [hy]
theorem quoteL_not (x : List UInt8) : isFrom (quoteL x) = false := by
  unfold isFrom quoteL
  rw [decide_eq_false]
  split
  · intro h; rw [show fromB = [70, 114, 111, 109, 32] from rfl] at h; simp at h
  · rename_i hb
    intro h
    apply hb
    have : mk x = 0 := by
      cases x with
      | nil => rfl
      | cons c t =>
        rw [show fromB = [70, 114, 111, 109, 32] from rfl] at h
        simp only [List.take_succ_cons, List.cons.injEq] at h
        unfold mk; rw [if_neg]; rw [h.1]; decide
    unfold Bg
    rw [this]; exact h
theorem show_line {x : Ltr} (hx : x.Ok) (r : List UInt8) : ∃ y, isFrom (fromB ++ y) = true ∧ IsLine (fromB ++ y) ∧ fromB ++ y = (fromB ++ (whoS x.fro ++ 32 :: Lib.itoa x.at_)) ++ [10] ∧ lns (x.show ++ r) = (fromB ++ y) :: lns (quoteS x.body ++ 10 :: r) := by
  refine ⟨whoS x.fro ++ 32 :: Lib.itoa x.at_ ++ [10], by unfold isFrom; exact decide_eq_true (List.take_left' rfl), ⟨_, head_no10 hx, by simp⟩, by simp, ?_⟩
  have := lns_some (cut_show hx r)
  rw [this]; simp
/-- What stands ahead of the next letter. -/
theorem body_lines {b : List UInt8} (hb : b = [] ∨ ∃ t, b = t ++ [10]) {l : List Ltr} (hl : ∀ x ∈ l, x.Ok) : (lns (quoteS b ++ 10 :: showM l)).takeWhile (fun x => !isFrom x) = (lns b).map quoteL ++ [[10]] := by
  rw [lns_body hb]
  have h3 : isFrom [10] = false := by decide
  have h2 : ([10] :: lns (showM l)).takeWhile (fun x => !isFrom x) = [[10]] := by
    rw [List.takeWhile_cons, h3]
    simp only [Bool.not_false, if_true]
    cases l with
    | nil => rfl
    | cons x l =>
      obtain ⟨y, hy, _, _, hs⟩ := show_line (hl x (by simp)) (showM l)
      rw [show showM (x :: l) = x.show ++ showM l from rfl, hs, List.takeWhile_cons, hy]
      rfl
  rw [List.append_cons, List.append_assoc, List.takeWhile_append_of_pos (fun x hx => by
    obtain ⟨y, _, rfl⟩ := List.mem_map.1 hx
    rw [quoteL_not]; rfl)]
  rw [show [[10]] ++ lns (showM l) = [10] :: lns (showM l) from rfl, h2]
theorem bodyN_show {b : List UInt8} (hb : b = [] ∨ ∃ t, b = t ++ [10]) {l : List Ltr} (hl : ∀ x ∈ l, x.Ok) : bodyN (quoteS b ++ 10 :: showM l) = (quoteS b).length + 1 := by
  unfold bodyN
  rw [body_lines hb hl, List.flatten_append, List.length_append]
  rw [show ((lns b).map quoteL).flatten = quoteS b by unfold quoteS; rw [List.flatMap_def]]
  rfl
theorem mbodyR_show {b : List UInt8} (hb : b.length = 0 ∨ (b.getD (b.length - 1) 0).toNat = 10) {l : List Ltr} (hl : ∀ x ∈ l, x.Ok) : mbodyR (quoteS b ++ 10 :: showM l) = some (b, showM l) := by
  have hb' := end10 hb
  have hn := bodyN_show hb' hl
  unfold mbodyR
  have hok : BodyOk (quoteS b ++ 10 :: showM l) := by
    unfold BodyOk
    rw [hn]
    refine ⟨by omega, ?_, ?_⟩
    · simp [List.getD_eq_getElem?_getD]
    · rcases quote_end hb' with h | ⟨t, h⟩
      · left; rw [h]; rfl
      · right
        rw [h]
        simp [List.getD_eq_getElem?_getD]
  rw [if_pos hok, hn]
  simp [unquote_quote]
theorem mheadR_show {x : Ltr} (hx : x.Ok) (hm : x.at_ ≤ 9223372036854775807) (r : List UInt8) : mheadR (x.show ++ r) = some (x.fro, x.at_, quoteS x.body ++ 10 :: r) := by
  unfold mheadR
  simp only [cut_show hx r, pref_show x, cut_who hx, parse_itoa hx.2.1 hm]
  have h0 := hx.2.1
  by_cases hf : x.fro.length = 0
  · have h1 : x.fro = [] := List.length_eq_zero_iff.1 hf
    have h2 : whoS x.fro = [45] := by unfold whoS; rw [if_pos hf]
    rw [if_pos ⟨rfl, h0, .inl h2⟩, if_pos h2, h1]
  · have h2 : whoS x.fro = x.fro := by unfold whoS; rw [if_neg hf]
    have hmo := hx.1.resolve_left hf
    have hne : ¬ x.fro = [45] := fun h => by
      rw [h] at hmo
      obtain ⟨k, h, _⟩ := hmo
      simp [lastAt] at h
    rw [h2, if_pos ⟨rfl, h0, .inr hmo⟩, if_neg hne]
theorem show_pos (x : Ltr) : 0 < x.show.length := by unfold Ltr.show; simp [fromB]
/-- What is shown is read again. -/
theorem mparseR_show : ∀ (l : List Ltr) (k : Nat), (∀ x ∈ l, x.Ok ∧ x.at_ ≤ 9223372036854775807) → (showM l).length ≤ k → mparseR k (showM l) = some l
  | [], 0, _, _ => by simp [mparseR, showM]
  | [], k + 1, _, _ => by simp [mparseR, showM]
  | x :: l, 0, h, hk => by
    have := show_pos x
    rw [show showM (x :: l) = x.show ++ showM l from rfl, List.length_append] at hk
    omega
  | x :: l, k + 1, h, hk => by
    have hp := show_pos x
    rw [show showM (x :: l) = x.show ++ showM l from rfl] at hk ⊢
    rw [List.length_append] at hk
    have hx := h x (by simp)
    have ih := mparseR_show l k (fun y hy => h y (by simp [hy])) (by omega)
    have hl : ∀ y ∈ l, y.Ok := fun y hy => (h y (by simp [hy])).1
    unfold mparseR
    rw [if_neg (fun e => by have := congrArg List.length e; rw [List.length_append, List.length_nil] at this; omega)]
    rw [mheadR_show hx.1 hx.2 (showM l)]
    simp only [mbodyR_show hx.1.2.2 hl, ih, Option.map_some]

end Go.Ab.Tryd
