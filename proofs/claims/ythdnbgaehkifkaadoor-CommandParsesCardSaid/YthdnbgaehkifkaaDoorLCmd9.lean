/- Walks: the reference's command. (printed by mkCmd9.py) -/
import Derived.Test.YthdnbgaehkifkaaDoorLCmd8
set_option linter.unusedSimpArgs false
set_option linter.unusedVariables false
set_option maxHeartbeats 16000000
set_option maxRecDepth 4000
namespace Go.Ab.Tryd
open Go Go.Ab Go.Proofs
attribute [local irreducible] W Wl Wop TrA WSeq WLoopS FPost DPost RPost WRound DK onEnd
variable {n0 : Nat} {w0 : World} {gl : Nat → List AV} {H : List AO}
attribute [local simp] belowL_bytesAV

theorem numV_form (s : List UInt8) : ∃ (n : Int) (o : Bool), numV s = .tup [.int .i64 n, .bool o] := by
  by_cases h : Fine s
  · exact ⟨_, _, numV_good h⟩
  · exact ⟨_, _, numV_bad h⟩
theorem digs_get {z : List UInt8} : Digs z ↔ AllDig z := by
  constructor
  · intro h i hi
    refine h _ ?_
    rw [List.getD_eq_getElem?_getD, List.getElem?_eq_getElem hi]
    exact List.getElem_mem _
  · intro h c hc
    obtain ⟨k, hk, rfl⟩ := List.getElem_of_mem hc
    have := h k hk
    rwa [List.getD_eq_getElem?_getD, List.getElem?_eq_getElem hk] at this
theorem drop_get (z : List UInt8) (i k : Nat) : (z.drop i).getD k 0 = z.getD (i + k) 0 := by simp [List.getD_eq_getElem?_getD]
theorem noughts : ∀ l : List UInt8, (∀ c ∈ l, c = 48) → l.foldl (fun n c => 10 * n + (c.toNat - 48)) 0 = 0
  | [], _ => rfl
  | c :: l, h => by
    have hc := h c (List.mem_cons_self ..)
    subst hc
    exact noughts l fun x hx => h x (List.mem_cons_of_mem _ hx)
theorem strip_val {z : List UInt8} {i : Nat} (hi : i ≤ z.length) (h48 : ∀ k, k < i → (z.getD k 0).toNat = 48) : decVal (z.drop i) = decVal z := by
  conv => rhs; rw [← List.take_append_drop i z]
  unfold decVal
  rw [List.foldl_append, noughts (z.take i)]
  intro c hc
  obtain ⟨k, hk, rfl⟩ := List.getElem_of_mem hc
  have hk2 : k < i := by rw [List.length_take] at hk; omega
  have := h48 k hk2
  rw [List.getD_eq_getElem?_getD, List.getElem?_eq_getElem (by omega)] at this
  exact UInt8.toNat_inj.1 (by rw [List.getElem_take]; exact this)
theorem strip_good {z : List UInt8} {i : Nat} (hd : Digs z) (hl : z.length ≤ 18) (h48 : ∀ k, k < i → (z.getD k 0).toNat = 48) (hi : i < z.length) (hend : 1 < z.length - i → ¬ (z.getD i 0).toNat = 48) : numV (z.drop i) = .tup [.int .i64 (decVal z), .bool true] := by
  have hA := digs_get.1 hd
  have hF : Fine (z.drop i) := ⟨fun k hk => by rw [drop_get]; exact hA _ (by rw [List.length_drop] at hk; omega), by rw [strip_val (by omega) h48]; have := decVal_18 hd hl; omega⟩
  have hlen : (z.drop i).length = z.length - i := List.length_drop
  have h0 : (z.drop i).getD 0 0 = z.getD i 0 := drop_get z i 0
  rw [numV_good hF, strip_val (by omega) h48, tf_true (p := Lead (z.drop i))]
  refine ⟨fun h => by rw [h] at hlen; simp at hlen; omega, ?_⟩
  by_cases h1 : 1 < z.length - i
  · left; rw [h0]; intro h; exact hend h1 (by rw [h]; rfl)
  · rcases hx : z.drop i with _ | ⟨c, _ | ⟨d, l⟩⟩
    · rw [hx] at hlen; simp at hlen; omega
    · by_cases hc : c = 48
      · right; rw [hc]
      · left; exact hc
    · rw [hx] at hlen; simp at hlen; omega
theorem strip_bad {z : List UInt8} {i : Nat} (hd : ¬ Digs z) (h48 : ∀ k, k < i → (z.getD k 0).toNat = 48) : numV (z.drop i) = .tup [.int .i64 0, .bool false] := by
  refine numV_bad fun h => hd (digs_get.2 fun k hk => ?_)
  by_cases hki : k < i
  · have := h48 k hki; omega
  · have := h.1 (k - i) (by rw [List.length_drop]; omega)
    rwa [drop_get, show i + (k - i) = k by omega] at this

theorem path_nil : pathR [] = none := by unfold pathR; rw [if_neg (by simp)]
theorem path_len {x a y : List UInt8} (h : pathR x = some (a, y)) : a.length ≤ x.length ∧ y.length ≤ x.length := by
  unfold pathR at h
  split at h
  · cases hc : cutAt 62 (x.drop 1) with
    | none => rw [hc] at h; cases h
    | some q =>
      obtain ⟨u, v⟩ := q
      rw [hc] at h
      simp only at h
      have h2 := cutAt_len hc
      rw [List.length_drop] at h2
      split at h
      · injection h with h
        injection h with e1 e2
        subst e1; subst e2
        omega
      · cases h
  · cases h

end Go.Ab.Tryd
