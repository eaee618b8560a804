/- The abstract view, 35: a row of cells in a temporary, known from now on; new rows that a library's function hands over. -/
import Derived.Test.YtocoejhiphcehaaGreatDoorFrE
set_option linter.unusedVariables false
set_option linter.unusedSimpArgs false
namespace Go.Ab
open Go Go.RowKit
variable {E : Env} {N : Nat} {ts : List AV} {ds : List ADef} {H : List AO} {g : Ghost} {w w' : World}

/-- A slice over cells is known from now on. -/
theorem Rep.know_msl {n0 : Nat} {w0 : World} {gl : Nat → List AV} (hr : Rep n0 w0 gl g H w) {id : Nat} {xs : List AV} (hH : H[id]? = some (.cells xs)) :
    ∃ g', GLe g g' ∧ Rep n0 w0 gl g' (H.set id .dead) w ∧ ∀ off n sz c, 0 < n → off + n * sz ≤ xs.length → VRel g (.msl id off n) c → VRel g' (.sl n ((xs.drop off).take (n * sz)) .ro) c := by
  obtain ⟨b, cs, T, fz, h1, h2, h3, h4, h5, h6, h7⟩ := hr.objs _ _ hH
  have hR := Rep.know_cells hr hH h1 h3 h3 (fun _ _ => rfl) rfl rfl rfl rfl
  have le := g.learn_le b (fun o => if o < xs.length then cs[o]? else none)
  refine ⟨_, le, hR, fun off n sz c hn hle hv => ?_⟩
  cases hv with
  | msl _ _ _ b' off' cap hb hcap ho =>
    rw [h1] at hb; injection hb with hb; subst hb
    obtain rfl : off' = off := by rcases ho with ho | ho <;> omega
    have hlen : ((xs.drop off').take (n * sz)).length = n * sz := by rw [List.length_take, List.length_drop]; omega
    refine .sl n _ .ro b off' cap (fun k => cs.getD (off' + k) undef) hcap (fun k hk => ?_) (fun k => ?_) trivial
    · rw [hlen] at hk
      show (if b = b then (match g.K b (off' + k) with | some v => some v | none => if off' + k < xs.length then cs[off' + k]? else none) else g.K b (off' + k)) = _
      rw [if_pos rfl, h7]
      simp only
      rw [if_pos (by omega), Array.getElem?_eq_getElem (by omega), Array.getD_eq_getD_getElem?, Array.getElem?_eq_getElem (by omega)]; rfl
    · by_cases hk : k < n * sz
      · have := h5 (off' + k)
        simp only [List.getD_eq_getElem?_getD, List.getElem?_take, List.getElem?_drop, if_pos hk] at this ⊢
        exact this.mono le
      · rw [List.getD_eq_getElem?_getD, List.getElem?_eq_none (by omega)]; exact .top _
theorem set_getD_self (a : Array Value) (t : Nat) : a.setIfInBounds t (a.getD t undef) = a := by
  apply Array.ext_getElem?
  intro i
  rw [Array.getElem?_setIfInBounds]
  split
  · rename_i e; subst e
    split
    · rename_i hlt; rw [Array.getElem?_eq_getElem hlt]; simp [Array.getD, hlt]
    · rename_i hlt; rw [Array.getElem?_eq_none (by omega)]
  · rfl
theorem Shift.mslKnow (t : Nat) {id off n : Nat} (sz : Nat) {xs : List AV} (h : ts.getD t .top = .msl id off n) (hH : H[id]? = some (.cells xs)) (h0 : 0 < n) (hle : off + n * sz ≤ xs.length) : Shift E N ts ds H (ts.set t (.sl n ((xs.drop off).take (n * sz)) .ro)) (H.set id .dead) := fun g0 g w a' hd hl hr ha => by
  obtain ⟨g', r1, r2, r3⟩ := Rep.know_msl hr hH
  refine ⟨g', hl.trans r1, r2, ?_, ha.2.mono r1⟩
  have h1 := (ha.1.2 t)
  rw [h] at h1
  have h2 := (ha.1.mono r1).set t (c := a'.tmps.getD t undef) (r3 _ _ sz _ h0 hle h1)
  rwa [set_getD_self] at h2

/-- A new row, none of it used yet: what is behind has a name of its own. -/
theorem Rep.new_room {n0 : Nat} {w0 : World} {gl : Nat → List AV} (hr : Rep n0 w0 gl g H w) (hb : Below w.heap.size w w') {b : Nat} (hlt : w.heap.size ≤ b) {cs : Array Value} {T : TypeId} (hc : w'.heap[b]? = some (.cells cs T (0, 0))) (sz cap : Nat) (hcs : cap * sz ≤ cs.size) :
    ∃ g', GLe g g' ∧ Rep n0 w0 gl g' (H ++ [.tail sz 0]) w' ∧ VRel g' (.sl 0 [] (.at H.length 0)) (.slice (some ⟨b, 0, none⟩) 0 cap) := by
  have hn0 : n0 ≤ w.heap.size := Nat.le_trans hr.n0le hr.below.size
  have hk := hr.kept hb
  have hfree : ∀ i, own g H i ≠ some b := fun i hi => absurd (hr.own_lt hi).1 (by omega)
  have hK : ∀ o, g.K b o = none := fun o => by
    cases h : g.K b o with
    | none => rfl
    | some v => exact absurd (hr.K_lt h) (by omega)
  obtain ⟨q1, q2⟩ := Rep.new_tok hk sz 0 ⟨b, 0, cap⟩ (.inr ⟨cs, T, (0, 0), by simp only; omega, hc, by simp only; omega, fun k _ _ => by simp, fun o _ => hK o⟩) (fun _ => hfree)
  exact ⟨_, q2, q1, .sl 0 [] _ b 0 cap (fun _ => undef) (Nat.zero_le _) (fun i hi => by simp at hi) (fun i => .top _) ⟨_, setTok_same _ _ _ _, rfl, .inr ⟨rfl, rfl⟩⟩⟩
/-- A row with no room at all. -/
theorem Rep.no_room {n0 : Nat} {w0 : World} {gl : Nat → List AV} (hr : Rep n0 w0 gl g H w) (sz : Nat) (p : Option Addr) :
    ∃ g', GLe g g' ∧ Rep n0 w0 gl g' (H ++ [.tail sz 0]) w ∧ VRel g' (.sl 0 [] (.at H.length 0)) (.slice p 0 0) := by
  obtain ⟨q1, q2⟩ := Rep.new_tok hr sz 0 ⟨0, 0, 0⟩ (.inl rfl) (fun h => absurd rfl h)
  exact ⟨_, q2, q1, .nsl _ ⟨_, setTok_same _ _ _ _, rfl⟩⟩
end Go.Ab
