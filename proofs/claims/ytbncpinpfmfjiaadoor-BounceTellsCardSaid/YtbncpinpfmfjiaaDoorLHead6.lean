/- Walks: a head. -/
import Derived.Test.YtbncpinpfmfjiaaDoorLHead5
set_option linter.unusedSimpArgs false
set_option linter.unusedVariables false
set_option maxHeartbeats 2000000
set_option maxRecDepth 4000
namespace Go.Ab.Tryd
open Go Go.Ab Go.Proofs
attribute [local irreducible] W Wl Wop TrA WSeq WLoopS FPost DPost RPost WRound DK onEnd
variable {n0 : Nat} {w0 : World} {gl : Nat → List AV} {H : List AO}
attribute [local simp] belowL_bytesAV

instance trim_t (s : List UInt8) : Ctr (env n0 w0 gl) 98 [.str s, .str [32, 9]] H (s.length ≤ 9223372036854775807) (.str (Lib.trimS s [32, 9])) H := .of fun hs =>
  AEnter.of_calls (fn := Tryd.f98) Tryd.func98 rfl rfl fun g w cs hr hv => by
    obtain ⟨c, d, rfl, h1, h2⟩ := rels2 hv
    have h1 := h1.str_inv
    have h2 := h2.str_inv
    subst h1; subst h2
    refine (Any.strings_Trim_laid Tryd.lays160 (by kernel_rfl) ⟨s.toArray⟩ ⟨#[32, 9]⟩ w (by simpa [ByteArray.size] using hs) (by simp [ByteArray.size]) (ascii_of_all (by decide))).mono ?_
    rintro e w' ⟨rfl, hb⟩
    exact econc_ret hr hb (.str _ _ rfl)

/-- A field without blanks around its body. -/
def trimF (f : List UInt8 × List UInt8) : List UInt8 × List UInt8 := (f.1, Lib.trimS f.2 [32, 9])
def trimTo (l : Flds) (i : Nat) : Flds := (l.take i).map trimF ++ l.drop i

theorem fldAV_body {l : Flds} {i : Nat} (h : i < l.length) : (fldAV l).getD (i * 2 + 1) .top = .str (l.getD i ([], [])).2 := by
  have h1 := fldAV_at h
  have h2 : (((fldAV l).drop (i * 2)).take 2)[1]? = some (.str (l.getD i ([], [])).2) := by rw [h1]; rfl
  rw [List.getElem?_take_of_lt (by omega), List.getElem?_drop] at h2
  rw [List.getD_eq_getElem?_getD, h2]; rfl
theorem fldAV_app (a b : Flds) : fldAV (a ++ b) = fldAV a ++ fldAV b := by simp [fldAV]
theorem fldAV_setBody {l : Flds} {i : Nat} {v : List UInt8} (h : i < l.length) : setRange (fldAV l) (i * 2 + 1) [.str v] = fldAV (l.set i ((l.getD i ([], [])).1, v)) := by
  have h1 : l = l.take i ++ l.getD i ([], []) :: l.drop (i + 1) := by
    conv => lhs; rw [← List.take_append_drop i l]
    rw [List.drop_eq_getElem_cons h]
    simp [List.getD_eq_getElem?_getD, h]
  have hlen : (fldAV (l.take i)).length = i * 2 := by rw [fldAV_len, List.length_take]; omega
  have hli : (l.take i).length = i := by rw [List.length_take]; omega
  generalize hq : l.getD i ([], []) = q at *
  generalize hp : l.take i = p at *
  generalize hd : l.drop (i + 1) = d at *
  clear hq hp hd
  subst h1
  rw [List.set_append_right _ _ (by omega), hli, Nat.sub_self, List.set_cons_zero, fldAV_app, fldAV_app, fldAV_cons, fldAV_cons]
  unfold setRange
  rw [← hlen, List.take_append, List.drop_append, List.take_of_length_le (by omega), List.drop_eq_nil_of_le (by simp only [List.length_cons, List.length_nil]; omega)]
  have e3 : (fldAV p).length + 1 - (fldAV p).length = 1 := by omega
  have e4 : (fldAV p).length + 1 + [AV.str v].length - (fldAV p).length = 2 := by simp only [List.length_cons, List.length_nil]; omega
  rw [e3, e4]
  simp
theorem trimTo_len (l : Flds) (i : Nat) : (trimTo l i).length = l.length := by simp [trimTo]; omega
theorem trimTo_get {l : Flds} {i : Nat} (h : i < l.length) : (trimTo l i).getD i ([], []) = l.getD i ([], []) := by
  simp [trimTo, List.getD_eq_getElem?_getD, List.getElem?_append_right, h, Nat.min_eq_left (Nat.le_of_lt h)]
theorem trimTo_succ {l : Flds} {i : Nat} (h : i < l.length) : (trimTo l i).set i (trimF (l.getD i ([], []))) = trimTo l (i + 1) := by
  unfold trimTo
  rw [List.set_append_right _ _ (by simp; omega), List.take_add_one, List.map_append, List.append_assoc]
  congr 1
  have e : i - ((l.take i).map trimF).length = 0 := by simp; omega
  rw [e, List.drop_eq_getElem_cons h]
  simp only [List.set_cons_zero]
  simp [h]

theorem foldR_stop_ex {J O P X : Type} {step : J → X → Res J O P} : ∀ (xs : List X) (j : J) (o : O), foldR step j xs = .stop o → ∃ pre x post j1, xs = pre ++ x :: post ∧ foldR step j pre = .go j1 ∧ step j1 x = .stop o
  | [], j, o, h => by simp [foldR] at h
  | x :: xs, j, o, h => by
    simp only [foldR] at h
    cases hs : step j x with
    | go j1 =>
      rw [hs] at h
      obtain ⟨pre, y, post, j2, h1, h2, h3⟩ := foldR_stop_ex xs j1 o h
      exact ⟨x :: pre, y, post, j2, by rw [h1]; rfl, by simp only [foldR, hs]; exact h2, h3⟩
    | stop o' => rw [hs] at h; simp only [Res.stop.injEq] at h; subst h; exact ⟨[], x, xs, j, rfl, rfl, hs⟩
    | die p => rw [hs] at h; simp at h

theorem headR_inv {b : List UInt8} {l : Flds} {u : Nat} (h : headR b = some (l, u)) : l.length ≤ b.length ∧ u ≤ b.length ∧ ∀ f ∈ l, f.1.length + f.2.length ≤ u := by
  have hsum := linesOf_sum b
  have hcount := linesOf_count b
  unfold headR at h
  cases hf : foldR hstep ([], 0) (linesOf b) with
  | go j =>
    rw [hf] at h; simp only [Option.some.injEq] at h; subst h
    have hu := hstep_used _ _ _ hf
    have hi := hstep_inv _ _ _ (by simp) hf
    simp only [List.length_nil, Nat.zero_add] at hu hi
    exact ⟨by omega, by omega, hi⟩
  | stop j =>
    rw [hf] at h; simp only [Option.some.injEq] at h; subst h
    obtain ⟨pre, x, post, j1, hx, h1, h2⟩ := foldR_stop_ex _ _ _ hf
    have hu := hstep_used _ _ _ h1
    have hi := hstep_inv _ _ _ (by simp) h1
    simp only [List.length_nil, Nat.zero_add] at hu hi
    rw [hx] at hsum hcount
    simp only [List.map_append, List.sum_append, List.map_cons, List.sum_cons, List.length_append, List.length_cons] at hsum hcount
    have key : (l, u) = (j1.1, j1.2 + 2) ∨ (l, u) = j1 := by
      unfold hstep at h2
      split at h2
      · simp only [Res.stop.injEq] at h2; exact .inl h2.symm
      · split at h2
        · split at h2 <;> simp at h2
        · split at h2
          · simp only [Res.stop.injEq] at h2; exact .inr h2.symm
          · split at h2
            · simp at h2
            · simp only [Res.stop.injEq] at h2; exact .inr h2.symm
    rcases key with key | key
    · injection key with k1 k2
      subst k1; subst k2
      exact ⟨by omega, by omega, fun f hf => by have := hi f hf; omega⟩
    · subst key
      exact ⟨by simp only at hu; omega, by simp only at hu; omega, hi⟩
  | die p => rw [hf] at h; simp at h

end Go.Ab.Tryd
