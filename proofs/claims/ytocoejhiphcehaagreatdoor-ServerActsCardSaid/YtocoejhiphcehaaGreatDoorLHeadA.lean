/- Walks: bytes in texts. -/
import Derived.Test.YtocoejhiphcehaaGreatDoorAbTryz
import Derived.Test.YtocoejhiphcehaaGreatDoorFrE
import Derived.Test.YtocoejhiphcehaaGreatDoorSPath
section
set_option linter.unusedSimpArgs false
set_option linter.unusedVariables false
set_option maxHeartbeats 2000000
set_option maxRecDepth 4000
namespace Go.Ab.Tryz
open Go Go.Ab Go.Proofs
attribute [local irreducible] W Wl Wop TrA WSeq WLoopS FPost DPost RPost WRound DK onEnd
variable {n0 : Nat} {w0 : World} {gl : Nat → List AV} {H : List AO}

instance indexByteString_t (s : List UInt8) (c : UInt8) : Ctr (env n0 w0 gl) 94 [.str s, .int .u8 c.toNat] H True (.int .i64 (Lib.indexByte s c)) H := ⟨fun _ g w cs hr hv => by
  obtain ⟨v, u, rfl, h1, h2⟩ := rels2 hv
  have h1 := h1.str_inv
  have h2 := h2.int_inv
  subst h1; subst h2
  refine .inl ⟨.int .i64 (Lib.indexByte s c), w, ?_, _, H, g, ⟨rfl, rfl⟩, GLe.refl g, hr, .ret (.int _ _)⟩
  have hf : (env n0 w0 gl).P.funcs[94]? = some Tryz.f94 := Tryz.func94
  rw [run_callFunc_extern hf (by kernel_rfl) (by kernel_rfl) (by kernel_rfl) (e := Extern.BytealgIndexByte.indexByte) (by kernel_rfl), Lib.run_indexByteString]
  simp⟩

instance lite_indexByte_t (s : List UInt8) (c : UInt8) : Ctr (env n0 w0 gl) 76 [.str s, .int .u8 c.toNat] H True (.int .i64 (Lib.indexByte s c)) H := .of fun _ => by
  refine enter (md := fun _ => 0) Tryz.func76 (fun hfit hgl => ?_)
  repeat' (first | refine go ?_ | (refine br (fun hc => ?_) (fun hc => ?_) <;> try (exfalso; omega)) | fail)
  exact .now ⟨rfl, rfl⟩

instance indexByte_t (s : List UInt8) (c : UInt8) : Ctr (env n0 w0 gl) 61 [.str s, .int .u8 c.toNat] H True (.int .i64 (Lib.indexByte s c)) H := .of fun _ => by
  refine enter (md := fun _ => 0) Tryz.func61 (fun hfit hgl => ?_)
  repeat' (first | refine go ?_ | (refine br (fun hc => ?_) (fun hc => ?_) <;> try (exfalso; omega)) | fail)
  exact .now ⟨rfl, rfl⟩

instance lite_index_t (s : List UInt8) (c : UInt8) : Ctr (env n0 w0 gl) 75 [.str s, .str [c]] H (s.length ≤ 9223372036854775807) (.int .i64 (Lib.indexByte s c)) H := .of fun hs => by
  refine enter (md := fun _ => 0) Tryz.func75 (fun hfit hgl => ?_)
  repeat' (first | refine go ?_ | (refine br (fun hc => ?_) (fun hc => ?_) <;> try (exfalso; omega)) | fail)
  all_goals first
    | exact .now ⟨rfl, rfl⟩
    | (refine .now ⟨?_, rfl⟩; subst hc; simp [Lib.indexByte])

/-- What a cut hands back. -/
def cutV (c : UInt8) (s : List UInt8) : AV := match cutAt c s with
  | some (x, y) => .tup [.str x, .str y, .bool true]
  | none => .tup [.str s, .str [], .bool false]

instance lite_cut_t (s : List UInt8) (c : UInt8) : Ctr (env n0 w0 gl) 60 [.str s, .str [c]] H (s.length ≤ 9223372036854775807) (cutV c s) H := .of fun hs => by
  unfold cutV
  refine enter (md := fun _ => 0) Tryz.func60 (fun hfit hgl => ?_)
  rcases cutAt_idx c s with ⟨hh, h2⟩ | ⟨k, hk, hh, h2⟩ <;> rw [h2]
  all_goals
    repeat' (first | refine go ?_ | (refine br (fun hc => ?_) (fun hc => ?_) <;> try (exfalso; omega)) | fail)
    exact .now ⟨rfl, rfl⟩

instance cut_t (s : List UInt8) (c : UInt8) : Ctr (env n0 w0 gl) 45 [.str s, .str [c]] H (s.length ≤ 9223372036854775807) (cutV c s) H := .of fun hs => by
  unfold cutV
  have hc := lite_cut_t (n0 := n0) (w0 := w0) (gl := gl) (H := H) s c
  unfold cutV at hc
  refine enter (md := fun _ => 0) Tryz.func45 (fun hfit hgl => ?_)
  rcases hh : cutAt c s with _ | ⟨x, y⟩ <;> rw [hh] at hc
  all_goals
    repeat' (first | refine go ?_ | (refine br (fun hc => ?_) (fun hc => ?_) <;> try (exfalso; omega)) | fail)
    exact .now ⟨rfl, rfl⟩

end Go.Ab.Tryz

end

section
set_option linter.unusedSimpArgs false
set_option linter.unusedVariables false
set_option maxHeartbeats 2000000
set_option maxRecDepth 4000
namespace Go.Ab.Tryz
open Go Go.Ab Go.Proofs
attribute [local irreducible] W Wl Wop TrA WSeq WLoopS FPost DPost RPost WRound DK onEnd
variable {n0 : Nat} {w0 : World} {gl : Nat → List AV} {H : List AO}

/-- A byte that may stand in a name. -/
def nameB (c : UInt8) : Prop := 32 < c.toNat ∧ c.toNat < 127 ∧ c.toNat ≠ 58
/-- Whether a text is a field's name. -/
def NameOk (s : List UInt8) : Prop := (∀ i, i < s.length → nameB (s.getD i 0)) ∧ s.length ≠ 0 ∧ s.length ≤ 100

/-- A byte made small. -/
def lowB (c : UInt8) : UInt8 := if 65 ≤ c.toNat ∧ c.toNat ≤ 90 then c + 32 else c
/-- A text made small up to a place. -/
def lowTo (s : List UInt8) (i : Nat) : List UInt8 := (s.take i).map lowB ++ s.drop i
theorem lowTo_len (s : List UInt8) (i : Nat) : (lowTo s i).length = s.length := by simp [lowTo]; omega
theorem lowTo_get {s : List UInt8} {i : Nat} (h : i < s.length) : (bytesAV (lowTo s i)).getD i .top = .int .u8 (s.getD i 0).toNat := by
  simp [bytesAV, lowTo, byteAV, List.getD_eq_getElem?_getD, List.getElem?_append_right, h, Nat.min_eq_left (Nat.le_of_lt h)]
theorem lowTo_succ {s : List UInt8} {i : Nat} (h : i < s.length) : lowTo s (i + 1) = (lowTo s i).set i (lowB (s.getD i 0)) := by
  unfold lowTo
  rw [List.set_append_right _ _ (by simp; omega), List.take_add_one, List.map_append, List.append_assoc]
  congr 1
  have e : i - ((s.take i).map lowB).length = 0 := by simp; omega
  rw [e, List.drop_eq_getElem_cons h]
  simp only [List.set_cons_zero]
  simp [h]
theorem lowTo_same {s : List UInt8} {i : Nat} (h : i < s.length) (hc : ¬ (65 ≤ (s.getD i 0).toNat ∧ (s.getD i 0).toNat ≤ 90)) : lowTo s (i + 1) = lowTo s i := by
  rw [lowTo_succ h]
  have : lowB (s.getD i 0) = s.getD i 0 := by unfold lowB; rw [if_neg hc]
  rw [this]
  apply List.ext_getElem?
  intro k
  by_cases e : i = k
  · subst e
    rw [List.getElem?_set_self (by rw [lowTo_len]; exact h)]
    simp [lowTo, List.getElem?_append_right, h, Nat.min_eq_left (Nat.le_of_lt h)]
  · rw [List.getElem?_set_ne e]

theorem bytesAV_set {xs : List UInt8} {i : Nat} {c : UInt8} (h : i < xs.length) : bytesAV (xs.set i c) = (bytesAV xs).take i ++ .int .u8 c.toNat :: (bytesAV xs).drop (i + 1) := by
  unfold bytesAV
  rw [List.map_set, List.set_eq_take_append_cons_drop, if_pos (by simpa using h)]; rfl
theorem lowB_or (c : UInt8) (h1 : 65 ≤ c.toNat) (h2 : c.toNat ≤ 90) : bitsOf BinOp.or .u8 (c.toNat : Int) 32 = ((lowB c).toNat : Int) := by
  have key : ∀ n, n < 256 → 65 ≤ n → n ≤ 90 → bitsOf BinOp.or .u8 ((n : Nat) : Int) 32 = ((UInt8.ofNat n + 32).toNat : Int) := by decide +kernel
  have := key c.toNat (by have := c.toNat_lt; omega) h1 h2
  rw [this]
  unfold lowB
  rw [if_pos ⟨h1, h2⟩, UInt8.ofNat_toNat]

end Go.Ab.Tryz

end

section
set_option linter.unusedSimpArgs false
set_option linter.unusedVariables false
set_option maxHeartbeats 2000000
set_option maxRecDepth 4000
namespace Go.Ab.Tryz
open Go Go.Ab Go.Proofs
attribute [local irreducible] W Wl Wop TrA WSeq WLoopS FPost DPost RPost WRound DK onEnd
variable {n0 : Nat} {w0 : World} {gl : Nat → List AV} {H : List AO}

instance lower_t (s : List UInt8) : Ctr (env n0 w0 gl) 90 [.str s] H (s.length ≤ 9223372036854775807) (.str (s.map lowB)) H := .of fun hs => by
  refine enter (md := fun t => if t = 7 then 2 else 0) Tryz.func90 (fun hfit hgl => ?_)
  repeat' (first | refine go ?_ | (refine br (fun hc => ?_) (fun hc => ?_) <;> try (exfalso; omega)) | fail)
  refine loop (fun i : Nat => (.top :: .top :: .str [] :: .msl H.length 0 s.length :: .top :: .top :: .top :: .top :: .msl H.length 0 s.length :: .int .i64 s.length :: .int .i64 (i : Int) :: .top :: .top :: .top :: .top :: .top :: .top :: .top :: .top :: .top :: .top :: .top :: .top :: .top :: .top :: .top :: .top :: .top :: .top :: [])) (fun i => H ++ [.cells (bytesAV (lowTo s i))]) (fun i => i ≤ s.length) (fun i => s.length - i) 0 (Nat.zero_le _) ?_
  intro i hi
  have hln := lowTo_len s i
  have hlb : (bytesAV (lowTo s i)).length = s.length := by rw [bytesAV_len, hln]
  have hh := And.intro hln (And.intro (fun h : i < s.length => lowTo_get h) (And.intro (List.take_of_length_le (Nat.le_of_eq hlb)) hlb))
  repeat' (first | refine go ?_ | (refine br (fun hc => ?_) (fun hc => ?_) <;> try (exfalso; omega)) | fail)
  · refine againE (i + 1) (by omega) (by omega) ?_
    have e : ((s.getD i 0).toNat : Int) + 32 = ((lowB (s.getD i 0)).toNat : Int) := by
      unfold lowB
      rw [if_pos ⟨by omega, by omega⟩, UInt8.toNat_add]
      have : (32 : UInt8).toNat = 32 := rfl
      rw [this]; omega
    rw [lowTo_succ (by omega), bytesAV_set (by rw [lowTo_len]; omega), ← e]
  · refine againE (i + 1) (by omega) (by omega) ?_
    rw [lowTo_same (by omega) (by omega)]
  · refine againE (i + 1) (by omega) (by omega) ?_
    rw [lowTo_same (by omega) (by omega)]
  · refine .junkd ⟨?_, rfl⟩
    have : i = s.length := by omega
    rw [this]
    simp [lowTo]

/-- Fields, as cells. -/
def fldAV (l : List (List UInt8 × List UInt8)) : List AV := l.flatMap fun f => [.str f.1, .str f.2]
theorem fldAV_len (l : List (List UInt8 × List UInt8)) : (fldAV l).length = l.length * 2 := by
  induction l with
  | nil => rfl
  | cons f l ih => simp only [fldAV, List.flatMap_cons, List.length_append, List.length_cons, List.length_nil] at ih ⊢; rw [ih]; omega
@[simp] theorem belowL_fldAV (n : Nat) (l : List (List UInt8 × List UInt8)) : belowL n (fldAV l) = true := by
  induction l with
  | nil => rfl
  | cons f l ih => simpa [fldAV, belowL, AV.within] using ih
theorem fldAV_cons (f : List UInt8 × List UInt8) (l : List (List UInt8 × List UInt8)) : fldAV (f :: l) = .str f.1 :: .str f.2 :: fldAV l := by simp [fldAV]
theorem fldAV_drop : ∀ (i : Nat) (l : List (List UInt8 × List UInt8)), (fldAV l).drop (i * 2) = fldAV (l.drop i)
  | 0, l => rfl
  | i + 1, [] => by simp [fldAV]
  | i + 1, f :: l => by
    rw [fldAV_cons, show (i + 1) * 2 = i * 2 + 1 + 1 by omega]
    simpa using fldAV_drop i l
theorem fldAV_at {i : Nat} {l : List (List UInt8 × List UInt8)} (h : i < l.length) : ((fldAV l).drop (i * 2)).take 2 = [.str (l.getD i ([], [])).1, .str (l.getD i ([], [])).2] := by
  rw [fldAV_drop, List.drop_eq_getElem_cons h, fldAV_cons]
  simp [h]

/-- The bodies of the fields of a name. -/
def bodies (nm : List UInt8) (l : List (List UInt8 × List UInt8)) : List (List UInt8) := (l.filter fun f => f.1.map lowB = nm).map (·.2)
theorem bodies_append (nm : List UInt8) (a b : List (List UInt8 × List UInt8)) : bodies nm (a ++ b) = bodies nm a ++ bodies nm b := by simp [bodies]
theorem bodies_succ {nm : List UInt8} {l : List (List UInt8 × List UInt8)} {i : Nat} (h : i < l.length) : bodies nm l = bodies nm (l.take i) ++ ((if (l.getD i ([], [])).1.map lowB = nm then [(l.getD i ([], [])).2] else []) ++ bodies nm (l.drop (i + 1))) := by
  conv => lhs; rw [← List.take_append_drop i l, bodies_append, List.drop_eq_getElem_cons h, ← List.singleton_append, bodies_append]
  congr 2
  simp only [bodies, List.getD_eq_getElem?_getD, List.getElem?_eq_getElem h, Option.getD_some, List.filter_cons, List.filter_nil, decide_eq_true_eq]
  split <;> rfl
theorem bodies_take {nm : List UInt8} {l : List (List UInt8 × List UInt8)} {i : Nat} (h : i < l.length) : bodies nm (l.take (i + 1)) = bodies nm (l.take i) ++ (if (l.getD i ([], [])).1.map lowB = nm then [(l.getD i ([], [])).2] else []) := by
  rw [List.take_add_one, bodies_append, List.getElem?_eq_getElem h]
  congr 1
  simp only [bodies, List.getD_eq_getElem?_getD, List.getElem?_eq_getElem h, Option.getD_some, Option.toList_some, List.filter_cons, List.filter_nil, decide_eq_true_eq]
  split <;> rfl

end Go.Ab.Tryz

end
