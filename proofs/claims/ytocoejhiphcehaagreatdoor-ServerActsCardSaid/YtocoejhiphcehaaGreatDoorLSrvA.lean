/- Walks: a session: its small functions. -/
import Derived.Test.YtocoejhiphcehaaGreatDoorSSrvA
import Derived.Test.YtocoejhiphcehaaGreatDoorLTok
import Derived.Test.YtocoejhiphcehaaGreatDoorLClone
import Derived.Test.YtocoejhiphcehaaGreatDoorLMail
import Derived.Test.YtocoejhiphcehaaGreatDoorLHead4
import Derived.Test.YtocoejhiphcehaaGreatDoorSBnc
import Derived.Test.YtocoejhiphcehaaGreatDoorLRef07
import Derived.Test.YtocoejhiphcehaaGreatDoorLConvA
import Derived.Lib.ItoaLen
import Derived.Test.YtocoejhiphcehaaGreatDoorAb32
section
set_option linter.unusedSimpArgs false
set_option linter.unusedVariables false
set_option maxHeartbeats 4000000
set_option maxRecDepth 10000
namespace Go.Ab.Tryz
open Go Go.Ab Go.Proofs
attribute [local irreducible] W Wl Wop TrA WSeq WLoopS FPost DPost RPost WRound DK onEnd
attribute [local simp] belowL_bytesAV belowL_strsM
variable {n0 : Nat} {w0 : World} {gl : Nat → List AV} {H : List AO}

/-- What a cut hands back, with the room behind. -/
def cutT (s : List UInt8) (tok : Tok) : AV := match crlfAt s with
  | some (x, y) => .tup [.sl x.length (bytesAV x) .ro, .sl y.length (bytesAV y) tok, .bool true]
  | none => .tup [.sl s.length (bytesAV s) tok, .sl 0 [] .full, .bool false]
theorem cutT_e [hml : GLInt gl 0] (s : List UInt8) (tok : Tok) (hs : s.length < 4294967281) : AEnter (env n0 w0 gl) 48 [.sl s.length (bytesAV s) tok, .sl 2 [.int .u8 13, .int .u8 10] .ro] H (fun y H' => y = .ret (cutT s tok) ∧ H' = H) := by
  unfold cutT
  refine enter (md := fun _ => 0) Tryz.func48 (fun hfit hgl => ?_)
  rcases crlfAt_idx s with ⟨hh, h2⟩ | ⟨k, hk, hh, h2⟩ <;> rw [h2]
  · repeat' (first | refine go ?_ | (refine br (fun hc => ?_) (fun hc => ?_) <;> try (exfalso; omega)) | fail)
    exact .now ⟨rfl, rfl⟩
  · have hne : ¬ k = s.length := by omega
    repeat' (first | refine go ?_ | (refine br (fun hc => ?_) (fun hc => ?_) <;> try (exfalso; omega)) | fail)
    refine .now ⟨?_, rfl⟩
    have e : ((k : Int) + 2).toNat = k + 2 := by omega
    simp [bytesAV_take, bytesAV_drop, e, Nat.min_eq_left (show k ≤ s.length by omega), hne]

instance psmall_t (c : UInt8) : Ctr (env n0 w0 gl) 88 [.int .u8 c.toNat] H True (.int .u8 (lowB c).toNat) H := .of fun _ => by
  have hc := c.toNat_lt
  unfold lowB
  by_cases h : 65 ≤ c.toNat ∧ c.toNat ≤ 90
  · rw [if_pos h]
    have e : ((c + 32).toNat : Int) = (c.toNat : Int) + 32 := by rw [UInt8.toNat_add]; have : (32 : UInt8).toNat = 32 := rfl; rw [this]; omega
    rw [e]
    refine enter (md := fun _ => 0) Tryz.func88 (fun hfit hgl => ?_)
    repeat' (first | refine go ?_ | (refine br (fun hc => ?_) (fun hc => ?_) <;> try (exfalso; omega)) | fail)
    exact .now ⟨rfl, rfl⟩
  · rw [if_neg h]
    refine enter (md := fun _ => 0) Tryz.func88 (fun hfit hgl => ?_)
    repeat' (first | refine go ?_ | (refine br (fun hc => ?_) (fun hc => ?_) <;> try (exfalso; omega)) | fail)
    all_goals exact .now ⟨rfl, rfl⟩

/-- An address made small behind its last @, up to a place. -/
def foldTo (s : List UInt8) (a j : Nat) : List UInt8 := s.take a ++ lowTo (s.drop a) j
theorem foldTo_len {s : List UInt8} {a j : Nat} (h : a ≤ s.length) : (foldTo s a j).length = s.length := by simp [foldTo, lowTo_len, List.length_take, List.length_drop]; omega
theorem foldTo_get {s : List UInt8} {a j : Nat} (h : a + j < s.length) : (bytesAV (foldTo s a j)).getD (a + j) .top = .int .u8 (s.getD (a + j) 0).toNat := by
  have hl : (bytesAV (s.take a)).length = a := by rw [bytesAV_len, List.length_take]; omega
  unfold foldTo
  rw [bytesAV_append, List.getD_eq_getElem?_getD, List.getElem?_append_right (by omega), hl, show a + j - a = j by omega, ← List.getD_eq_getElem?_getD, lowTo_get (by rw [List.length_drop]; omega)]
  simp [List.getD_eq_getElem?_getD]
theorem foldTo_succ {s : List UInt8} {a j : Nat} (h : a + j < s.length) : foldTo s a (j + 1) = (foldTo s a j).set (a + j) (lowB (s.getD (a + j) 0)) := by
  unfold foldTo
  have hl : (s.take a).length = a := by rw [List.length_take]; omega
  rw [List.set_append_right _ _ (by omega), hl, show a + j - a = j by omega, lowTo_succ (by rw [List.length_drop]; omega)]
  simp [List.getD_eq_getElem?_getD]
theorem foldTo_zero (s : List UInt8) (a : Nat) : foldTo s a 0 = s := by simp [foldTo, lowTo]
theorem foldTo_all {s : List UInt8} {a : Nat} (h : a ≤ s.length) : foldTo s a (s.length - a) = s.take a ++ (s.drop a).map lowB := by
  unfold foldTo lowTo
  have e : (s.drop a).length = s.length - a := List.length_drop
  rw [← e, List.take_length, List.drop_length, List.append_nil]
instance pfold_t (s : List UInt8) : Ctr (env n0 w0 gl) 66 [.str s] H (s.length ≤ 1000000) (.str (foldA s)) H := .of fun hs => by
  unfold foldA
  rcases lastAt_cases 64 s s.length with h | ⟨a, ha, h⟩
  · have hh := h
    rw [h, if_pos (by decide)]
    refine enter (md := fun t => if t = 7 then 2 else 0) Tryz.func66 (fun hfit hgl => ?_)
    repeat' (first | refine go ?_ | (refine br (fun hc => ?_) (fun hc => ?_) <;> try (exfalso; omega)) | fail)
    exact .junkd ⟨rfl, rfl⟩
  · have hh := h
    rw [h, if_neg (by omega)]
    refine enter (md := fun t => if t = 7 then 2 else 0) Tryz.func66 (fun hfit hgl => ?_)
    repeat' (first | refine go ?_ | (refine br (fun hc => ?_) (fun hc => ?_) <;> try (exfalso; omega)) | fail)
    refine loop (fun j : Nat => (.str s :: .top :: .str [] :: .msl H.length 0 s.length :: .int .i64 (a : Int) :: .int .i64 ((a + j : Nat) : Int) :: .top :: .top :: .top :: .top :: .top :: .top :: .top :: .top :: .top :: .top :: .top :: .top :: .top :: .top :: .top :: .top :: .top :: .top :: .top :: .top :: .top :: .top :: .top :: .top :: [])) (fun j => H ++ [.cells (bytesAV (foldTo s a j))]) (fun j => a + j ≤ s.length) (fun j => s.length - (a + j)) 0 (by omega) ?_ (by rw [foldTo_zero]; exact Shift.auto)
    intro j hj
    have hln := foldTo_len (s := s) (a := a) (j := j) (by omega)
    have hlb : (bytesAV (foldTo s a j)).length = s.length := by rw [bytesAV_len, hln]
    have hh := And.intro hln (And.intro (fun h : a + j < s.length => foldTo_get h) (And.intro (List.take_of_length_le (Nat.le_of_eq hlb)) hlb))
    by_cases hlt : a + j < s.length
    · repeat' (first | refine go ?_ | (refine br (fun hc => ?_) (fun hc => ?_) <;> try (exfalso; omega)) | fail)
      refine againE (j + 1) (by omega) (by omega) ?_
      rw [foldTo_succ hlt, bytesAV_set (by rw [foldTo_len (by omega)]; omega), Nat.add_assoc]
    · repeat' (first | refine go ?_ | (refine br (fun hc => ?_) (fun hc => ?_) <;> try (exfalso; omega)) | fail)
      refine .junkd ⟨?_, rfl⟩
      have e : j = s.length - a := by omega
      rw [e, foldTo_all (by omega)]
      simp
theorem lowB_at : lowB 64 = 64 := by decide
theorem foldA_eq {s : List UInt8} {a : Nat} (ha : a < s.length) (h : lastAt 64 s s.length = (a : Int)) : s.take (a + 1) ++ (s.drop (a + 1)).map lowB = s.take a ++ (s.drop a).map lowB := by
  have hg := lastAt_get h
  rw [List.getD_eq_getElem?_getD, List.getElem?_eq_getElem ha] at hg
  have hg : s[a] = 64 := hg
  rw [List.take_succ_eq_append_getElem ha, List.drop_eq_getElem_cons ha, hg]
  simp [lowB_at]

end Go.Ab.Tryz

end

section
set_option linter.unusedSimpArgs false
set_option linter.unusedVariables false
set_option maxHeartbeats 4000000
set_option maxRecDepth 10000
namespace Go.Ab.Tryz
open Go Go.Ab Go.Proofs
attribute [local irreducible] W Wl Wop TrA WSeq WLoopS FPost DPost RPost WRound DK onEnd
attribute [local simp] belowL_bytesAV belowL_strsM
variable {n0 : Nat} {w0 : World} {gl : Nat → List AV} {H : List AO}

instance rfold_t (s : List UInt8) : Ctr (env n0 w0 gl) 74 [.str s] H (s.length ≤ 1000000) (.str (foldA s)) H := .of fun hs => by
  unfold foldA
  rcases lastAt_cases 64 s s.length with h | ⟨a, ha, h⟩
  · have hh := h
    rw [h, if_pos (by decide)]
    refine enter (md := fun _ => 0) Tryz.func74 (fun hfit hgl => ?_)
    repeat' (first | refine go ?_ | (refine br (fun hc => ?_) (fun hc => ?_) <;> try (exfalso; omega)) | fail)
    exact .now ⟨rfl, rfl⟩
  · have hh := h
    rw [h, if_neg (by omega)]
    have e := foldA_eq ha h
    have e2 : ((a : Int) + 1).toNat = a + 1 := by omega
    have e3 : (List.take (a + 1) s).length = a + 1 := by rw [List.length_take]; omega
    have hh := And.intro h (And.intro e2 e3)
    refine enter (md := fun _ => 0) Tryz.func74 (fun hfit hgl => ?_)
    repeat' (first | refine go ?_ | (refine br (fun hc => ?_) (fun hc => ?_) <;> try (exfalso; omega)) | fail)
    exact .now ⟨by simp only [Int.toNat_natCast]; rw [← e], rfl⟩

theorem line_e (l : List (List UInt8)) (tok : Tok) (hl : l.length ≤ 100) (hb : l.flatten.length ≤ 1000000) : AEnter (env n0 w0 gl) 24 [.sl l.length (l.map .str) tok] H (fun y H' => y = .ret (.sl (l.flatten.length + 2) (bytesAV (l.flatten ++ [13, 10])) (.at H.length (l.flatten.length + 2))) ∧ H' = H ++ [.tail 1 (l.flatten.length + 2)]) := by
  refine enter (md := fun _ => 0) Tryz.func24 (fun hfit hgl => ?_)
  refine gos ?_
  refine wseq_normal ?_
  refine gos ?_
  refine wseq_shift (Shift.tail 1 3 0 rfl) ?_
  simp only [List.set_cons_succ, List.set_cons_zero]
  repeat' (first | refine go ?_ | (refine br (fun hc => ?_) (fun hc => ?_) <;> try (exfalso; omega)) | fail)
  refine loop (fun i : Nat => (.sl l.length (l.map .str) tok :: .top :: .top :: .sl (l.take i).flatten.length (bytesAV (l.take i).flatten) (.at H.length (l.take i).flatten.length) :: .top :: .top :: .sl l.length (l.map .str) tok :: .int .i64 l.length :: .int .i64 (i : Int) :: .top :: .top :: .top :: .top :: .top :: .top :: .top :: .top :: .top :: [])) (fun i => H ++ [.tail 1 (l.take i).flatten.length]) (fun i => i ≤ l.length) (fun i => l.length - i) 0 (Nat.zero_le _) ?_
  intro i hi
  have htl : (l.take i).flatten.length ≤ l.flatten.length := by
    conv => rhs; rw [← List.take_append_drop i l]
    rw [List.flatten_append, List.length_append]; omega
  by_cases hlt : i < l.length
  · have hst : (l.take (i + 1)).flatten = (l.take i).flatten ++ l.getD i [] := by
      rw [List.take_succ_eq_append_getElem hlt, List.flatten_append, List.flatten_cons, List.flatten_nil, List.append_nil, List.getD_eq_getElem?_getD, List.getElem?_eq_getElem hlt]; rfl
    have htl2 : (l.take (i + 1)).flatten.length ≤ l.flatten.length := by
      conv => rhs; rw [← List.take_append_drop (i + 1) l]
      rw [List.flatten_append, List.length_append]; omega
    rw [hst, List.length_append] at htl2
    have e1 : (l.take i).flatten.length + (l.getD i []).length = (l.take (i + 1)).flatten.length := by rw [hst, List.length_append]
    have e2 : bytesAV (l.take i).flatten ++ bytesAV (l.getD i []) = bytesAV (l.take (i + 1)).flatten := by rw [hst, bytesAV_append]
    repeat' (first | refine go ?_ | (refine br (fun hc => ?_) (fun hc => ?_) <;> try (exfalso; omega)) | fail)
    rw [e1, e2]
    exact again (i + 1) (by omega)
  · obtain rfl : i = l.length := by omega
    rw [List.take_length]
    repeat' (first | refine go ?_ | (refine br (fun hc => ?_) (fun hc => ?_) <;> try (exfalso; omega)) | fail)
    exact .now ⟨by rw [bytesAV_append], rfl⟩

end Go.Ab.Tryz

end

section
set_option linter.unusedSimpArgs false
set_option linter.unusedVariables false
set_option maxHeartbeats 4000000
set_option maxRecDepth 10000
namespace Go.Ab
open Go
theorem fit_set {n : Nat} {H : List AO} {a : Nat} {o : AO} (h : Fit n H) (ho : o.within n = true) : Fit n (H.set a o) := fun x hx => by
  rcases List.mem_or_eq_of_mem_set hx with e | e
  · exact h x e
  · rw [e]; exact ho
theorem Out.dropS {N : Nat} {R : AE → List AO → Prop} {x : AE} {A l : List AO} (hN : N ≤ A.length) (hf : Fit A.length A) (hx : x.within A.length = true) (h : R x A) : Out N R x (A ++ l) := Out.drop l hN hf hx h
end Go.Ab
namespace Go.Ab.Tryz
open Go Go.Ab Go.Proofs
attribute [local irreducible] W Wl Wop TrA WSeq WLoopS FPost DPost RPost WRound DK onEnd
attribute [local simp] belowL_bytesAV belowL_strsM
variable {n0 : Nat} {w0 : World} {gl : Nat → List AV} {H : List AO}

/-- A session as it lies in memory: at a its cells, at jk and jt the room behind what is kept and behind the recipients. -/
def sesAV (s : Ses) (jk ek jt et : Nat) : List AV := [.str s.host, .int .i64 s.rc, .int .i64 s.sz, .sl s.kept.length (bytesAV s.kept) (.at jk ek), .int .i64 s.state, .str s.fro, .sl s.to.length (s.to.map .str) (.at jt et), .sl s.body.length (bytesAV s.body) .ro, .bool s.told, .bool s.waits, .bool s.shut]
structure SesAt (H : List AO) (a jk jt : Nat) (s : Ses) (ek et : Nat) : Prop where
  cells : H[a]? = some (.cells (sesAV s jk ek jt et))
  hk : H[jk]? = some (.tail 1 ek)
  ht : H[jt]? = some (.tail 1 et)
  kt : jk ≠ jt
theorem SesAt.ne {a jk jt : Nat} {s : Ses} {ek et : Nat} (h : SesAt H a jk jt s ek et) : a ≠ jk ∧ a ≠ jt ∧ a < H.length ∧ jk < H.length ∧ jt < H.length := by
  refine ⟨?_, ?_, (List.getElem?_eq_some_iff.1 h.cells).1, (List.getElem?_eq_some_iff.1 h.hk).1, (List.getElem?_eq_some_iff.1 h.ht).1⟩
  · rintro rfl; have := h.cells; rw [h.hk] at this; simp at this
  · rintro rfl; have := h.cells; rw [h.ht] at this; simp at this
def sput (H : List AO) (a jk jt : Nat) (s : Ses) (ek et : Nat) : List AO := ((H.set jk (.tail 1 ek)).set jt (.tail 1 et)).set a (.cells (sesAV s jk ek jt et))
theorem sput_len (H : List AO) (a jk jt : Nat) (s : Ses) (ek et : Nat) : (sput H a jk jt s ek et).length = H.length := by simp [sput]
theorem sput_at {a jk jt : Nat} {s : Ses} {ek et : Nat} (h : SesAt H a jk jt s ek et) (s' : Ses) (ek' et' : Nat) : SesAt (sput H a jk jt s' ek' et') a jk jt s' ek' et' := by
  obtain ⟨h1, h2, h3, h4, h5⟩ := h.ne
  have hkt := h.kt
  unfold sput
  refine ⟨?_, ?_, ?_, hkt⟩
  · rw [List.getElem?_set_self (by simp; omega)]
  · rw [List.getElem?_set_ne h1, List.getElem?_set_ne (Ne.symm hkt), List.getElem?_set_self h4]
  · rw [List.getElem?_set_ne h2, List.getElem?_set_self (by simp; omega)]
theorem set_same {A : List AO} {i : Nat} {o : AO} (h : A[i]? = some o) : A.set i o = A := by
  apply List.ext_getElem?
  intro q
  by_cases hq : i = q
  · subst hq; rw [List.getElem?_set_self (List.getElem?_eq_some_iff.1 h).1, h]
  · rw [List.getElem?_set_ne hq]
theorem sput_put {a jk jt : Nat} {s : Ses} {ek et : Nat} (h : SesAt H a jk jt s ek et) (s1 s2 : Ses) (ek1 et1 ek2 et2 : Nat) : sput (sput H a jk jt s1 ek1 et1) a jk jt s2 ek2 et2 = sput H a jk jt s2 ek2 et2 := by
  obtain ⟨h1, h2, h3, h4, h5⟩ := h.ne
  have hkt := h.kt
  apply List.ext_getElem?
  intro q
  unfold sput
  by_cases qa : a = q
  · subst qa; simp [List.getElem?_set_self, h3]
  · by_cases qt : jt = q
    · subst qt; simp [List.getElem?_set_ne, h2, List.getElem?_set_self, h5]
    · by_cases qk : jk = q
      · subst qk; simp [List.getElem?_set_ne, h1, qt, List.getElem?_set_self, h4]
      · simp only [List.getElem?_set_ne qa, List.getElem?_set_ne qt, List.getElem?_set_ne qk]
theorem sput_same {a jk jt : Nat} {s : Ses} {ek et : Nat} (h : SesAt H a jk jt s ek et) : sput H a jk jt s ek et = H := by
  unfold sput
  rw [set_same h.hk, set_same h.ht, set_same h.cells]
theorem sput_cells {a jk jt : Nat} {s : Ses} {ek et : Nat} (h : SesAt H a jk jt s ek et) (s' : Ses) : H.set a (.cells (sesAV s' jk ek jt et)) = sput H a jk jt s' ek et := by
  unfold sput
  rw [set_same h.hk, set_same h.ht]
theorem sput_app {a jk jt : Nat} {s : Ses} {ek et : Nat} (h : SesAt H a jk jt s ek et) (l : List AO) (s' : Ses) (ek' et' : Nat) : sput (H ++ l) a jk jt s' ek' et' = sput H a jk jt s' ek' et' ++ l := by
  obtain ⟨h1, h2, h3, h4, h5⟩ := h.ne
  unfold sput
  rw [setL h4, setL (by simp; omega), setL (by simp; omega)]
theorem SesAt.app {a jk jt : Nat} {s : Ses} {ek et : Nat} (h : SesAt H a jk jt s ek et) (l : List AO) : SesAt (H ++ l) a jk jt s ek et := by
  obtain ⟨h1, h2, h3, h4, h5⟩ := h.ne
  exact ⟨by rw [getL h3]; exact h.cells, by rw [getL h4]; exact h.hk, by rw [getL h5]; exact h.ht, h.kt⟩
theorem sput_get {a jk jt : Nat} (s' : Ses) (ek' et' : Nat) {i : Nat} (h1 : i ≠ a) (h2 : i ≠ jk) (h3 : i ≠ jt) : (sput H a jk jt s' ek' et')[i]? = H[i]? := by
  unfold sput
  rw [List.getElem?_set_ne (Ne.symm h1), List.getElem?_set_ne (Ne.symm h3), List.getElem?_set_ne (Ne.symm h2)]
theorem ses_within {n jk ek jt et : Nat} (s : Ses) (h1 : jk < n) (h2 : jt < n) : (AO.cells (sesAV s jk ek jt et)).within n = true := by
  simp [AO.within, sesAV, belowL, AV.within, h1, h2]
theorem sput_fit {a jk jt : Nat} {s : Ses} {ek et : Nat} (h : SesAt H a jk jt s ek et) (hf : Fit H.length H) (s' : Ses) (ek' et' : Nat) : Fit (sput H a jk jt s' ek' et').length (sput H a jk jt s' ek' et') := by
  obtain ⟨h1, h2, h3, h4, h5⟩ := h.ne
  rw [sput_len]
  exact fit_set (fit_set (fit_set hf rfl) rfl) (ses_within s' h4 h5)

theorem closed_e {a jk jt : Nat} {s : Ses} {ek et : Nat} (h : SesAt H a jk jt s ek et) (hr : s.rc ≠ 0) : AEnter (env n0 w0 gl) 19 [.ref a 0] H (fun y H' => y = .ret (.bool s.shut) ∧ H' = H) := by
  have hA : H[a]? = some (.cells [.str s.host, .int .i64 s.rc, .int .i64 s.sz, .sl s.kept.length (bytesAV s.kept) (.at jk ek), .int .i64 s.state, .str s.fro, .sl s.to.length (s.to.map .str) (.at jt et), .sl s.body.length (bytesAV s.body) .ro, .bool s.told, .bool s.waits, .bool s.shut]) := h.cells
  have hh := And.intro hA hr
  refine enter (md := fun _ => 0) Tryz.func19 (fun hfit hgl => ?_)
  repeat' (first | refine go ?_ | (refine br (fun hc => ?_) (fun hc => ?_) <;> try (exfalso; omega)) | fail)
  exact .now ⟨rfl, rfl⟩
theorem clear_e {a jk jt : Nat} {s : Ses} {ek et : Nat} (h : SesAt H a jk jt s ek et) : AEnter (env n0 w0 gl) 29 [.ref a 0] H (fun y H' => y = .ret (.tup []) ∧ H' = sput H a jk jt s.clear ek (et + 1)) := by
  obtain ⟨h1, h2, h3, h4, h5⟩ := h.ne
  have hA : H[a]? = some (.cells [.str s.host, .int .i64 s.rc, .int .i64 s.sz, .sl s.kept.length (bytesAV s.kept) (.at jk ek), .int .i64 s.state, .str s.fro, .sl s.to.length (s.to.map .str) (.at jt et), .sl s.body.length (bytesAV s.body) .ro, .bool s.told, .bool s.waits, .bool s.shut]) := h.cells
  have raw : AEnter (env n0 w0 gl) 29 [.ref a 0] H (fun y H' => y = .ret (.tup []) ∧ H' = H.set a (.cells [.str s.host, .int .i64 s.rc, .int .i64 s.sz, .sl s.kept.length (bytesAV s.kept) (.at jk ek), .int .i64 1, .str [], .sl 0 [] .full, .sl 0 [] .full, .bool s.told, .bool false, .bool s.shut])) := by
    have hF := atF hA
    have hh := And.intro hA hF
    refine enter (md := fun _ => 0) Tryz.func29 (fun hfit hgl => ?_)
    repeat' (first | refine go ?_ | (refine br (fun hc => ?_) (fun hc => ?_) <;> try (exfalso; omega)) | fail)
    exact .now ⟨rfl, rfl⟩
  refine raw.hs ?_
  rintro x H1 ⟨rfl, rfl⟩
  refine ⟨_, ?_, rfl, rfl⟩
  have step : HS (env n0 w0 gl) (H.set a (.cells [.str s.host, .int .i64 s.rc, .int .i64 s.sz, .sl s.kept.length (bytesAV s.kept) (.at jk ek), .int .i64 1, .str [], .sl 0 [] .full, .sl 0 [] .full, .bool s.told, .bool false, .bool s.shut])) ((H.set a (.cells [.str s.host, .int .i64 s.rc, .int .i64 s.sz, .sl s.kept.length (bytesAV s.kept) (.at jk ek), .int .i64 1, .str [], .sl 0 [] .full, .sl 0 [] .full, .bool s.told, .bool false, .bool s.shut])).set a (.cells [.str s.host, .int .i64 s.rc, .int .i64 s.sz, .sl s.kept.length (bytesAV s.kept) (.at jk ek), .int .i64 1, .str [], .sl 0 [] .full, .sl 0 [] .ro, .bool s.told, .bool false, .bool s.shut])) := HS.cells a (List.getElem?_set_self h3) rfl (fun g k c hc => by
    match k, hc with
    | 0, hc => exact hc
    | 1, hc => exact hc
    | 2, hc => exact hc
    | 3, hc => exact hc
    | 4, hc => exact hc
    | 5, hc => exact hc
    | 6, hc => exact hc
    | 7, hc => exact sl_ro g c hc
    | 8, hc => exact hc
    | 9, hc => exact hc
    | 10, hc => exact hc
    | k + 11, hc => exact hc)
  refine step.trans ?_
  rw [List.set_set]
  refine (HS.retail a 6 jt (sz := 1) (e := et) (List.getElem?_set_self h3) rfl (by simp) (by rw [List.getElem?_set_ne h2]; exact h.ht) rfl).trans (HS.eq ?_)
  simp only [List.set_cons_succ, List.set_cons_zero]
  rw [← sput_cells (sput_at h s ek (et + 1)) s.clear |>.trans (sput_put h _ _ _ _ _ _)]
  unfold sput
  rw [set_same h.hk, List.set_comm _ _ h2, List.set_set, List.set_set]
  rfl

end Go.Ab.Tryz

end

section
set_option linter.unusedSimpArgs false
set_option linter.unusedVariables false
set_option maxHeartbeats 8000000
set_option maxRecDepth 10000
namespace Go.Ab.Tryz
open Go Go.Ab Go.Proofs
attribute [local irreducible] W Wl Wop TrA WSeq WLoopS FPost DPost RPost WRound DK onEnd
attribute [local simp] belowL_bytesAV belowL_strsM
variable {n0 : Nat} {w0 : World} {gl : Nat → List AV} {H : List AO}

instance line1_t (x : List UInt8) (tok : Tok) : Ctr (env n0 w0 gl) 24 [.sl 1 [.str x] tok] H (x.length ≤ 1000000) (.sl (x.length + 2) (bytesAV (x ++ [13, 10])) (.at H.length (x.length + 2))) (H ++ [.tail 1 (x.length + 2)]) := .of fun hx => by
  have := line_e (n0 := n0) (w0 := w0) (gl := gl) (H := H) [x] tok (by simp) (by simpa using hx)
  simpa only [List.map_cons, List.map_nil, List.length_cons, List.length_nil, List.flatten_cons, List.flatten_nil, List.append_nil, Nat.zero_add] using this
instance line2_t (x y : List UInt8) (tok : Tok) : Ctr (env n0 w0 gl) 24 [.sl 2 [.str x, .str y] tok] H (x.length + y.length ≤ 1000000) (.sl ((x ++ y).length + 2) (bytesAV ((x ++ y) ++ [13, 10])) (.at H.length ((x ++ y).length + 2))) (H ++ [.tail 1 ((x ++ y).length + 2)]) := .of fun hx => by
  have := line_e (n0 := n0) (w0 := w0) (gl := gl) (H := H) [x, y] tok (by simp) (by simpa using hx)
  simpa only [List.map_cons, List.map_nil, List.length_cons, List.length_nil, List.flatten_cons, List.flatten_nil, List.append_nil, Nat.zero_add, Nat.reduceAdd] using this
instance line3_t (x y z : List UInt8) (tok : Tok) : Ctr (env n0 w0 gl) 24 [.sl 3 [.str x, .str y, .str z] tok] H (x.length + (y.length + z.length) ≤ 1000000) (.sl ((x ++ (y ++ z)).length + 2) (bytesAV ((x ++ (y ++ z)) ++ [13, 10])) (.at H.length ((x ++ (y ++ z)).length + 2))) (H ++ [.tail 1 ((x ++ (y ++ z)).length + 2)]) := .of fun hx => by
  have := line_e (n0 := n0) (w0 := w0) (gl := gl) (H := H) [x, y, z] tok (by simp) (by simpa using hx)
  simpa only [List.map_cons, List.map_nil, List.length_cons, List.length_nil, List.flatten_cons, List.flatten_nil, List.append_nil, Nat.zero_add, Nat.reduceAdd] using this
instance line5_t (x y z u v : List UInt8) (tok : Tok) : Ctr (env n0 w0 gl) 24 [.sl 5 [.str x, .str y, .str z, .str u, .str v] tok] H (x.length + (y.length + (z.length + (u.length + v.length))) ≤ 1000000) (.sl ((x ++ (y ++ (z ++ (u ++ v)))).length + 2) (bytesAV ((x ++ (y ++ (z ++ (u ++ v)))) ++ [13, 10])) (.at H.length ((x ++ (y ++ (z ++ (u ++ v)))).length + 2))) (H ++ [.tail 1 ((x ++ (y ++ (z ++ (u ++ v)))).length + 2)]) := .of fun hx => by
  have := line_e (n0 := n0) (w0 := w0) (gl := gl) (H := H) [x, y, z, u, v] tok (by simp) (by simpa using hx)
  simpa only [List.map_cons, List.map_nil, List.length_cons, List.length_nil, List.flatten_cons, List.flatten_nil, List.append_nil, Nat.zero_add, Nat.reduceAdd] using this

theorem out_ses {a jk jt : Nat} {s : Ses} {ek et : Nat} (h : SesAt H a jk jt s ek et) (hf : Fit H.length H) {o : List UInt8} {n : Nat} {xs : List AV} {tok : Tok} {l A : List AO} (s' : Ses) (ek' et' : Nat) (hA : A = sput H a jk jt s' ek' et') (hn : n = o.length) (hx : xs = bytesAV o) :
    Out H.length (fun y H' => y = .ret (.sl o.length (bytesAV o) .ro) ∧ H' = sput H a jk jt s' ek' et') (.ret (.sl n xs tok)) (A ++ l) := by
  subst hA; subst hn; subst hx
  refine Out.weak (b := .sl o.length (bytesAV o) .ro) (fun g c h => sl_ro g c h) ?_
  exact Out.dropS (by rw [sput_len]; exact Nat.le_refl _) (sput_fit h hf s' ek' et') (by simp [AE.within, AV.within]) ⟨rfl, rfl⟩
def sesL (s : Ses) (jk ek jt et : Nat) : List AV := sesAV s jk ek jt et

theorem helo_e {a jk jt : Nat} {s : Ses} {ek et : Nat} (h : SesAt H a jk jt s ek et) (hh0 : s.host.length ≤ 1000) (v n : Int) (t : List UInt8) : AEnter (env n0 w0 gl) 50 [.ref a 0, .agg [.int .i64 v, .str t, .int .i64 n]] H (fun y H' => y = .ret (.sl ([50, 53, 48, 32] ++ (s.host ++ [13, 10])).length (bytesAV ([50, 53, 48, 32] ++ (s.host ++ [13, 10]))) .ro) ∧ H' = sput H a jk jt s.clear ek (et + 1)) := by
  obtain ⟨h1, h2, h3, h4, h5⟩ := h.ne
  have hcl : ∀ l, Ctr (env n0 w0 gl) 29 [.ref a 0] (H ++ l) True (.tup []) (sput H a jk jt s.clear ek (et + 1) ++ l) := fun l => .of fun _ => by
    have := clear_e (n0 := n0) (w0 := w0) (gl := gl) (h.app l)
    rwa [sput_app h] at this
  have hA : (sput H a jk jt s.clear ek (et + 1))[a]? = some (.cells [.str s.host, .int .i64 s.rc, .int .i64 s.sz, .sl s.kept.length (bytesAV s.kept) (.at jk ek), .int .i64 1, .str [], .sl 0 [] (.at jt (et + 1)), .sl 0 [] .ro, .bool s.told, .bool false, .bool s.shut]) := (sput_at h s.clear ek (et + 1)).cells
  have hL := sput_len H a jk jt s.clear ek (et + 1)
  have hh := And.intro hA (And.intro (atF hA) hL)
  refine enter (md := fun _ => 0) Tryz.func50 (fun hfit hgl => ?_)
  repeat' (first | refine go ?_ | (refine br (fun hc => ?_) (fun hc => ?_) <;> try (exfalso; omega)) | fail)
  refine out_ses h hfit s.clear ek (et + 1) rfl ?_ ?_ <;> first | rfl | (simp <;> omega)

theorem ehlo_e [ht : Tab10 n0 w0] {a jk jt : Nat} {s : Ses} {ek et : Nat} (h : SesAt H a jk jt s ek et) (v n : Int) (t : List UInt8) (hh0 : s.host.length ≤ 1000) (hz : 0 ≤ s.sz ∧ s.sz ≤ 1000000) : AEnter (env n0 w0 gl) 51 [.ref a 0, .agg [.int .i64 v, .str t, .int .i64 n]] H (fun y H' => y = .ret (.sl ([50, 53, 48, 45] ++ (s.host ++ ([13, 10] ++ ([50, 53, 48, 32, 83, 73, 90, 69, 32] ++ (Lib.itoa s.sz ++ [13, 10]))))).length (bytesAV ([50, 53, 48, 45] ++ (s.host ++ ([13, 10] ++ ([50, 53, 48, 32, 83, 73, 90, 69, 32] ++ (Lib.itoa s.sz ++ [13, 10])))))) .ro) ∧ H' = sput H a jk jt s.clear ek (et + 1)) := by
  obtain ⟨h1, h2, h3, h4, h5⟩ := h.ne
  have hcl : ∀ l, Ctr (env n0 w0 gl) 29 [.ref a 0] (H ++ l) True (.tup []) (sput H a jk jt s.clear ek (et + 1) ++ l) := fun l => .of fun _ => by
    have := clear_e (n0 := n0) (w0 := w0) (gl := gl) (h.app l)
    rwa [sput_app h] at this
  have hB : (sput H a jk jt s.clear ek (et + 1))[a]? = some (.cells [.str s.host, .int .i64 s.rc, .int .i64 s.sz, .sl s.kept.length (bytesAV s.kept) (.at jk ek), .int .i64 1, .str [], .sl 0 [] (.at jt (et + 1)), .sl 0 [] .ro, .bool s.told, .bool false, .bool s.shut]) := (sput_at h s.clear ek (et + 1)).cells
  have hL := sput_len H a jk jt s.clear ek (et + 1)
  have hit : (Lib.itoa s.sz).length ≤ 21 := Lib.itoa_length_le s.sz (by omega) (by omega)
  have hh := And.intro hB (And.intro (atF hB) hL)
  refine enter (md := fun _ => 0) Tryz.func51 (fun hfit hgl => ?_)
  repeat' (first | refine go ?_ | (refine br (fun hc => ?_) (fun hc => ?_) <;> try (exfalso; omega)) | fail)
  refine out_ses h hfit s.clear ek (et + 1) rfl ?_ ?_ <;> first | rfl | (simp <;> omega)
theorem mail_bad {a jk jt : Nat} {s : Ses} {ek et : Nat} (h : SesAt H a jk jt s ek et) (v n : Int) (t : List UInt8) (hs : s.state ≠ 1) : AEnter (env n0 w0 gl) 52 [.ref a 0, .agg [.int .i64 v, .str t, .int .i64 n]] H (fun y H' => y = .ret (.sl (([53, 48, 51, 32, 119, 104, 101, 110, 13, 10] : List UInt8).length) (bytesAV [53, 48, 51, 32, 119, 104, 101, 110, 13, 10]) .ro) ∧ H' = sput H a jk jt s ek et) := by
  obtain ⟨h1, h2, h3, h4, h5⟩ := h.ne
  have hA : H[a]? = some (.cells [.str s.host, .int .i64 s.rc, .int .i64 s.sz, .sl s.kept.length (bytesAV s.kept) (.at jk ek), .int .i64 s.state, .str s.fro, .sl s.to.length (s.to.map .str) (.at jt et), .sl s.body.length (bytesAV s.body) .ro, .bool s.told, .bool s.waits, .bool s.shut]) := h.cells
  have hh := And.intro hA (And.intro (atF hA) hs)
  refine enter (md := fun _ => 0) Tryz.func52 (fun hfit hgl => ?_)
  repeat' (first | refine go ?_ | (refine br (fun hc => ?_) (fun hc => ?_) <;> try (exfalso; omega)) | fail)
  refine out_ses h hfit s ek et (sput_same h).symm ?_ ?_ <;> first | rfl | (simp <;> omega)
theorem mail_size {a jk jt : Nat} {s : Ses} {ek et : Nat} (h : SesAt H a jk jt s ek et) (v n : Int) (t : List UInt8) (hs : s.state = 1) (hz : s.sz < n) : AEnter (env n0 w0 gl) 52 [.ref a 0, .agg [.int .i64 v, .str t, .int .i64 n]] H (fun y H' => y = .ret (.sl (([53, 53, 50, 32, 115, 105, 122, 101, 13, 10] : List UInt8).length) (bytesAV [53, 53, 50, 32, 115, 105, 122, 101, 13, 10]) .ro) ∧ H' = sput H a jk jt s ek et) := by
  obtain ⟨h1, h2, h3, h4, h5⟩ := h.ne
  have hA : H[a]? = some (.cells [.str s.host, .int .i64 s.rc, .int .i64 s.sz, .sl s.kept.length (bytesAV s.kept) (.at jk ek), .int .i64 s.state, .str s.fro, .sl s.to.length (s.to.map .str) (.at jt et), .sl s.body.length (bytesAV s.body) .ro, .bool s.told, .bool s.waits, .bool s.shut]) := h.cells
  have hh := And.intro hA (And.intro (atF hA) (And.intro hs hz))
  refine enter (md := fun _ => 0) Tryz.func52 (fun hfit hgl => ?_)
  repeat' (first | refine go ?_ | (refine br (fun hc => ?_) (fun hc => ?_) <;> try (exfalso; omega)) | fail)
  refine out_ses h hfit s ek et (sput_same h).symm ?_ ?_ <;> first | rfl | (simp <;> omega)
theorem mail_ok {a jk jt : Nat} {s : Ses} {ek et : Nat} (h : SesAt H a jk jt s ek et) (v n : Int) (t : List UInt8) (hs : s.state = 1) (hz : ¬ s.sz < n) : AEnter (env n0 w0 gl) 52 [.ref a 0, .agg [.int .i64 v, .str t, .int .i64 n]] H (fun y H' => y = .ret (.sl (([50, 53, 48, 32, 111, 107, 13, 10] : List UInt8).length) (bytesAV [50, 53, 48, 32, 111, 107, 13, 10]) .ro) ∧ H' = sput H a jk jt { s with state := 2, fro := t } ek et) := by
  obtain ⟨h1, h2, h3, h4, h5⟩ := h.ne
  have hA : H[a]? = some (.cells [.str s.host, .int .i64 s.rc, .int .i64 s.sz, .sl s.kept.length (bytesAV s.kept) (.at jk ek), .int .i64 s.state, .str s.fro, .sl s.to.length (s.to.map .str) (.at jt et), .sl s.body.length (bytesAV s.body) .ro, .bool s.told, .bool s.waits, .bool s.shut]) := h.cells
  have hh := And.intro hA (And.intro (atF hA) (And.intro hs hz))
  refine enter (md := fun _ => 0) Tryz.func52 (fun hfit hgl => ?_)
  repeat' (first | refine gos ?_ | (refine br (fun hc => ?_) (fun hc => ?_) <;> try (exfalso; omega)) | fail)
  refine wseq_normal ?_
  repeat' (first | refine gos ?_ | (refine br (fun hc => ?_) (fun hc => ?_) <;> try (exfalso; omega)) | fail)
  refine wseq_normal ?_
  repeat' (first | refine gos ?_ | (refine br (fun hc => ?_) (fun hc => ?_) <;> try (exfalso; omega)) | fail)
  refine wseq_normal ?_
  repeat' (first | refine gos ?_ | (refine br (fun hc => ?_) (fun hc => ?_) <;> try (exfalso; omega)) | fail)
  refine wseq_normal ?_
  repeat (refine w_seq ?_)
  refine w_drawnP (fun X => X[H.length]? = some (.cells [.int .i64 v, .str t, .int .i64 n])) (by intro _ h; cases h) (by simp only [List.length_cons, List.length_nil, Nat.reduceAdd]; exact rfl) ?_
  refine goP ?_
  repeat' (first | refine go ?_ | (refine br (fun hc => ?_) (fun hc => ?_) <;> try (exfalso; omega)) | fail)
  refine out_ses h hfit { s with state := 2, fro := t } ek et (sput_cells h { s with state := 2, fro := t }) ?_ ?_ <;> first | rfl | (simp <;> omega)
theorem data_bad {a jk jt : Nat} {s : Ses} {ek et : Nat} (h : SesAt H a jk jt s ek et) (v n : Int) (t : List UInt8) (hs : s.state ≠ 3) : AEnter (env n0 w0 gl) 54 [.ref a 0, .agg [.int .i64 v, .str t, .int .i64 n]] H (fun y H' => y = .ret (.sl (([53, 48, 51, 32, 119, 104, 101, 110, 13, 10] : List UInt8).length) (bytesAV [53, 48, 51, 32, 119, 104, 101, 110, 13, 10]) .ro) ∧ H' = sput H a jk jt s ek et) := by
  obtain ⟨h1, h2, h3, h4, h5⟩ := h.ne
  have hA : H[a]? = some (.cells [.str s.host, .int .i64 s.rc, .int .i64 s.sz, .sl s.kept.length (bytesAV s.kept) (.at jk ek), .int .i64 s.state, .str s.fro, .sl s.to.length (s.to.map .str) (.at jt et), .sl s.body.length (bytesAV s.body) .ro, .bool s.told, .bool s.waits, .bool s.shut]) := h.cells
  have hh := And.intro hA (And.intro (atF hA) hs)
  refine enter (md := fun _ => 0) Tryz.func54 (fun hfit hgl => ?_)
  repeat' (first | refine go ?_ | (refine br (fun hc => ?_) (fun hc => ?_) <;> try (exfalso; omega)) | fail)
  refine out_ses h hfit s ek et (sput_same h).symm ?_ ?_ <;> first | rfl | (simp <;> omega)
theorem data_ok {a jk jt : Nat} {s : Ses} {ek et : Nat} (h : SesAt H a jk jt s ek et) (v n : Int) (t : List UInt8) (hs : s.state = 3) : AEnter (env n0 w0 gl) 54 [.ref a 0, .agg [.int .i64 v, .str t, .int .i64 n]] H (fun y H' => y = .ret (.sl (([51, 53, 52, 32, 103, 111, 13, 10] : List UInt8).length) (bytesAV [51, 53, 52, 32, 103, 111, 13, 10]) .ro) ∧ H' = sput H a jk jt { s with state := 4 } ek et) := by
  obtain ⟨h1, h2, h3, h4, h5⟩ := h.ne
  have hA : H[a]? = some (.cells [.str s.host, .int .i64 s.rc, .int .i64 s.sz, .sl s.kept.length (bytesAV s.kept) (.at jk ek), .int .i64 s.state, .str s.fro, .sl s.to.length (s.to.map .str) (.at jt et), .sl s.body.length (bytesAV s.body) .ro, .bool s.told, .bool s.waits, .bool s.shut]) := h.cells
  have hh := And.intro hA (And.intro (atF hA) hs)
  refine enter (md := fun _ => 0) Tryz.func54 (fun hfit hgl => ?_)
  repeat' (first | refine go ?_ | (refine br (fun hc => ?_) (fun hc => ?_) <;> try (exfalso; omega)) | fail)
  refine out_ses h hfit { s with state := 4 } ek et (sput_cells h { s with state := 4 }) ?_ ?_ <;> first | rfl | (simp <;> omega)
theorem rest_vrfy {a jk jt : Nat} {s : Ses} {ek et : Nat} (h : SesAt H a jk jt s ek et) (v n : Int) (t : List UInt8) (hv : v = 9) : AEnter (env n0 w0 gl) 55 [.ref a 0, .agg [.int .i64 v, .str t, .int .i64 n]] H (fun y H' => y = .ret (.sl (([50, 53, 50, 32, 109, 97, 121, 98, 101, 13, 10] : List UInt8).length) (bytesAV [50, 53, 50, 32, 109, 97, 121, 98, 101, 13, 10]) .ro) ∧ H' = sput H a jk jt s ek et) := by
  obtain ⟨h1, h2, h3, h4, h5⟩ := h.ne
  have hA : H[a]? = some (.cells [.str s.host, .int .i64 s.rc, .int .i64 s.sz, .sl s.kept.length (bytesAV s.kept) (.at jk ek), .int .i64 s.state, .str s.fro, .sl s.to.length (s.to.map .str) (.at jt et), .sl s.body.length (bytesAV s.body) .ro, .bool s.told, .bool s.waits, .bool s.shut]) := h.cells
  subst hv
  have hh := And.intro hA (atF hA)
  refine enter (md := fun _ => 0) Tryz.func55 (fun hfit hgl => ?_)
  repeat' (first | refine go ?_ | (refine br (fun hc => ?_) (fun hc => ?_) <;> try (exfalso; omega)) | fail)
  refine out_ses h hfit s ek et (sput_same h).symm ?_ ?_ <;> first | rfl | (simp <;> omega)
theorem rest_quit {a jk jt : Nat} {s : Ses} {ek et : Nat} (h : SesAt H a jk jt s ek et) (v n : Int) (t : List UInt8) (hv : v = 8) : AEnter (env n0 w0 gl) 55 [.ref a 0, .agg [.int .i64 v, .str t, .int .i64 n]] H (fun y H' => y = .ret (.sl (([50, 50, 49, 32, 98, 121, 101, 13, 10] : List UInt8).length) (bytesAV [50, 50, 49, 32, 98, 121, 101, 13, 10]) .ro) ∧ H' = sput H a jk jt { s with shut := true } ek et) := by
  obtain ⟨h1, h2, h3, h4, h5⟩ := h.ne
  have hA : H[a]? = some (.cells [.str s.host, .int .i64 s.rc, .int .i64 s.sz, .sl s.kept.length (bytesAV s.kept) (.at jk ek), .int .i64 s.state, .str s.fro, .sl s.to.length (s.to.map .str) (.at jt et), .sl s.body.length (bytesAV s.body) .ro, .bool s.told, .bool s.waits, .bool s.shut]) := h.cells
  subst hv
  have hh := And.intro hA (atF hA)
  refine enter (md := fun _ => 0) Tryz.func55 (fun hfit hgl => ?_)
  repeat' (first | refine go ?_ | (refine br (fun hc => ?_) (fun hc => ?_) <;> try (exfalso; omega)) | fail)
  refine out_ses h hfit { s with shut := true } ek et (sput_cells h { s with shut := true }) ?_ ?_ <;> first | rfl | (simp <;> omega)
theorem rest_rset {a jk jt : Nat} {s : Ses} {ek et : Nat} (h : SesAt H a jk jt s ek et) (v n : Int) (t : List UInt8) (hv : v = 6) (hs : s.state ≠ 0) : AEnter (env n0 w0 gl) 55 [.ref a 0, .agg [.int .i64 v, .str t, .int .i64 n]] H (fun y H' => y = .ret (.sl (([50, 53, 48, 32, 111, 107, 13, 10] : List UInt8).length) (bytesAV [50, 53, 48, 32, 111, 107, 13, 10]) .ro) ∧ H' = sput H a jk jt s.clear ek (et + 1)) := by
  obtain ⟨h1, h2, h3, h4, h5⟩ := h.ne
  have hA : H[a]? = some (.cells [.str s.host, .int .i64 s.rc, .int .i64 s.sz, .sl s.kept.length (bytesAV s.kept) (.at jk ek), .int .i64 s.state, .str s.fro, .sl s.to.length (s.to.map .str) (.at jt et), .sl s.body.length (bytesAV s.body) .ro, .bool s.told, .bool s.waits, .bool s.shut]) := h.cells
  have hcl : ∀ l, Ctr (env n0 w0 gl) 29 [.ref a 0] (H ++ l) True (.tup []) (sput H a jk jt s.clear ek (et + 1) ++ l) := fun l => .of fun _ => by
    have := clear_e (n0 := n0) (w0 := w0) (gl := gl) (h.app l)
    rwa [sput_app h] at this
  have hB : (sput H a jk jt s.clear ek (et + 1))[a]? = some (.cells [.str s.host, .int .i64 s.rc, .int .i64 s.sz, .sl s.kept.length (bytesAV s.kept) (.at jk ek), .int .i64 1, .str [], .sl 0 [] (.at jt (et + 1)), .sl 0 [] .ro, .bool s.told, .bool false, .bool s.shut]) := (sput_at h s.clear ek (et + 1)).cells
  have hL := sput_len H a jk jt s.clear ek (et + 1)
  subst hv
  have hh := And.intro hA (And.intro (atF hA) (And.intro hs (And.intro hB (And.intro (atF hB) hL))))
  refine enter (md := fun _ => 0) Tryz.func55 (fun hfit hgl => ?_)
  repeat' (first | refine go ?_ | (refine br (fun hc => ?_) (fun hc => ?_) <;> try (exfalso; omega)) | fail)
  refine out_ses h hfit s.clear ek (et + 1) rfl ?_ ?_ <;> first | rfl | (simp <;> omega)
theorem rest_rset0 {a jk jt : Nat} {s : Ses} {ek et : Nat} (h : SesAt H a jk jt s ek et) (v n : Int) (t : List UInt8) (hv : v = 6) (hs : s.state = 0) : AEnter (env n0 w0 gl) 55 [.ref a 0, .agg [.int .i64 v, .str t, .int .i64 n]] H (fun y H' => y = .ret (.sl (([50, 53, 48, 32, 111, 107, 13, 10] : List UInt8).length) (bytesAV [50, 53, 48, 32, 111, 107, 13, 10]) .ro) ∧ H' = sput H a jk jt s ek et) := by
  obtain ⟨h1, h2, h3, h4, h5⟩ := h.ne
  have hA : H[a]? = some (.cells [.str s.host, .int .i64 s.rc, .int .i64 s.sz, .sl s.kept.length (bytesAV s.kept) (.at jk ek), .int .i64 s.state, .str s.fro, .sl s.to.length (s.to.map .str) (.at jt et), .sl s.body.length (bytesAV s.body) .ro, .bool s.told, .bool s.waits, .bool s.shut]) := h.cells
  subst hv
  have hh := And.intro hA (And.intro (atF hA) hs)
  refine enter (md := fun _ => 0) Tryz.func55 (fun hfit hgl => ?_)
  repeat' (first | refine go ?_ | (refine br (fun hc => ?_) (fun hc => ?_) <;> try (exfalso; omega)) | fail)
  refine out_ses h hfit s ek et (sput_same h).symm ?_ ?_ <;> first | rfl | (simp <;> omega)
theorem rest_other {a jk jt : Nat} {s : Ses} {ek et : Nat} (h : SesAt H a jk jt s ek et) (v n : Int) (t : List UInt8) (hv : v ≠ 9 ∧ v ≠ 8 ∧ v ≠ 6) : AEnter (env n0 w0 gl) 55 [.ref a 0, .agg [.int .i64 v, .str t, .int .i64 n]] H (fun y H' => y = .ret (.sl (([50, 53, 48, 32, 111, 107, 13, 10] : List UInt8).length) (bytesAV [50, 53, 48, 32, 111, 107, 13, 10]) .ro) ∧ H' = sput H a jk jt s ek et) := by
  obtain ⟨h1, h2, h3, h4, h5⟩ := h.ne
  have hA : H[a]? = some (.cells [.str s.host, .int .i64 s.rc, .int .i64 s.sz, .sl s.kept.length (bytesAV s.kept) (.at jk ek), .int .i64 s.state, .str s.fro, .sl s.to.length (s.to.map .str) (.at jt et), .sl s.body.length (bytesAV s.body) .ro, .bool s.told, .bool s.waits, .bool s.shut]) := h.cells
  have hh := And.intro hA (And.intro (atF hA) hv)
  refine enter (md := fun _ => 0) Tryz.func55 (fun hfit hgl => ?_)
  repeat' (first | refine go ?_ | (refine br (fun hc => ?_) (fun hc => ?_) <;> try (exfalso; omega)) | fail)
  refine out_ses h hfit s ek et (sput_same h).symm ?_ ?_ <;> first | rfl | (simp <;> omega)

end Go.Ab.Tryz

end
