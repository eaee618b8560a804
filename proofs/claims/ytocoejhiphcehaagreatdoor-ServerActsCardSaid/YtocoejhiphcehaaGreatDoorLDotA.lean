/- Walks: lines with their ends; a message off the wire. -/
import Derived.Test.YtocoejhiphcehaaGreatDoorLSrvA
import Derived.Test.YtocoejhiphcehaaGreatDoorSLn
import Derived.Test.YtocoejhiphcehaaGreatDoorAb32
import Derived.Test.YtocoejhiphcehaaGreatDoorLScope
section
set_option linter.unusedSimpArgs false
set_option linter.unusedVariables false
set_option maxHeartbeats 8000000
set_option maxRecDepth 10000
namespace Go.Ab.Tryz
open Go Go.Ab Go.Proofs
attribute [local irreducible] W Wl Wop TrA WSeq WLoopS FPost DPost RPost WRound DK onEnd
attribute [local simp] belowL_bytesAV belowL_strsM
variable {n0 : Nat} {w0 : World} {gl : Nat → List AV} {H : List AO}

instance dlines_t (n : Nat) (xs : List AV) : Ctr (env n0 w0 gl) 56 [.sl n xs .ro] H True (.fn 68 [] [.ref H.length 0]) (H ++ [.cells [.sl n xs .ro]]) := .of fun _ => by
  refine enter (md := fun _ => 0) Tryz.func56 (fun hfit hgl => ?_)
  repeat' (first | refine go ?_ | (refine br (fun hc => ?_) (fun hc => ?_) <;> try (exfalso; omega)) | fail)
  exact .now ⟨rfl, rfl⟩

theorem dlines1_t [hml : GLInt gl 0] {J O P : Type} {lp id n : Nat} {G : J → List UInt8 → List AO} {S : O → List UInt8 → List AO} {T : P → List UInt8 → List AO} {ch : P → List APanic} {step : J → List UInt8 → Res J O P} {j0 : J} (s : List UInt8) (hs : s.length < 4294967281) (hlp : lp < n)
    (hg : ∀ j r k, (G j r ++ k)[id]? = some (.cells [.sl r.length (bytesAV r) .ro])) (hset : ∀ j r r', (G j r).set id (.cells [.sl r'.length (bytesAV r') .ro]) = G j r') (hG : ∀ j r, (G j r).length = n) (hfG : ∀ j r, Fit n (G j r))
    (h : Rounds (env n0 w0 gl) lp (fun x => [.sl x.length (bytesAV x) .ro]) G S T ch step j0 (linL s).1) :
    AEnter (env n0 w0 gl) 68 [.yield lp, .ref id 0] (G j0 s) (IterEnd G S T ch (foldR step j0 (linL s).1)) := by
  have hg' : ∀ j r, (G j r)[id]? = some (.cells [.sl r.length (bytesAV r) .ro]) := fun j r => by have := hg j r []; rwa [List.append_nil] at this
  have hif : ∀ (p : Prop) [Decidable p], (if p then Tok.ro else Tok.ro) = Tok.ro := fun p _ => ite_self _
  have hh := And.intro hg (And.intro hg' (And.intro hset hif))
  refine enter (md := fun t => if t = 5 then 2 else 0) Tryz.func68 (fun hfit hgl => ?_)
  repeat' (first | refine go ?_ | (refine br (fun hc => ?_) (fun hc => ?_) <;> try (exfalso; omega)) | fail)
  refine loop (fun i : J × List (List UInt8) × List UInt8 => (.yield lp :: .ref id 0 :: .top :: .top :: .top :: .top :: .top :: .top :: .top :: .top :: .top :: .top :: .top :: .top :: .top :: .top :: .top :: .top :: .top :: .top :: .top :: .top :: .top :: [])) (fun i => G i.1 i.2.2) (fun i => (linL s).1 = i.2.1 ++ (linL i.2.2).1 ∧ foldR step j0 i.2.1 = .go i.1 ∧ i.2.2.length ≤ s.length) (fun i => i.2.2.length) (j0, [], s) ⟨rfl, rfl, Nat.le_refl _⟩ ?_
  rintro ⟨j, pre, r⟩ ⟨h1, h2, h3⟩
  simp only at h1 h2 h3 ⊢
  have hn := hG j r
  have hn0 := hG j0 s
  have hi1 := (List.getElem?_eq_some_iff.1 (hg' j0 s)).1
  have hfg : Fit (G j r).length (G j r) := by rw [hn]; exact hfG j r
  rcases crlfAt_idx r with ⟨hi, hc⟩ | ⟨k, hk, hi, hc⟩
  · have hh := And.intro hi (And.intro hg (And.intro hg' (And.intro hset hif)))
    rw [linL_none hc, List.append_nil] at h1
    rw [h1, h2]
    refine gos ?_
    refine cutTo [5] ?_
    repeat' (first | refine go ?_ | (refine br (fun hc => ?_) (fun hc => ?_) <;> try (exfalso; omega)) | fail)
    exact .now ⟨r, rfl, rfl⟩
  · have hl := crlfAt_len hc
    have hXe := linL_some hc
    obtain ⟨x, hx⟩ : ∃ x, r.take k = x := ⟨_, rfl⟩
    obtain ⟨y, hy0⟩ : ∃ y, r.drop (k + 2) = y := ⟨_, rfl⟩
    rw [hx, hy0] at hc hl hXe
    have hre := crlfAt_eq hc
    have hxl : x.length = k := by rw [← hx, List.length_take]; omega
    have e1 : ((k : Int) + 2).toNat = k + 2 := by omega
    have e2 : List.take (k + 2) (bytesAV r) = bytesAV (x ++ [13, 10]) := by
      have : x ++ [13, 10] = r.take (k + 2) := take_two hre (by omega)
      rw [this]; simp [bytesAV]
    have e4 : List.drop (k + 2) (List.take r.length (bytesAV r)) = bytesAV y := by
      rw [List.take_of_length_le (by rw [bytesAV_len]; exact Nat.le_refl _), ← hy0]; simp [bytesAV]
    have e5 : r.length - (k + 2) = y.length := by rw [← hy0, List.length_drop]
    have e6 : (x ++ [13, 10]).length = k + 2 := by simp; omega
    have hh := And.intro hi (And.intro e1 (And.intro e2 (And.intro e4 (And.intro e5 (And.intro hg (And.intro hg' (And.intro hset hif)))))))
    rw [hXe] at h1
    refine gos ?_
    refine cutTo [5] ?_
    rcases hst : step j (x ++ [13, 10]) with j' | o | p
    · have hy := h.go0 r h1 h2 hst
      rw [e6] at hy
      repeat' (first | refine go ?_ | (refine br (fun hc => ?_) (fun hc => ?_) <;> try (exfalso; omega)) | fail)
      exact again (j', pre ++ [x ++ [13, 10]], y) ⟨by rw [h1]; simp, foldR_go h2 hst, by simp only; omega⟩ (by simp only; omega)
    · have hy := h.stop0 r h1 h2 hst
      rw [e6] at hy
      repeat' (first | refine go ?_ | (refine br (fun hc => ?_) (fun hc => ?_) <;> try (exfalso; omega)) | fail)
      refine .now ⟨r, ?_⟩
      rw [h1, foldR_stop h2 hst]
      exact ⟨rfl, rfl⟩
    · have hy := h.die0 r h1 h2 hst
      rw [e6] at hy
      repeat' (first | refine go ?_ | (refine br (fun hc => ?_) (fun hc => ?_) <;> try (exfalso; omega)) | fail)
      refine .now ⟨r, ?_⟩
      rw [h1, foldR_die h2 hst]
      exact ⟨rfl, rfl⟩

end Go.Ab.Tryz

end

section
set_option linter.unusedSimpArgs false
set_option linter.unusedVariables false
set_option maxHeartbeats 8000000
set_option maxRecDepth 10000
namespace Go.Ab.Tryz
open Go Go.Ab Go.Proofs
attribute [local irreducible] W Wl Wop TrA WSeq WLoopS FPost DPost RPost WRound DK onEnd
attribute [local simp] belowL_bytesAV belowL_strsM
variable {n0 : Nat} {w0 : World} {gl : Nat → List AV} {H : List AO}

def unDot (x : List UInt8) : List UInt8 := if x.head? = some 46 then x.drop 1 else x
def scStep (j : List UInt8 × Nat) (x : List UInt8) : Res (List UInt8 × Nat) (List UInt8 × Nat) Empty := if x = [46, 13, 10] then .stop (j.1, j.2 + x.length) else .go (j.1 ++ unDot x, j.2 + x.length)
theorem unDot_line (x : List UInt8) : unDot (x ++ [13, 10]) = (if x.head? = some 46 then x.drop 1 else x) ++ [13, 10] := by
  unfold unDot
  cases x with
  | nil => rfl
  | cons c t =>
    by_cases h : c = 46
    · subst h; rfl
    · have h1 : ¬ (some c = some (46 : UInt8)) := fun e => h (by simpa using e)
      exact (if_neg h1).trans (congrArg (· ++ [13, 10]) (if_neg (c := some c = some (46 : UInt8)) (t := t) (e := c :: t) h1).symm)
theorem scan_fold (b : List UInt8) : ∀ (out : List UInt8) (u : Nat), (scanS b = none ∧ ∃ j, foldR scStep (out, u) (linL b).1 = .go j ∧ j.1.length + j.2 ≤ out.length + u + 2 * b.length) ∨ ∃ o r, scanS b = some (o, r) ∧ foldR scStep (out, u) (linL b).1 = .stop (out ++ o, u + (b.length - r.length)) ∧ b.drop (b.length - r.length) = r ∧ r.length ≤ b.length := by
  induction hn : b.length using Nat.strongRecOn generalizing b with
  | _ n ih =>
    intro out u
    cases hc : crlfAt b with
    | none =>
      left
      refine ⟨scanS_none hc, (out, u), by rw [linL_none hc]; rfl, by simp only; omega⟩
    | some p =>
      obtain ⟨x, y⟩ := p
      have hl := crlfAt_len hc
      have he := crlfAt_eq hc
      have hlin := linL_some hc
      have hsc := scanS_some hc
      by_cases hx : x = [46]
      · right
        refine ⟨[], y, by rw [hsc, if_pos hx], ?_, ?_, by omega⟩
        · rw [hlin]
          simp only [foldR]
          subst hx
          simp only [List.length_cons, List.length_nil] at hl
          have : scStep (out, u) ([46] ++ [13, 10]) = .stop (out, u + 3) := by simp [scStep]
          rw [this]
          simp only [List.append_nil]
          rw [show u + 3 = u + (n - y.length) by omega]
        · rw [he, ← hn, he]
          simp only [List.length_append, List.length_cons]
          rw [show x.length + (y.length + 1 + 1) - y.length = x.length + 2 by omega, List.drop_append, List.drop_of_length_le (by omega), List.nil_append, show x.length + 2 - x.length = 2 by omega]
          rfl
      · have hx2 : ¬ (x ++ [13, 10] = [46, 13, 10]) := fun e => hx (by
          have e : x ++ [13, 10] = [46] ++ [13, 10] := e
          exact List.append_cancel_right e)
        have hst : scStep (out, u) (x ++ [13, 10]) = .go (out ++ unDot (x ++ [13, 10]), u + (x.length + 2)) := by
          unfold scStep
          rw [if_neg hx2]
          simp
        have hud : (unDot (x ++ [13, 10])).length ≤ x.length + 2 := by
          unfold unDot; split <;> simp <;> omega
        rcases ih y.length (by omega) y rfl (out ++ unDot (x ++ [13, 10])) (u + (x.length + 2)) with ⟨h1, j, h2, h3⟩ | ⟨o, r, h1, h2, h3, h4⟩
        · left
          refine ⟨by rw [hsc, if_neg hx, h1]; rfl, j, ?_, ?_⟩
          · rw [hlin]; simp only [foldR]; rw [hst]; exact h2
          · rw [List.length_append] at h3; omega
        · right
          refine ⟨(if x.head? = some 46 then x.drop 1 else x) ++ (13 :: 10 :: o), r, by rw [hsc, if_neg hx, h1]; rfl, ?_, ?_, by omega⟩
          · rw [hlin]; simp only [foldR]; rw [hst]
            simp only
            rw [h2, unDot_line]
            simp only [List.append_assoc, List.cons_append, List.nil_append]
            rw [show u + (x.length + 2) + (y.length - r.length) = u + (n - r.length) by omega]
          · rw [he, ← hn, he]
            simp only [List.length_append, List.length_cons]
            rw [show x.length + (y.length + 1 + 1) - r.length = x.length + (2 + (y.length - r.length)) by omega, List.drop_append, List.drop_of_length_le (by omega), List.nil_append, show x.length + (2 + (y.length - r.length)) - x.length = (y.length - r.length) + 1 + 1 by omega]
            simp only [List.drop_succ_cons]
            exact h3
theorem sc_go {b : List UInt8} {pre post : List (List UInt8)} {x : List UInt8} {j : List UInt8 × Nat} (hx : (linL b).1 = pre ++ x :: post) (hj : foldR scStep ([], 0) pre = .go j) : j.1.length ≤ j.2 ∧ j.2 = pre.flatten.length := by
  clear hx
  have key : ∀ (pre : List (List UInt8)) (i j : List UInt8 × Nat), foldR scStep i pre = .go j → i.1.length ≤ i.2 → j.1.length ≤ j.2 ∧ j.2 = i.2 + pre.flatten.length := by
    intro pre
    induction pre with
    | nil => intro i j h hi; injection h with h; subst h; exact ⟨hi, by simp⟩
    | cons x pre ih =>
      intro i j h hi
      simp only [foldR] at h
      unfold scStep at h
      by_cases hx : x = [46, 13, 10]
      · rw [if_pos hx] at h; simp at h
      · rw [if_neg hx] at h
        have hud : (unDot x).length ≤ x.length := by unfold unDot; split <;> simp
        have := ih _ j h (by simp only [List.length_append]; omega)
        simp only [List.flatten_cons, List.length_append] at this ⊢
        exact ⟨this.1, by omega⟩
  have := key pre ([], 0) j hj (by simp)
  simpa using this

theorem scan_e [hml : GLInt gl 0] (b : List UInt8) (hb : b.length ≤ 1000000) : AEnter (env n0 w0 gl) 38 [.sl b.length (bytesAV b) .ro] H (fun y H' => ∃ J : List AO, J.length = 7 ∧ match scanS b with
    | none => y = .ret (.tup [.sl 0 [] .full, .sl b.length (bytesAV b) .ro, .bool false]) ∧ H' = H
    | some (o, r) => y = .ret (.tup [.sl o.length (bytesAV o) .ro, .sl r.length (bytesAV r) (.at (H.length + 7) r.length), .bool true]) ∧ H' = H ++ (J ++ [.tail 1 r.length])) := by
  have hsf := scan_fold b [] 0
  refine enter (md := fun _ => 0) Tryz.func38 (fun hfit hgl => ?_)
  refine gos ?_
  refine wseq_normal ?_
  refine w_scope ?_
  refine gos ?_
  refine wseq_normal ?_
  refine gos ?_
  refine wseq_shift (Shift.cellVec 1 H.length 0 (xs := [.sl 0 [] .full]) (by simp) (by simp) rfl rfl) ?_
  simp only [List.append_assoc, List.cons_append, List.nil_append, getE, getE0, setE, setE0, List.set_cons_succ, List.set_cons_zero, List.length_append, List.length_cons, List.length_nil, Nat.zero_add, Nat.reduceAdd]
  repeat' (first | refine go ?_ | (refine br (fun hc => ?_) (fun hc => ?_) <;> try (exfalso; omega)) | fail)
  refine over (fun x => [.sl x.length (bytesAV x) .ro]) (fun (j : List UInt8 × Nat) r => H ++ [.cells [.vsl (H.length + 3) j.1.length], .cells [.int .i64 (j.2 : Nat)], .cells [.bool false], .vec 1 j.1.length (bytesAV j.1), .cells [.sl r.length (bytesAV r) .ro]])
    (fun (j : List UInt8 × Nat) r => H ++ [.cells [.vsl (H.length + 3) j.1.length], .cells [.int .i64 (j.2 : Nat)], .cells [.bool true], .vec 1 j.1.length (bytesAV j.1), .cells [.sl r.length (bytesAV r) .ro]]) (fun (o : Empty) r => nomatch o) (fun (e : Empty) => nomatch e) (fun _ => .exit 0) scStep ([], 0) b (linL b).1 ?_ ?_ ?_ ?_ ?_
  · intro fn G S T hG hS h
    exact dlines1_t b (n := H.length + 5 + 2) (by omega) (by omega) (fun j r k => by simp [G, getE]) (fun j r r' => by simp [G, setE]) (fun j r => by simp [G]) hG h
  · intro fn pre x post j r l' hx hj hft
    obtain ⟨g1, g2⟩ := sc_go hx hj
    have hxl : pre.flatten.length + x.length ≤ b.length := by
      have h1 := linL_join b
      rw [hx] at h1
      have h2 := congrArg List.length h1
      simp only [List.flatten_append, List.flatten_cons, List.length_append] at h2
      omega
    obtain ⟨y, hy⟩ := linL_ends b x (by rw [hx]; simp)
    have hx0 : 0 < x.length := by rw [hy]; simp
    obtain ⟨c, t, rfl⟩ : ∃ c t, x = c :: t := by
      cases x with
      | nil => simp at hx0
      | cons c t => exact ⟨c, t, rfl⟩
    simp only [List.length_cons] at hxl
    by_cases hd : c :: t = [46, 13, 10]
    · obtain ⟨rfl, rfl⟩ : c = 46 ∧ t = [13, 10] := by simpa using hd
      have hs1 : scStep j [46, 13, 10] = .stop (j.1, j.2 + 3) := by unfold scStep; rw [if_pos rfl]; rfl
      rw [hs1]
      have hh : ∀ a : List UInt8, (a = a) = True := fun a => eq_self a
      repeat' (first | refine go ?_ | (refine br (fun hc => ?_) (fun hc => ?_) <;> try (exfalso; omega)) | fail)
      exact .now ⟨rfl, by simp⟩
    · by_cases hc : c = 46
      · subst hc
        have hs1 : scStep j (46 :: t) = .go (j.1 ++ t, j.2 + (t.length + 1)) := by unfold scStep; rw [if_neg hd]; rfl
        rw [hs1]
        have ht1 : List.drop 1 (List.take (t.length + 1) (bytesAV (46 :: t))) = bytesAV t := by rw [List.take_of_length_le (by rw [bytesAV_len]; exact Nat.le_refl _)]; rfl
        have ht2 : t.length + 1 - 1 = t.length := rfl
        have h46 : ((UInt8.toNat 46 : Nat) : Int) = 46 := rfl
        have hh := And.intro hd (And.intro ht1 (And.intro ht2 h46))
        repeat' (first | refine go ?_ | (refine br (fun hc => ?_) (fun hc => ?_) <;> try (exfalso; omega)) | fail)
        exact .now ⟨rfl, by simp [bytesAV]⟩
      · have hs1 : scStep j (c :: t) = .go (j.1 ++ (c :: t), j.2 + (t.length + 1)) := by
          unfold scStep unDot; rw [if_neg hd, if_neg (by simpa using hc)]; rfl
        have hcn : ¬ (c.toNat : Int) = 46 := fun h => hc (UInt8.toNat_inj.1 (show _ = 46 by omega))
        rw [hs1]
        have hh := And.intro hd hcn
        repeat' (first | refine go ?_ | (refine br (fun hc => ?_) (fun hc => ?_) <;> try (exfalso; omega)) | fail)
        exact .now ⟨rfl, by simp [bytesAV]⟩
  · intro j r hr
    have hn : scanS b = none := by
      rcases hsf with ⟨h1, _⟩ | ⟨o, r2, _, h2, _⟩
      · exact h1
      · rw [hr] at h2; simp at h2
    rw [hn]
    repeat' (first | refine go ?_ | (refine br (fun hc => ?_) (fun hc => ?_) <;> try (exfalso; omega)) | fail)
    refine scope_ret ?_
    repeat' (first | refine go ?_ | (refine br (fun hc => ?_) (fun hc => ?_) <;> try (exfalso; omega)) | fail)
    refine Out.weak (b := .tup [.sl 0 [] .full, .sl b.length (bytesAV b) .ro, .bool false]) (fun g c r => tupW (by rfl) (fun i c r => ?_) r) (.junkd ⟨List.replicate 7 .dead, rfl, rfl, rfl⟩)
    match i with
    | 0 => exact r
    | 1 => exact sl_ro g _ r
    | 2 => exact r
    | i + 3 => exact .top _
  · intro j r hr
    obtain ⟨o, r2, hsc, h2, h3, h4⟩ : ∃ o r, scanS b = some (o, r) ∧ foldR scStep ([], 0) (linL b).1 = .stop ([] ++ o, 0 + (b.length - r.length)) ∧ b.drop (b.length - r.length) = r ∧ r.length ≤ b.length := by
      rcases hsf with ⟨_, j2, h1, _⟩ | h
      · rw [hr] at h1; simp at h1
      · exact h
    rw [hr] at h2
    injection h2 with h2
    subst h2
    rw [hsc]
    simp only [List.nil_append, Nat.zero_add]
    repeat' (first | refine gos ?_ | (refine br (fun hc => ?_) (fun hc => ?_) <;> try (exfalso; omega)) | fail)
    refine wseq_normal ?_
    repeat' (first | refine gos ?_ | (refine br (fun hc => ?_) (fun hc => ?_) <;> try (exfalso; omega)) | fail)
    refine wseq_normal ?_
    repeat' (first | refine gos ?_ | (refine br (fun hc => ?_) (fun hc => ?_) <;> try (exfalso; omega)) | fail)
    refine wseq_shift (Shift.cellKnow H.length 0 (H.length + 3) (xs := [.vsl (H.length + 3) o.length]) (sz := 1) (n := o.length) (ys := bytesAV o) (by simp) rfl (by simp) (by simp [getE]) rfl) ?_
    simp only [getE, setE, getE0, setE0, List.set_cons_succ, List.set_cons_zero]
    have hdr : List.drop (b.length - r2.length) (List.take b.length (bytesAV b)) = bytesAV r2 := by rw [List.take_of_length_le (by rw [bytesAV_len]; exact Nat.le_refl _), bytesAV_drop, h3]
    have hlr : b.length - (b.length - r2.length) = r2.length := by omega
    have hh := And.intro hdr hlr
    repeat (refine w_seq ?_)
    refine w_drawnP (fun X => X[H.length]? = some (.cells [.sl o.length (bytesAV o) .ro]) ∧ X[H.length + 1]? = some (.cells [.int .i64 ((b.length - r2.length : Nat) : Int)])) (by intro _ h; cases h) (by simp only [List.length_cons, List.length_nil, Nat.reduceAdd]; exact rfl) ?_
    refine goP ?_
    repeat' (first | refine go ?_ | (refine br (fun hc => ?_) (fun hc => ?_) <;> try (exfalso; omega)) | fail)
    refine scope_ret ?_
    repeat' (first | refine go ?_ | (refine br (fun hc => ?_) (fun hc => ?_) <;> try (exfalso; omega)) | fail)
    exact .now ⟨[.cells [.sl o.length (bytesAV o) .ro], .cells [.int .i64 ((b.length - r2.length : Nat) : Int)], .cells [.bool true], .dead, .cells [.sl r.length (bytesAV r) .ro], .dead, .dead], rfl, rfl, by simp⟩
  · intro fn e; nomatch e

/-- What is left behind a message off the wire. -/
def scanX : Option (List UInt8 × List UInt8) → Nat → List UInt8 → AE
  | none, _, b => .ret (.tup [.sl 0 [] .full, .sl b.length (bytesAV b) .ro, .bool false])
  | some (o, r), q, _ => .ret (.tup [.sl o.length (bytesAV o) .ro, .sl r.length (bytesAV r) (.at q r.length), .bool true])
def scanH : Option (List UInt8 × List UInt8) → List AO
  | none => []
  | some (_, r) => [.dead, .dead, .dead, .dead, .dead, .dead, .dead, .tail 1 r.length]
theorem scan_t [hml : GLInt gl 0] (b : List UInt8) (tok : Tok) (hb : b.length ≤ 1000000) : AEnter (env n0 w0 gl) 38 [.sl b.length (bytesAV b) tok] H (fun y H' => y = scanX (scanS b) (H.length + 7) b ∧ H' = H ++ scanH (scanS b)) := by
  have key : AEnter (env n0 w0 gl) 38 [.sl b.length (bytesAV b) .ro] H (fun y H' => y = scanX (scanS b) (H.length + 7) b ∧ H' = H ++ scanH (scanS b)) := by
    refine (scan_e (n0 := n0) (w0 := w0) (gl := gl) (H := H) b hb).hs ?_
    rintro x H1 ⟨J, hJ, h⟩
    cases hs : scanS b with
    | none =>
      rw [hs] at h
      obtain ⟨rfl, rfl⟩ := h
      exact ⟨_, HS.refl, rfl, by simp [scanH]⟩
    | some q =>
      obtain ⟨o, r⟩ := q
      rw [hs] at h
      obtain ⟨rfl, rfl⟩ := h
      refine ⟨_, HS.kills J H _, rfl, ?_⟩
      rw [hJ]; rfl
  exact fun g w cs hr hv => key g w cs hr ⟨hv.1, fun i => match i with
    | 0 => sl_ro g _ (hv.2 0)
    | i + 1 => .top _⟩

end Go.Ab.Tryz

end
