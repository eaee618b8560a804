/- Walks: fields of a name. -/
import Derived.Test.YtlcbdgklbjocnaaDoorLHead1
set_option linter.unusedSimpArgs false
set_option linter.unusedVariables false
set_option maxHeartbeats 2000000
set_option maxRecDepth 4000
namespace Go.Ab.Tryd
open Go Go.Ab Go.Proofs
attribute [local irreducible] W Wl Wop TrA WSeq WLoopS FPost DPost RPost WRound DK onEnd
variable {n0 : Nat} {w0 : World} {gl : Nat → List AV} {H : List AO}

instance lower_t (s : List UInt8) : Ctr (env n0 w0 gl) 35 [.str s] H (s.length ≤ 9223372036854775807) (.str (s.map lowB)) H := .of fun hs => by
  refine enter (md := fun t => if t = 7 then 2 else 0) Tryd.func35 (fun hfit hgl => ?_)
  repeat' (first | refine go ?_ | (refine br (fun hc => ?_) (fun hc => ?_) <;> try (exfalso; omega)) | fail)
  refine loop (fun i : Nat => (.top :: .top :: .str [] :: .msl H.length 0 s.length :: .top :: .top :: .top :: .top :: .msl H.length 0 s.length :: .int .i64 s.length :: .int .i64 (i : Int) :: .top :: .top :: .top :: .top :: .top :: .top :: .top :: .top :: .top :: .top :: .top :: .top :: .top :: .top :: .top :: .top :: .top :: .top :: [])) (fun i => H ++ [.cells (bytesAV (lowTo s i))]) (fun i => i ≤ s.length) (fun i => s.length - i) 0 (Nat.zero_le _) ?_
  intro i hi
  have hln := lowTo_len s i
  have hlb : (bytesAV (lowTo s i)).length = s.length := by rw [bytesAV_len, hln]
  have hh := And.intro hln (And.intro (fun h : i < s.length => lowTo_get h) (And.intro (List.take_of_length_le (Nat.le_of_eq hlb)) hlb))
  repeat' (first | refine go ?_ | (refine br (fun hc => ?_) (fun hc => ?_) <;> try (exfalso; omega)) | fail)
  · refine againE (i + 1) (by omega) (by omega) ?_
    have e : ((s.getD i 0).toNat : Int) + 32 = ((lowB (s.getD i 0)).toNat : Int) := by
      unfold lowB
      rw [if_pos ⟨by omega, by omega⟩, UInt8.toNat_add]
      have : (32 : UInt8).toNat = 32 := rfl
      rw [this]; omega
    rw [lowTo_succ (by omega), bytesAV_set (by rw [lowTo_len]; omega), ← e]
  · refine againE (i + 1) (by omega) (by omega) ?_
    rw [lowTo_same (by omega) (by omega)]
  · refine againE (i + 1) (by omega) (by omega) ?_
    rw [lowTo_same (by omega) (by omega)]
  · refine .junkd ⟨?_, rfl⟩
    have : i = s.length := by omega
    rw [this]
    simp [lowTo]

/-- Fields, as cells. -/
def fldAV (l : List (List UInt8 × List UInt8)) : List AV := l.flatMap fun f => [.str f.1, .str f.2]
theorem fldAV_len (l : List (List UInt8 × List UInt8)) : (fldAV l).length = l.length * 2 := by
  induction l with
  | nil => rfl
  | cons f l ih => simp only [fldAV, List.flatMap_cons, List.length_append, List.length_cons, List.length_nil] at ih ⊢; rw [ih]; omega
@[simp] theorem belowL_fldAV (n : Nat) (l : List (List UInt8 × List UInt8)) : belowL n (fldAV l) = true := by
  induction l with
  | nil => rfl
  | cons f l ih => simpa [fldAV, belowL, AV.within] using ih
theorem fldAV_cons (f : List UInt8 × List UInt8) (l : List (List UInt8 × List UInt8)) : fldAV (f :: l) = .str f.1 :: .str f.2 :: fldAV l := by simp [fldAV]
theorem fldAV_drop : ∀ (i : Nat) (l : List (List UInt8 × List UInt8)), (fldAV l).drop (i * 2) = fldAV (l.drop i)
  | 0, l => rfl
  | i + 1, [] => by simp [fldAV]
  | i + 1, f :: l => by
    rw [fldAV_cons, show (i + 1) * 2 = i * 2 + 1 + 1 by omega]
    simpa using fldAV_drop i l
theorem fldAV_at {i : Nat} {l : List (List UInt8 × List UInt8)} (h : i < l.length) : ((fldAV l).drop (i * 2)).take 2 = [.str (l.getD i ([], [])).1, .str (l.getD i ([], [])).2] := by
  rw [fldAV_drop, List.drop_eq_getElem_cons h, fldAV_cons]
  simp [h]

instance named_t (n : Nat) (xs : List AV) (tok : Tok) (nm : List UInt8) : Ctr (env n0 w0 gl) 66 [.sl n xs tok, .str nm] H (nm.length ≤ 9223372036854775807) (.fn 95 [] [.ref H.length 0, .ref (H.length + 1) 0]) (H ++ [.cells [.sl n xs tok], .cells [.str (nm.map lowB)]]) := .of fun hs => by
  refine enter (md := fun _ => 0) Tryd.func66 (fun hfit hgl => ?_)
  repeat' (first | refine go ?_ | (refine br (fun hc => ?_) (fun hc => ?_) <;> try (exfalso; omega)) | fail)
  exact .now ⟨rfl, rfl⟩

/-- The bodies of the fields of a name. -/
def bodies (nm : List UInt8) (l : List (List UInt8 × List UInt8)) : List (List UInt8) := (l.filter fun f => f.1.map lowB = nm).map (·.2)
theorem bodies_append (nm : List UInt8) (a b : List (List UInt8 × List UInt8)) : bodies nm (a ++ b) = bodies nm a ++ bodies nm b := by simp [bodies]
theorem bodies_succ {nm : List UInt8} {l : List (List UInt8 × List UInt8)} {i : Nat} (h : i < l.length) : bodies nm l = bodies nm (l.take i) ++ ((if (l.getD i ([], [])).1.map lowB = nm then [(l.getD i ([], [])).2] else []) ++ bodies nm (l.drop (i + 1))) := by
  conv => lhs; rw [← List.take_append_drop i l, bodies_append, List.drop_eq_getElem_cons h, ← List.singleton_append, bodies_append]
  congr 2
  simp only [bodies, List.getD_eq_getElem?_getD, List.getElem?_eq_getElem h, Option.getD_some, List.filter_cons, List.filter_nil, decide_eq_true_eq]
  split <;> rfl
theorem bodies_take {nm : List UInt8} {l : List (List UInt8 × List UInt8)} {i : Nat} (h : i < l.length) : bodies nm (l.take (i + 1)) = bodies nm (l.take i) ++ (if (l.getD i ([], [])).1.map lowB = nm then [(l.getD i ([], [])).2] else []) := by
  rw [List.take_add_one, bodies_append, List.getElem?_eq_getElem h]
  congr 1
  simp only [bodies, List.getD_eq_getElem?_getD, List.getElem?_eq_getElem h, Option.getD_some, Option.toList_some, List.filter_cons, List.filter_nil, decide_eq_true_eq]
  split <;> rfl

theorem named1_t {J O : Type} {lp id1 id2 n : Nat} {G : J → Unit → List AO} {S : O → Unit → List AO} {T : Empty → Unit → List AO} {ch : Empty → List APanic} {step : J → List UInt8 → Res J O Empty} {j0 : J} (l : List (List UInt8 × List UInt8)) (nm : List UInt8) (hl : l.length ≤ 9223372036854775807) (hn : ∀ i, i < l.length → (l.getD i ([], [])).1.length ≤ 9223372036854775807)
    (hg1 : ∀ j r k, (G j r ++ k)[id1]? = some (.cells [.sl l.length (fldAV l) .ro])) (hg2 : ∀ j r k, (G j r ++ k)[id2]? = some (.cells [.str nm])) (hG : ∀ j r, (G j r).length = n) (hS : ∀ j r, (S j r).length = n) (hfG : ∀ j r, Fit n (G j r)) (hfS : ∀ j r, Fit n (S j r))
    (hlp : lp < n) (h : Rounds (env n0 w0 gl) lp (fun p => [.str p]) G S T ch step j0 (bodies nm l)) :
    AEnter (env n0 w0 gl) 95 [.yield lp, .ref id1 0, .ref id2 0] (G j0 ()) (IterEnd G S T ch (foldR step j0 (bodies nm l))) := by
  have hg1' : ∀ j r, (G j r)[id1]? = some (.cells [.sl l.length (fldAV l) .ro]) := fun j r => by have := hg1 j r []; rwa [List.append_nil] at this
  have hg2' : ∀ j r, (G j r)[id2]? = some (.cells [.str nm]) := fun j r => by have := hg2 j r []; rwa [List.append_nil] at this
  have hfl := fldAV_len l
  have hh := And.intro hg1 (And.intro hg2 (And.intro hg1' (And.intro hg2' hfl)))
  refine enter (md := fun _ => 0) Tryd.func95 (fun hfit hgl => ?_)
  repeat' (first | refine go ?_ | (refine br (fun hc => ?_) (fun hc => ?_) <;> try (exfalso; omega)) | fail)
  refine loop (fun i : J × Nat => (.yield lp :: .ref id1 0 :: .ref id2 0 :: .top :: .top :: .top :: .sl l.length (fldAV l) .ro :: .int .i64 l.length :: .int .i64 (i.2 : Int) :: .top :: .top :: .top :: .top :: .top :: .top :: .top :: .top :: .top :: .top :: .top :: .top :: .top :: .top :: .top :: .top :: [])) (fun i => G i.1 ()) (fun i => i.2 ≤ l.length ∧ foldR step j0 (bodies nm (l.take i.2)) = .go i.1) (fun i => l.length - i.2) (j0, 0) ⟨Nat.zero_le _, rfl⟩ ?_
  rintro ⟨j, i⟩ ⟨hi, h2⟩
  simp only at hi h2 ⊢
  have hg := hG j ()
  have hg0 := hG j0 ()
  have hi1 := (List.getElem?_eq_some_iff.1 (hg1' j0 ())).1
  have hi2 := (List.getElem?_eq_some_iff.1 (hg2' j0 ())).1
  have hfg : Fit (G j ()).length (G j ()) := by rw [hg]; exact hfG j ()
  by_cases hlt : i < l.length
  · have hni := hn i hlt
    have h1 := bodies_succ (nm := nm) hlt
    have h3 := bodies_take (nm := nm) hlt
    have hat := fldAV_at hlt
    by_cases hc : (l.getD i ([], [])).1.map lowB = nm
    · rw [if_pos hc] at h1 h3
      rcases hst : step j (l.getD i ([], [])).2 with j' | o | p
      · have hy := h.go () [.cells [.str (l.getD i ([], [])).1, .str (l.getD i ([], [])).2]] h1 h2 hst
        have hg' := hG j' ()
        have hfg' : Fit (G j' ()).length (G j' ()) := by rw [hg']; exact hfG j' ()
        have hh := And.intro hg1 (And.intro hg2 (And.intro hg1' (And.intro hg2' (And.intro hfl (And.intro hat hc)))))
        repeat' (first | refine go ?_ | (refine br (fun hc => ?_) (fun hc => ?_) <;> try (exfalso; omega)) | fail)
        exact again (j', i + 1) ⟨by simp only; omega, by simp only; rw [h3]; exact foldR_go h2 hst⟩ (by simp only; omega)
      · have hy := h.stop () [.cells [.str (l.getD i ([], [])).1, .str (l.getD i ([], [])).2]] h1 h2 hst
        have hg' := hS o ()
        have hfg' : Fit (S o ()).length (S o ()) := by rw [hg']; exact hfS o ()
        have hh := And.intro hg1 (And.intro hg2 (And.intro hg1' (And.intro hg2' (And.intro hfl (And.intro hat hc)))))
        repeat' (first | refine go ?_ | (refine br (fun hc => ?_) (fun hc => ?_) <;> try (exfalso; omega)) | fail)
        refine .junkd ⟨(), ?_⟩
        rw [h1]
        have := foldR_stop (post := bodies nm (l.drop (i + 1))) h2 hst
        rw [List.singleton_append, this]
        exact ⟨rfl, rfl⟩
      · nomatch p
    · have hh := And.intro hg1 (And.intro hg2 (And.intro hg1' (And.intro hg2' (And.intro hfl (And.intro hat hc)))))
      rw [if_neg hc, List.append_nil] at h3
      repeat' (first | refine go ?_ | (refine br (fun hc => ?_) (fun hc => ?_) <;> try (exfalso; omega)) | fail)
      exact again (j, i + 1) ⟨by simp only; omega, by simp only; rw [h3]; exact h2⟩ (by simp only; omega)
  · obtain rfl : i = l.length := by omega
    repeat' (first | refine go ?_ | (refine br (fun hc => ?_) (fun hc => ?_) <;> try (exfalso; omega)) | fail)
    refine .now ⟨(), ?_⟩
    rw [List.take_length] at h2
    rw [h2]
    exact ⟨rfl, rfl⟩

end Go.Ab.Tryd
