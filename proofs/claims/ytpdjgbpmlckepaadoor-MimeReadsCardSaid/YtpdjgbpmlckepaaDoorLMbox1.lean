/- Walks: lines that end with the byte 10, and marks. -/
import Derived.Test.YtpdjgbpmlckepaaDoorLConv3
import Derived.Test.YtpdjgbpmlckepaaDoorSMbox
set_option linter.unusedSimpArgs false
set_option linter.unusedVariables false
set_option maxHeartbeats 2000000
set_option maxRecDepth 4000
namespace Go.Ab.Tryd
open Go Go.Ab Go.Proofs
attribute [local irreducible] W Wl Wop TrA WSeq WLoopS FPost DPost RPost WRound DK onEnd
variable {n0 : Nat} {w0 : World} {gl : Nat → List AV} {H : List AO}
attribute [local simp] belowL_bytesAV

theorem bytesAV_hd {s : List UInt8} {i : Nat} (h : i < s.length) : (List.take 1 (bytesAV (List.drop i s))).headD .top = .int .u8 ((s.getD i 0).toNat) := by
  rw [List.drop_eq_getElem_cons h]
  show byteAV _ = _
  simp [byteAV, List.getD_eq_getElem?_getD, h]
theorem bytesAV_tl (s : List UInt8) (i : Nat) : List.drop 1 (List.take (s.length - i) (bytesAV (List.drop i s))) = bytesAV (List.drop (i + 1) s) := by
  rw [List.take_of_length_le (by simp [bytesAV])]
  simp [bytesAV]
/-- A byte that is read. -/
theorem hd_bytesAV {s : List UInt8} {i : Nat} (h : i < s.length) : (List.take 1 (List.drop i (bytesAV s))).headD .top = .int .u8 ((s.getD i 0).toNat) := by
  rw [show List.drop i (bytesAV s) = bytesAV (s.drop i) by simp [bytesAV]]; exact bytesAV_hd h
theorem toNat_plus (i k : Nat) : ((i : Int) + (no_index (OfNat.ofNat k) : Int)).toNat = i + OfNat.ofNat k := by
  show ((i : Int) + ((k : Nat) : Int)).toNat = i + k
  omega
attribute [go_sem] hd_bytesAV toNat_plus
instance bequal_t (s t : List UInt8) (n m : Nat) (tok tok2 : Tok) : Ctr (env n0 w0 gl) 41 [.sl n (bytesAV s) tok, .sl m (bytesAV t) tok2] H (s.length = n ∧ t.length = m) (.bool (decide (s = t))) H := .of fun ⟨h1, h2⟩ => by
  refine enter (md := fun _ => 0) Tryd.func41 (fun hfit hgl => ?_)
  repeat' (first | refine go ?_ | (refine br (fun hc => ?_) (fun hc => ?_) <;> try (exfalso; omega)) | fail)
  exact .now ⟨rfl, rfl⟩

theorem trimLeftByte_e (s : List UInt8) (c : UInt8) (hc : c = 62) : AEnter (env n0 w0 gl) 143 [.sl s.length (bytesAV s) .ro, .int .u8 c.toNat] H (fun y H' => y = .ret (.sl (s.length - mk s) (bytesAV (s.drop (mk s))) .ro) ∧ H' = H) := by
  refine enter (md := fun _ => 0) Tryd.func143 (fun hfit hgl => ?_)
  repeat' (first | refine go ?_ | (refine br (fun hc => ?_) (fun hc => ?_) <;> try (exfalso; omega)) | fail)
  refine loop0 (fun i : Nat => (.sl (s.length - i) (bytesAV (s.drop i)) .ro :: .int .u8 c.toNat :: .top :: .top :: .top :: .top :: .top :: .top :: .top :: .top :: .top :: .top :: .top :: .top :: .top :: .top :: .top :: .top :: .top :: .top :: .top :: [])) (fun i => i ≤ s.length ∧ ∀ k, k < i → s.getD k 0 = 62) (fun i => s.length - i) 0 ⟨Nat.zero_le _, fun k h => absurd h (Nat.not_lt_zero _)⟩ ?_
  rintro i ⟨hi, hall⟩
  have hd : (s.drop i).length = s.length - i := List.length_drop
  by_cases hlt : i < s.length
  · have hg := bytesAV_hd hlt
    have ht := bytesAV_tl s i
    have hl : s.length - i - 1 = s.length - (i + 1) := by omega
    have hh := And.intro hd (And.intro hg (And.intro ht hl))
    subst hc
    repeat' (first | refine go ?_ | (refine br (fun hc => ?_) (fun hc => ?_) <;> try (exfalso; omega)) | fail)
    · refine again (i + 1) ⟨by omega, fun k hk => ?_⟩ (by omega)
      rcases Nat.lt_succ_iff_lt_or_eq.1 hk with h | h
      · exact hall k h
      · subst h; exact UInt8.toNat_inj.1 (by have : (62 : UInt8).toNat = 62 := rfl; omega)
    · have hm : mk s = i := mk_unique hall (by omega) (fun _ e => by have : (62 : UInt8).toNat = 62 := rfl; have h2 := congrArg UInt8.toNat e; omega)
      rw [hm]
      exact .now ⟨rfl, rfl⟩
  · repeat' (first | refine go ?_ | (refine br (fun hc => ?_) (fun hc => ?_) <;> try (exfalso; omega)) | fail)
    obtain rfl : i = s.length := by omega
    have : mk s = s.length := mk_unique hall (Nat.le_refl _) (fun h => absurd h (Nat.lt_irrefl _))
    refine Out.weak (fun g c h => sl_ro g c h) (.now ⟨?_, rfl⟩)
    rw [this]; simp [bytesAV]
instance trimLeftByte_t (s : List UInt8) : Ctr (env n0 w0 gl) 143 [.sl s.length (bytesAV s) .ro, .int .u8 62] H True (.sl (s.length - mk s) (bytesAV (s.drop (mk s))) .ro) H := .of fun _ => trimLeftByte_e s 62 rfl

instance trimLeft_t (s : List UInt8) : Ctr (env n0 w0 gl) 113 [.sl s.length (bytesAV s) .ro, .str [62]] H True (.sl (s.length - mk s) (bytesAV (s.drop (mk s))) .ro) H := .of fun _ => by
  have hh : UInt8.toNat 62 = 62 := rfl
  refine enter (md := fun _ => 0) Tryd.func113 (fun hfit hgl => ?_)
  repeat' (first | refine go ?_ | (refine br (fun hc => ?_) (fun hc => ?_) <;> try (exfalso; omega)) | fail)
  · obtain rfl : s = [] := List.length_eq_zero_iff.1 (by omega)
    refine Out.weak (fun g c h => sl_ro g c h) (.now ⟨?_, rfl⟩)
    rfl
  · exact .now ⟨rfl, rfl⟩

theorem take5 (s : List UInt8) : List.take 5 (bytesAV s) = bytesAV (s.take 5) := by simp [bytesAV]
theorem ite_same {α : Type} (p : Prop) [Decidable p] (a : α) : (if p then a else a) = a := by split <;> rfl
instance hasPrefix_t (s : List UInt8) (n : Nat) : Ctr (env n0 w0 gl) 108 [.sl n (bytesAV s) .ro, .sl 5 [.int .u8 70, .int .u8 114, .int .u8 111, .int .u8 109, .int .u8 32] .ro] H (s.length = n) (.bool (decide (s.take 5 = fromB))) H := .of fun hn => by
  subst hn
  have e : [.int .u8 70, .int .u8 114, .int .u8 111, .int .u8 109, .int .u8 32] = bytesAV fromB := rfl
  rw [e]
  refine enter (md := fun _ => 0) Tryd.func108 (fun hfit hgl => ?_)
  have h5 : fromB.length = 5 := rfl
  by_cases hl : 5 ≤ s.length
  · have h6 : (s.take 5).length = 5 := by rw [List.length_take]; omega
    have hh := And.intro h5 (And.intro (take5 s) (And.intro (ite_same (5 = s.length) Tok.ro) h6))
    repeat' (first | refine go ?_ | (refine br (fun hc => ?_) (fun hc => ?_) <;> try (exfalso; omega)) | fail)
    exact .now ⟨rfl, rfl⟩
  · have hh := h5
    repeat' (first | refine go ?_ | (refine br (fun hc => ?_) (fun hc => ?_) <;> try (exfalso; omega)) | fail)
    refine .now ⟨?_, rfl⟩
    rw [decide_eq_false]
    intro h; have := congrArg List.length h
    rw [List.length_take, h5] at this; omega

instance begins_t (s : List UInt8) : Ctr (env n0 w0 gl) 72 [.sl s.length (bytesAV s) .ro] H (s.length ≤ 9223372036854775807) (.tup [.int .i64 (mk s), .bool (tf (Bg s))]) H := .of fun hs => by
  refine enter (md := fun t => if t = 13 then 2 else 0) Tryd.func72 (fun hfit hgl => ?_)
  have hm := mk_le s
  have hl : (s.drop (mk s)).length = s.length - mk s := List.length_drop
  have hh := And.intro hm hl
  repeat' (first | refine go ?_ | (refine br (fun hc => ?_) (fun hc => ?_) <;> try (exfalso; omega)) | fail)
  refine .junkd ⟨?_, rfl⟩
  have e : ((s.length : Int) - ((s.length - mk s : Nat) : Int)) = (mk s : Int) := by omega
  have e2 : tf (Bg s) = decide ((s.drop (mk s)).take 5 = fromB) := by rw [tf_decide]; rfl
  rw [e2, e]

instance bIndexByte10_t (s : List UInt8) (tok : Tok) : Ctr (env n0 w0 gl) 86 [.sl s.length (bytesAV s) tok, .int .u8 10] H True (.int .i64 (Lib.indexByte s 10)) H := bIndexByte_t s tok 10

instance mlines_t (n : Nat) (xs : List AV) : Ctr (env n0 w0 gl) 71 [.sl n xs .ro] H True (.fn 112 [] [.ref H.length 0]) (H ++ [.cells [.sl n xs .ro]]) := .of fun _ => by
  refine enter (md := fun _ => 0) Tryd.func71 (fun hfit hgl => ?_)
  repeat' (first | refine go ?_ | (refine br (fun hc => ?_) (fun hc => ?_) <;> try (exfalso; omega)) | fail)
  exact .now ⟨rfl, rfl⟩

theorem mlines1_t {J O P : Type} {lp id n : Nat} {G : J → List UInt8 → List AO} {S : O → List UInt8 → List AO} {T : P → List UInt8 → List AO} {ch : P → List APanic} {step : J → List UInt8 → Res J O P} {j0 : J} (s : List UInt8) (hlp : lp < n) (hs : s.length ≤ 9223372036854775806)
    (hg : ∀ j r k, (G j r ++ k)[id]? = some (.cells [.sl r.length (bytesAV r) .ro])) (hset : ∀ j r r', (G j r).set id (.cells [.sl r'.length (bytesAV r') .ro]) = G j r') (hG : ∀ j r, (G j r).length = n) (hfG : ∀ j r, Fit n (G j r))
    (h : Rounds (env n0 w0 gl) lp (fun x => [.sl x.length (bytesAV x) .ro]) G S T ch step j0 (lns s)) :
    AEnter (env n0 w0 gl) 112 [.yield lp, .ref id 0] (G j0 s) (IterEnd G S T ch (foldR step j0 (lns s))) := by
  have hg' : ∀ j r, (G j r)[id]? = some (.cells [.sl r.length (bytesAV r) .ro]) := fun j r => by have := hg j r []; rwa [List.append_nil] at this
  have hh := And.intro hg (And.intro hg' hset)
  refine enter (md := fun _ => 0) Tryd.func112 (fun hfit hgl => ?_)
  repeat' (first | refine go ?_ | (refine br (fun hc => ?_) (fun hc => ?_) <;> try (exfalso; omega)) | fail)
  refine loop (fun i : J × List (List UInt8) × List UInt8 => (.yield lp :: .ref id 0 :: .top :: .top :: .top :: .top :: .top :: .top :: .top :: .top :: .top :: .top :: .top :: .top :: .top :: .top :: .top :: .top :: .top :: .top :: .top :: .top :: .top :: [])) (fun i => G i.1 i.2.2) (fun i => lns s = i.2.1 ++ lns i.2.2 ∧ foldR step j0 i.2.1 = .go i.1 ∧ i.2.2.length ≤ s.length) (fun i => i.2.2.length) (j0, [], s) ⟨rfl, rfl, Nat.le_refl _⟩ ?_
  rintro ⟨j, pre, r⟩ ⟨h1, h2, h3⟩
  simp only at h1 h2 h3 ⊢
  have hn := hG j r
  have hn0 := hG j0 s
  have hi1 := (List.getElem?_eq_some_iff.1 (hg' j0 s)).1
  have hfg : Fit (G j r).length (G j r) := by rw [hn]; exact hfG j r
  by_cases h0 : r = []
  · subst h0
    have h1' : lns s = pre := by rw [h1]; simp [lns]
    rw [h1', h2]
    repeat' (first | refine go ?_ | (refine br (fun hc => ?_) (fun hc => ?_) <;> try (exfalso; omega)) | fail)
    exact .now ⟨[], rfl, rfl⟩
  · have hl0 : 0 < r.length := List.length_pos_iff.2 h0
    rcases cutAt_idx 10 r with ⟨hi, hc⟩ | ⟨k, hk, hi, hc⟩
    · have hx := lns_none hc h0
      rw [hx] at h1
      have htk : List.take r.length (bytesAV r) = bytesAV r := List.take_of_length_le (Nat.le_of_eq (bytesAV_len r))
      have hdr : List.drop r.length (bytesAV r) = [] := List.drop_eq_nil_of_le (Nat.le_of_eq (bytesAV_len r))
      have hl1 : r.length - r.length = 0 := Nat.sub_self _
      have hset0 : ∀ j r, (G j r).set id (.cells [.sl 0 [] .ro]) = G j [] := fun j r => hset j r []
      rcases hst : step j r with j' | o | p
      · have hy := h.go0 r h1 h2 hst
        have hh := And.intro hi (And.intro hg (And.intro hg' (And.intro hset0 (And.intro htk (And.intro (Nat.sub_zero r.length) (And.intro hdr hl1))))))
        repeat' (first | refine go ?_ | (refine br (fun hc => ?_) (fun hc => ?_) <;> try (exfalso; omega)) | fail)
        exact again (j', pre ++ [r], []) ⟨by rw [h1]; simp [lns], foldR_go h2 hst, by simp⟩ (by simpa using hl0)
      · have hy := h.stop0 r h1 h2 hst
        have hh := And.intro hi (And.intro hg (And.intro hg' (And.intro hset (And.intro htk (Nat.sub_zero r.length)))))
        repeat' (first | refine go ?_ | (refine br (fun hc => ?_) (fun hc => ?_) <;> try (exfalso; omega)) | fail)
        refine .now ⟨r, ?_⟩
        rw [h1, foldR_stop h2 hst]
        exact ⟨rfl, rfl⟩
      · have hy := h.die0 r h1 h2 hst
        have hh := And.intro hi (And.intro hg (And.intro hg' (And.intro hset (And.intro htk (Nat.sub_zero r.length)))))
        repeat' (first | refine go ?_ | (refine br (fun hc => ?_) (fun hc => ?_) <;> try (exfalso; omega)) | fail)
        refine .now ⟨r, ?_⟩
        rw [h1, foldR_die h2 hst]
        exact ⟨rfl, rfl⟩
    · have hx := lns_some hc
      have e1 : r.take k ++ [10] = r.take (k + 1) := by
        have := cutAt_eq hc
        have e2 : r.take (k + 1) = r.take k ++ [r[k]'hk] := by rw [List.take_succ_eq_append_getElem hk]
        rw [e2]
        have e3 : r[k]'hk = 10 := by
          have h4 : r[k]? = (r.take k ++ 10 :: r.drop (k + 1))[k]? := congrArg (fun l => l[k]?) this
          rw [List.getElem?_append_right (by rw [List.length_take]; omega), List.getElem?_eq_getElem hk] at h4
          have e5 : k - (r.take k).length = 0 := by rw [List.length_take]; omega
          rw [e5] at h4
          simpa using h4
        rw [e3]
      rw [e1] at hx
      rw [hx] at h1
      have hlx : (r.take (k + 1)).length = k + 1 := by rw [List.length_take]; omega
      have hly : (r.drop (k + 1)).length = r.length - (k + 1) := List.length_drop
      have htk : List.take (k + 1) (bytesAV r) = bytesAV (r.take (k + 1)) := by simp [bytesAV]
      have htk2 : List.take r.length (bytesAV r) = bytesAV r := List.take_of_length_le (Nat.le_of_eq (bytesAV_len r))
      have hdr : List.drop (k + 1) (bytesAV r) = bytesAV (r.drop (k + 1)) := by simp [bytesAV]
      have hst2 := ite_same (k + 1 = r.length) Tok.ro
      have hset1 : ∀ j, (G j r).set id (.cells [.sl (r.length - (k + 1)) (bytesAV (r.drop (k + 1))) .ro]) = G j (r.drop (k + 1)) := fun j => by have := hset j r (r.drop (k + 1)); rwa [hly] at this
      rcases hst : step j (r.take (k + 1)) with j' | o | p
      · have hy := h.go0 r h1 h2 hst
        rw [hlx] at hy
        have hh := And.intro hi (And.intro hg (And.intro hg' (And.intro hset1 (And.intro htk (And.intro (Nat.sub_zero (k + 1)) (And.intro hdr (And.intro hst2 htk2)))))))
        repeat' (first | refine go ?_ | (refine br (fun hc => ?_) (fun hc => ?_) <;> try (exfalso; omega)) | fail)
        exact again (j', pre ++ [r.take (k + 1)], r.drop (k + 1)) ⟨by rw [h1]; simp, foldR_go h2 hst, by rw [hly]; omega⟩ (by simp only [hly]; omega)
      · have hy := h.stop0 r h1 h2 hst
        rw [hlx] at hy
        have hh := And.intro hi (And.intro hg (And.intro hg' (And.intro hset1 (And.intro htk (And.intro (Nat.sub_zero (k + 1)) (And.intro hdr (And.intro hst2 htk2)))))))
        repeat' (first | refine go ?_ | (refine br (fun hc => ?_) (fun hc => ?_) <;> try (exfalso; omega)) | fail)
        refine .now ⟨r, ?_⟩
        rw [h1, foldR_stop h2 hst]
        exact ⟨rfl, rfl⟩
      · have hy := h.die0 r h1 h2 hst
        rw [hlx] at hy
        have hh := And.intro hi (And.intro hg (And.intro hg' (And.intro hset1 (And.intro htk (And.intro (Nat.sub_zero (k + 1)) (And.intro hdr (And.intro hst2 htk2)))))))
        repeat' (first | refine go ?_ | (refine br (fun hc => ?_) (fun hc => ?_) <;> try (exfalso; omega)) | fail)
        refine .now ⟨r, ?_⟩
        rw [h1, foldR_die h2 hst]
        exact ⟨rfl, rfl⟩
end Go.Ab.Tryd
