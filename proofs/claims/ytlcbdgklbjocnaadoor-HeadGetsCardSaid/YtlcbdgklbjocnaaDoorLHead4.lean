/- Walks: lines. -/
import Derived.Test.YtlcbdgklbjocnaaDoorLHead1
import Derived.Test.YtlcbdgklbjocnaaDoorSHead
import Derived.Test.YtlcbdgklbjocnaaDoorShHead
set_option linter.unusedSimpArgs false
set_option linter.unusedVariables false
set_option maxHeartbeats 2000000
set_option maxRecDepth 4000
namespace Go.Ab.Tryd
open Go Go.Ab Go.Proofs
attribute [local irreducible] W Wl Wop TrA WSeq WLoopS FPost DPost RPost WRound DK onEnd
variable {n0 : Nat} {w0 : World} {gl : Nat → List AV} {H : List AO}

attribute [local simp] belowL_bytesAV

theorem bytesOf_ints (s : List UInt8) : Lib.bytesOf (s.map fun b => (b.toNat : Int)) = s := by
  unfold Lib.bytesOf
  rw [List.map_map]
  conv => rhs; rw [← List.map_id s]
  exact List.map_congr_left fun b _ => by simp

theorem addr_add (b o i : Nat) : (⟨b, o, none⟩ : Addr).add i = ⟨b, o + i, none⟩ := by
  unfold Addr.add
  split
  · rename_i h; subst h; rfl
  · rfl

instance index_t [hml : GLInt gl 0] (s : List UInt8) (tok : Tok) : Ctr (env n0 w0 gl) 126 [.sl s.length (bytesAV s) tok, .sl 2 [.int .u8 13, .int .u8 10] .ro] H (s.length < 4294967281) (.int .i64 (Lib.index s [13, 10])) H := .of fun hs =>
  AEnter.of_calls (fn := Tryd.f126) Tryd.func126 rfl rfl fun g w cs hr hv => by
    obtain ⟨c, d, rfl, h1, h2⟩ := rels2 hv
    rcases sl_bytes (s := [13, 10]) hr h2 rfl with ⟨_, h⟩ | ⟨b2, o2, c2, rfl, hc2, hcell2⟩
    · simp at h
    rcases sl_bytes hr h1 rfl with ⟨rfl, rfl⟩ | ⟨b1, o1, c1, rfl, hc1, hcell1⟩
    · refine (Tryd.bytes_Index_nil _ 2 c2 w (by omega) (by omega)).mono ?_
      rintro e w' ⟨rfl, rfl⟩
      exact econc_same hr (.int _ _)
    · obtain ⟨m, hm⟩ := hml.ex
      obtain ⟨v, hv1, hv2⟩ := gl_cell hr 0 (l := [.int .i64 m]) hm 0 (by simp)
      have hv3 := hv2.int_inv
      subst hv3
      refine (Any.bytes_Index_at { Tryd.laysM185 with } ⟨b1, o1, none⟩ ⟨b2, o2, none⟩ s.length c1 2 c2 (s.map fun b => (b.toNat : Int)) [13, 10] m w (by simp) rfl ?_ (by simp) ?_ ?_ hc1 hs (by omega) hv1).mono ?_
      · intro x hx
        obtain ⟨b, _, rfl⟩ := List.mem_map.1 hx
        have := b.toNat_lt
        omega
      · intro i hi
        have := hcell1 i hi
        rw [addr_add, this]
        simp [List.getD_eq_getElem?_getD, hi]
      · intro i hi
        have := hcell2 i hi
        rw [addr_add, this]
        match i, hi with
        | 0, _ => rfl
        | 1, _ => rfl
      · rintro e w' ⟨rfl, q, rfl⟩
        rw [bytesOf_ints]
        exact econc_ret hr ((RowKit.Below.refl _ _).trans ⟨rfl, rfl, rfl, Nat.le_refl _, fun _ _ => rfl⟩) (.int _ _)

theorem bytesAV_take (s : List UInt8) (k : Nat) : (bytesAV s).take k = bytesAV (s.take k) := by simp [bytesAV]
theorem bytesAV_drop (s : List UInt8) (k : Nat) : (bytesAV s).drop k = bytesAV (s.drop k) := by simp [bytesAV]

/-- What a cut hands back. -/
def cutL (s : List UInt8) : AV := match crlfAt s with
  | some (x, y) => .tup [.sl x.length (bytesAV x) .ro, .sl y.length (bytesAV y) .ro, .bool true]
  | none => .tup [.sl s.length (bytesAV s) .ro, .sl 0 [] .full, .bool false]

instance bcut_t [hml : GLInt gl 0] (s : List UInt8) : Ctr (env n0 w0 gl) 109 [.sl s.length (bytesAV s) .ro, .sl 2 [.int .u8 13, .int .u8 10] .ro] H (s.length < 4294967281) (cutL s) H := .of fun hs => by
  unfold cutL
  refine enter (md := fun _ => 0) Tryd.func109 (fun hfit hgl => ?_)
  rcases crlfAt_idx s with ⟨hh, h2⟩ | ⟨k, hk, hh, h2⟩ <;> rw [h2]
  · repeat' (first | refine go ?_ | (refine br (fun hc => ?_) (fun hc => ?_) <;> try (exfalso; omega)) | fail)
    exact .now ⟨rfl, rfl⟩
  · repeat' (first | refine go ?_ | (refine br (fun hc => ?_) (fun hc => ?_) <;> try (exfalso; omega)) | fail)
    refine .now ⟨?_, rfl⟩
    have e : ((k : Int) + 2).toNat = k + 2 := by omega
    simp [bytesAV_take, bytesAV_drop, e, Nat.min_eq_left (show k ≤ s.length by omega)]

instance lines_t (n : Nat) (xs : List AV) : Ctr (env n0 w0 gl) 84 [.sl n xs .ro] H True (.fn 108 [] [.ref H.length 0]) (H ++ [.cells [.sl n xs .ro]]) := .of fun _ => by
  refine enter (md := fun _ => 0) Tryd.func84 (fun hfit hgl => ?_)
  repeat' (first | refine go ?_ | (refine br (fun hc => ?_) (fun hc => ?_) <;> try (exfalso; omega)) | fail)
  exact .now ⟨rfl, rfl⟩

theorem lines1_t [hml : GLInt gl 0] {J O P : Type} {lp id n : Nat} {G : J → List UInt8 → List AO} {S : O → List UInt8 → List AO} {T : P → List UInt8 → List AO} {ch : P → List APanic} {step : J → List UInt8 → Res J O P} {j0 : J} (s : List UInt8) (hs : s.length < 4294967281) (hlp : lp < n)
    (hg : ∀ j r k, (G j r ++ k)[id]? = some (.cells [.sl r.length (bytesAV r) .ro])) (hset : ∀ j r r', (G j r).set id (.cells [.sl r'.length (bytesAV r') .ro]) = G j r') (hG : ∀ j r, (G j r).length = n) (hfG : ∀ j r, Fit n (G j r))
    (h : Rounds (env n0 w0 gl) lp (fun p => [.str p]) G S T ch step j0 (linesOf s)) :
    AEnter (env n0 w0 gl) 108 [.yield lp, .ref id 0] (G j0 s) (IterEnd G S T ch (foldR step j0 (linesOf s))) := by
  have hg' : ∀ j r, (G j r)[id]? = some (.cells [.sl r.length (bytesAV r) .ro]) := fun j r => by have := hg j r []; rwa [List.append_nil] at this
  have hh := And.intro hg (And.intro hg' hset)
  refine enter (md := fun t => if t = 8 then 2 else 0) Tryd.func108 (fun hfit hgl => ?_)
  repeat' (first | refine go ?_ | (refine br (fun hc => ?_) (fun hc => ?_) <;> try (exfalso; omega)) | fail)
  refine loop (fun i : J × List (List UInt8) × List UInt8 => (.yield lp :: .ref id 0 :: .top :: .top :: .top :: .top :: .top :: .top :: .top :: .top :: .top :: .top :: .top :: .top :: .top :: .top :: .top :: .top :: .top :: .top :: .top :: .top :: .top :: .top :: [])) (fun i => G i.1 i.2.2) (fun i => linesOf s = i.2.1 ++ linesOf i.2.2 ∧ foldR step j0 i.2.1 = .go i.1 ∧ i.2.2.length ≤ s.length) (fun i => i.2.2.length) (j0, [], s) ⟨rfl, rfl, Nat.le_refl _⟩ ?_
  rintro ⟨j, pre, r⟩ ⟨h1, h2, h3⟩
  simp only at h1 h2 h3 ⊢
  have hn := hG j r
  have hn0 := hG j0 s
  have hi1 := (List.getElem?_eq_some_iff.1 (hg' j0 s)).1
  have hfg : Fit (G j r).length (G j r) := by rw [hn]; exact hfG j r
  rcases hc : crlfAt r with _ | ⟨x, y⟩
  · have hv : cutL r = .tup [.sl r.length (bytesAV r) .ro, .sl 0 [] .full, .bool false] := by simp only [cutL, hc]
    have hh := And.intro hv (And.intro hg (And.intro hg' hset))
    rw [linesOf_none hc, List.append_nil] at h1
    rw [h1, h2]
    refine gos ?_
    refine cutTo [8] ?_
    repeat' (first | refine go ?_ | (refine br (fun hc => ?_) (fun hc => ?_) <;> try (exfalso; omega)) | fail)
    exact .now ⟨r, rfl, rfl⟩
  · have hv : cutL r = .tup [.sl x.length (bytesAV x) .ro, .sl y.length (bytesAV y) .ro, .bool true] := by simp only [cutL, hc]
    have hh := And.intro hv (And.intro hg (And.intro hg' hset))
    have hl := crlfAt_len hc
    rw [linesOf_some hc] at h1
    refine gos ?_
    refine cutTo [8] ?_
    rcases hst : step j x with j' | o | p
    · have hy := h.go0 r h1 h2 hst
      repeat' (first | refine go ?_ | (refine br (fun hc => ?_) (fun hc => ?_) <;> try (exfalso; omega)) | fail)
      exact again (j', pre ++ [x], y) ⟨by rw [h1]; simp, foldR_go h2 hst, by simp only; omega⟩ (by simp only; omega)
    · have hy := h.stop0 r h1 h2 hst
      repeat' (first | refine go ?_ | (refine br (fun hc => ?_) (fun hc => ?_) <;> try (exfalso; omega)) | fail)
      refine .now ⟨r, ?_⟩
      rw [h1, foldR_stop h2 hst]
      exact ⟨rfl, rfl⟩
    · have hy := h.die0 r h1 h2 hst
      repeat' (first | refine go ?_ | (refine br (fun hc => ?_) (fun hc => ?_) <;> try (exfalso; omega)) | fail)
      refine .now ⟨r, ?_⟩
      rw [h1, foldR_die h2 hst]
      exact ⟨rfl, rfl⟩

end Go.Ab.Tryd
