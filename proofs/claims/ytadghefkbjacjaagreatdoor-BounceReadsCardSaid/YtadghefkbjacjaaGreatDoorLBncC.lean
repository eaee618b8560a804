/- Walks: Atoi of any text. -/
import Derived.Test.YtadghefkbjacjaaGreatDoorShAtoi
import Derived.Test.YtadghefkbjacjaaGreatDoorLErrA
import Derived.Lib.AtoiAllCases
import Derived.Test.YtadghefkbjacjaaGreatDoorLBncB
import Derived.Test.YtadghefkbjacjaaGreatDoorLRefB
import Derived.Shelf.Bytes.SlEqualAll
import Derived.Test.YtadghefkbjacjaaGreatDoorProg
import Derived.Test.YtadghefkbjacjaaGreatDoorAbTryz
import Derived.Test.YtadghefkbjacjaaGreatDoorLConvA
import Derived.Test.YtadghefkbjacjaaGreatDoorLHeadA
section
set_option linter.unusedSimpArgs false
set_option linter.unusedVariables false
set_option maxHeartbeats 4000000
set_option maxRecDepth 10000
namespace Go.Ab.Tryz
open Go Go.Ab Go.Proofs
attribute [local irreducible] W Wl Wop TrA WSeq WLoopS FPost DPost RPost WRound DK onEnd
variable {n0 : Nat} {w0 : World} {gl : Nat → List AV} {H : List AO}

/-- What Atoi answers at any text. -/
noncomputable def atoiV (s : List UInt8) : AV := match Lib.atoiAll s with
  | .ok n => .tup [.int .i64 n, .nili]
  | .range => .tup [.int .i64 (Lib.atoiSat s), .iface 275 .top]
  | _ => .tup [.int .i64 0, .iface 275 .top]

theorem atoi_any [he : Errs n0 w0] (s : List UInt8) : Ctr (env n0 w0 gl) 86 [.str s] H (s.length ≤ 281474976710656) (atoiV s) H := .of fun hs =>
  AEnter.of_calls (fn := Tryz.f86) Tryz.func86 rfl rfl fun g w cs hr hv => by
    obtain ⟨c, rfl, h1⟩ := rels1 hv
    have := h1.str_inv; subst this
    have hsz : (⟨s.toArray⟩ : ByteArray).size ≤ 281474976710656 := by
      show s.toArray.size ≤ _
      rw [List.size_toArray]; omega
    obtain ⟨e1, q1, q2⟩ := he.one w hr.below
    obtain ⟨e2, q3, q4⟩ := he.two w hr.below
    unfold atoiV
    rcases hq : Lib.atoiAll s with v | _ | _
    · have hrel : VRel g (.tup [.int .i64 v, .nili]) (.tuple #[.int .i64 v, .nilIface]) := .tup _ _ rfl (fun i => match i with | 0 => .int _ _ | 1 => .nili | _ + 2 => .top _)
      refine (Any.strconv_Atoi_ok Tryz.laysC172 ⟨s.toArray⟩ (by omega) v (by simpa using hq) w).mono ?_
      rintro e w' ⟨rfl, rfl | ⟨t, rfl⟩⟩
      · exact econc_same hr hrel
      · exact econc_ret hr (Lib.bytesWorld_below w _ t) hrel
    · first
        | (refine (Any.strconv_Atoi_syntax Tryz.laysC172 ⟨s.toArray⟩ hsz (by simpa using hq) e1 w q1 q2).mono ?_
           rintro e w' ⟨N, rfl, _, _, hb⟩
           exact econc_ret hr hb (.tup _ _ rfl (fun i => match i with | 0 => .int _ _ | 1 => .iface _ _ _ (.top _) | _ + 2 => .top _)))
        | (refine (Any.strconv_Atoi_range Tryz.laysC172 ⟨s.toArray⟩ hsz (by simpa using hq) e2 w q3 q4).mono ?_
           rintro e w' ⟨N, rfl, _, _, hb⟩
           exact econc_ret hr hb (.tup _ _ rfl (fun i => match i with | 0 => .int _ _ | 1 => .iface _ _ _ (.top _) | _ + 2 => .top _)))
    · first
        | (refine (Any.strconv_Atoi_range Tryz.laysC172 ⟨s.toArray⟩ hsz (by simpa using hq) e2 w q3 q4).mono ?_
           rintro e w' ⟨N, rfl, _, _, hb⟩
           exact econc_ret hr hb (.tup _ _ rfl (fun i => match i with | 0 => .int _ _ | 1 => .iface _ _ _ (.top _) | _ + 2 => .top _)))
        | (refine (Any.strconv_Atoi_syntax Tryz.laysC172 ⟨s.toArray⟩ hsz (by simpa using hq) e1 w q1 q2).mono ?_
           rintro e w' ⟨N, rfl, _, _, hb⟩
           exact econc_ret hr hb (.tup _ _ rfl (fun i => match i with | 0 => .int _ _ | 1 => .iface _ _ _ (.top _) | _ + 2 => .top _)))

end Go.Ab.Tryz

end

section
set_option linter.unusedSimpArgs false
set_option linter.unusedVariables false
set_option maxHeartbeats 4000000
set_option maxRecDepth 10000
namespace Go.Ab.Tryz
open Go Go.Ab Go.Proofs
attribute [local irreducible] W Wl Wop TrA WSeq WLoopS FPost DPost RPost WRound DK onEnd
attribute [local simp] belowL_bytesAV
variable {n0 : Nat} {w0 : World} {gl : Nat → List AV} {H : List AO}

/-- What a cut hands back. -/
def cutR (s : List UInt8) : AV := match crlfAt s with
  | some (x, y) => .tup [.sl x.length (bytesAV x) .ro, .sl y.length (bytesAV y) .ro, .bool true]
  | none => .tup [.sl s.length (bytesAV s) .ro, .sl 0 [] .ro, .bool false]
theorem bcutR_e [hml : GLInt gl 0] (s : List UInt8) (hs : s.length < 4294967281) : AEnter (env n0 w0 gl) 153 [.sl s.length (bytesAV s) .ro, .sl 2 [.int .u8 13, .int .u8 10] .ro] H (fun y H' => y = .ret (cutR s) ∧ H' = H) := by
  unfold cutR
  refine enter (md := fun _ => 0) Tryz.func153 (fun hfit hgl => ?_)
  rcases crlfAt_idx s with ⟨hh, h2⟩ | ⟨k, hk, hh, h2⟩ <;> rw [h2]
  · repeat' (first | refine go ?_ | (refine br (fun hc => ?_) (fun hc => ?_) <;> try (exfalso; omega)) | fail)
    refine .weak (b := .tup [.sl s.length (bytesAV s) .ro, .sl 0 [] .ro, .bool false]) (fun g c h => tupW (ys := [.sl s.length (bytesAV s) .ro, .sl 0 [] .ro, .bool false]) (by rfl) (fun i c h => by match i, h with
      | 0, h => exact h
      | 1, h => exact sl_ro g _ h
      | 2, h => exact h
      | _ + 3, _ => exact .top _) h) (.now ⟨rfl, rfl⟩)
  · repeat' (first | refine go ?_ | (refine br (fun hc => ?_) (fun hc => ?_) <;> try (exfalso; omega)) | fail)
    refine .now ⟨?_, rfl⟩
    have e : ((k : Int) + 2).toNat = k + 2 := by omega
    simp [bytesAV_take, bytesAV_drop, e, Nat.min_eq_left (show k ≤ s.length by omega)]

instance blines_t (n : Nat) (xs : List AV) : Ctr (env n0 w0 gl) 84 [.sl n xs .ro] H True (.fn 152 [] [.ref H.length 0]) (H ++ [.cells [.sl n xs .ro]]) := .of fun _ => by
  refine enter (md := fun _ => 0) Tryz.func84 (fun hfit hgl => ?_)
  repeat' (first | refine go ?_ | (refine br (fun hc => ?_) (fun hc => ?_) <;> try (exfalso; omega)) | fail)
  exact .now ⟨rfl, rfl⟩

theorem lns2_nil : lns2 [] = [] := by rw [lns2_none rfl]; rfl
theorem blines1_t [hml : GLInt gl 0] {J O P : Type} {lp id n : Nat} {G : J → List UInt8 → List AO} {S : O → List UInt8 → List AO} {T : P → List UInt8 → List AO} {ch : P → List APanic} {step : J → List UInt8 × Bool → Res J O P} {j0 : J} (s : List UInt8) (hs : s.length < 4294967281) (hlp : lp < n)
    (hg : ∀ j r k, (G j r ++ k)[id]? = some (.cells [.sl r.length (bytesAV r) .ro])) (hset : ∀ j r r', (G j r).set id (.cells [.sl r'.length (bytesAV r') .ro]) = G j r') (hG : ∀ j r, (G j r).length = n) (hfG : ∀ j r, Fit n (G j r))
    (h : Rounds (env n0 w0 gl) lp (fun p => [.str p.1, .bool p.2]) G S T ch step j0 (lns2 s)) :
    AEnter (env n0 w0 gl) 152 [.yield lp, .ref id 0] (G j0 s) (IterEnd G S T ch (foldR step j0 (lns2 s))) := by
  have hg' : ∀ j r, (G j r)[id]? = some (.cells [.sl r.length (bytesAV r) .ro]) := fun j r => by have := hg j r []; rwa [List.append_nil] at this
  have hh := And.intro hg (And.intro hg' hset)
  refine enter (md := fun t => if t = 11 then 2 else 0) Tryz.func152 (fun hfit hgl => ?_)
  repeat' (first | refine go ?_ | (refine br (fun hc => ?_) (fun hc => ?_) <;> try (exfalso; omega)) | fail)
  refine loop (fun i : J × List (List UInt8 × Bool) × List UInt8 => (.yield lp :: .ref id 0 :: .top :: .top :: .top :: .top :: .top :: .top :: .top :: .top :: .top :: .top :: .top :: .top :: .top :: .top :: .top :: .top :: .top :: .top :: .top :: .top :: .top :: .top :: [])) (fun i => G i.1 i.2.2) (fun i => lns2 s = i.2.1 ++ lns2 i.2.2 ∧ foldR step j0 i.2.1 = .go i.1 ∧ i.2.2.length ≤ s.length) (fun i => i.2.2.length) (j0, [], s) ⟨rfl, rfl, Nat.le_refl _⟩ ?_
  rintro ⟨j, pre, r⟩ ⟨h1, h2, h3⟩
  simp only at h1 h2 h3 ⊢
  have hn := hG j r
  have hn0 := hG j0 s
  have hi1 := (List.getElem?_eq_some_iff.1 (hg' j0 s)).1
  have hfg : Fit (G j r).length (G j r) := by rw [hn]; exact hfG j r
  have hcut : ∀ H, Ctr (env n0 w0 gl) 153 [.sl r.length (bytesAV r) .ro, .sl 2 [.int .u8 13, .int .u8 10] .ro] H True (cutR r) H := fun H => .of fun _ => bcutR_e r (by omega)
  by_cases h0 : r = []
  · subst h0
    rw [lns2_nil, List.append_nil] at h1
    rw [h1, h2]
    repeat' (first | refine go ?_ | (refine br (fun hc => ?_) (fun hc => ?_) <;> try (exfalso; omega)) | fail)
    exact .now ⟨[], rfl, rfl⟩
  · have hl0 : 0 < r.length := List.length_pos_iff.2 h0
    rcases hc : crlfAt r with _ | ⟨x, y⟩
    · have hv : cutR r = .tup [.sl r.length (bytesAV r) .ro, .sl 0 [] .ro, .bool false] := by simp only [cutR, hc]
      rw [hv] at hcut
      have hset0 : ∀ j r, (G j r).set id (.cells [.sl 0 [] .ro]) = G j [] := fun j r => hset j r []
      have hh := And.intro hg (And.intro hg' hset0)
      rw [lns2_none hc, if_neg h0] at h1
      refine gos ?_
      refine wseq_normal ?_
      refine gos ?_
      refine wseq_normal ?_
      refine gos ?_
      refine cutTo [11] ?_
      rcases hst : step j (r, false) with j' | o | p
      · have hy := h.go0 r h1 h2 hst
        repeat' (first | refine go ?_ | (refine br (fun hc => ?_) (fun hc => ?_) <;> try (exfalso; omega)) | fail)
        exact again (j', pre ++ [(r, false)], []) ⟨by rw [h1, lns2_nil]; simp, foldR_go h2 hst, by simp⟩ (by simpa using hl0)
      · have hy := h.stop0 r h1 h2 hst
        repeat' (first | refine go ?_ | (refine br (fun hc => ?_) (fun hc => ?_) <;> try (exfalso; omega)) | fail)
        refine .now ⟨r, ?_⟩
        rw [h1, foldR_stop h2 hst]
        exact ⟨rfl, rfl⟩
      · have hy := h.die0 r h1 h2 hst
        repeat' (first | refine go ?_ | (refine br (fun hc => ?_) (fun hc => ?_) <;> try (exfalso; omega)) | fail)
        refine .now ⟨r, ?_⟩
        rw [h1, foldR_die h2 hst]
        exact ⟨rfl, rfl⟩
    · have hv : cutR r = .tup [.sl x.length (bytesAV x) .ro, .sl y.length (bytesAV y) .ro, .bool true] := by simp only [cutR, hc]
      rw [hv] at hcut
      have hh := And.intro hg (And.intro hg' hset)
      have hl := crlfAt_len hc
      rw [lns2_some hc] at h1
      refine gos ?_
      refine wseq_normal ?_
      refine gos ?_
      refine wseq_normal ?_
      refine gos ?_
      refine cutTo [11] ?_
      rcases hst : step j (x, true) with j' | o | p
      · have hy := h.go0 r h1 h2 hst
        repeat' (first | refine go ?_ | (refine br (fun hc => ?_) (fun hc => ?_) <;> try (exfalso; omega)) | fail)
        exact again (j', pre ++ [(x, true)], y) ⟨by rw [h1]; simp, foldR_go h2 hst, by simp only; omega⟩ (by simp only; omega)
      · have hy := h.stop0 r h1 h2 hst
        repeat' (first | refine go ?_ | (refine br (fun hc => ?_) (fun hc => ?_) <;> try (exfalso; omega)) | fail)
        refine .now ⟨r, ?_⟩
        rw [h1, foldR_stop h2 hst]
        exact ⟨rfl, rfl⟩
      · have hy := h.die0 r h1 h2 hst
        repeat' (first | refine go ?_ | (refine br (fun hc => ?_) (fun hc => ?_) <;> try (exfalso; omega)) | fail)
        refine .now ⟨r, ?_⟩
        rw [h1, foldR_die h2 hst]
        exact ⟨rfl, rfl⟩

end Go.Ab.Tryz

end

section
namespace Go.Proofs
open Go.Shelf
def Tryz.laysnb115_ren : Go.Shelf.Ren := ⟨fun | 115 => 73 | n => n, fun | 37 => 33 | 4 => 4 | 9 => 9 | 5 => 5 | n => n, fun | n => n⟩
theorem Tryz.laysnb115 : Go.Proofs.Lays.nb115 Tryz.prog Tryz.laysnb115_ren := {
  mixed := by kernel_rfl
  f115 := Tryz.func73.trans (congrArg some (by kernel_rfl))
  t4 := Tryz.underlying4
  a4 := Tryz.isAgg4
  z4 := Tryz.sizeOf4
  v4 := Tryz.zeroValue4
  t9 := Tryz.underlying9
  a9 := Tryz.isAgg9
  z9 := Tryz.sizeOf9
  v9 := Tryz.zeroValue9
  t37 := Tryz.underlying33
  a37 := Tryz.isAgg33
  z37 := Tryz.sizeOf33
  v37 := Tryz.zeroValue33
  t5 := Tryz.underlying5
  a5 := Tryz.isAgg5
  z5 := Tryz.sizeOf5
  v5 := Tryz.zeroValue5 }
theorem Tryz.bytes_Equal_all (p1 p2 : Option Addr) (n c m d : Nat) (xs ys : List Int) (w : World) (hx : xs.length = n) (hy : ys.length = m) (h1 : Lib.BytesIn w p1 n xs) (h2 : Lib.BytesIn w p2 m ys) :
    Calls Tryz.prog 73 #[.slice p1 n c, .slice p2 m d] w fun e w' => e = .returned (.bool (Lib.bytesOf xs == Lib.bytesOf ys)) ∧ w' = w := Any.bytes_Equal_all Tryz.laysnb115 p1 p2 n c m d xs ys w hx hy h1 h2
end Go.Proofs

end

section
set_option linter.unusedSimpArgs false
set_option linter.unusedVariables false
namespace Go.Ab.Tryz
open Go Go.Ab Go.Proofs
variable {n0 : Nat} {w0 : World} {gl : Nat → List AV} {H : List AO}

instance equal_t (s t : List UInt8) (tok tok2 : Tok) : Ctr (env n0 w0 gl) 73 [.sl s.length (bytesAV s) tok, .sl t.length (bytesAV t) tok2] H True (.bool (s == t)) H := .of fun _ =>
  AEnter.of_calls (fn := Tryz.f73) Tryz.func73 rfl rfl fun g w cs hr hv => by
    obtain ⟨c, d, rfl, h1, h2⟩ := rels2 hv
    have key : ∀ {u : List UInt8} {tk : Tok} {c : Value}, VRel g (.sl u.length (bytesAV u) tk) c → ∃ p cap, c = .slice p u.length cap ∧ Lib.BytesIn w p u.length (u.map fun b => (b.toNat : Int)) := by
      intro u tk c h
      rcases sl_bytes hr h rfl with ⟨rfl, rfl⟩ | ⟨a1, k1, rfl, hk1, hcell1⟩
      · exact ⟨none, 0, rfl, by simp [Lib.BytesIn]⟩
      · refine ⟨some a1, k1, rfl, ?_⟩
        refine fun h0 => ⟨a1.block, a1.off, congrArg some (hcell1 0 (by omega)).1, fun i hi => ?_⟩
        have h3 := hcell1 i hi
        have h4 : a1.add i = ⟨a1.block, a1.off + i, none⟩ := by rw [h3.1]; exact add_none _ _ _
        have := h3.2
        rw [h4] at this
        rw [this]
        simp [List.getD_eq_getElem?_getD, hi]
    obtain ⟨p1, c1, rfl, hb1⟩ := key h1
    obtain ⟨p2, c2, rfl, hb2⟩ := key h2
    refine (Tryz.bytes_Equal_all p1 p2 s.length c1 t.length c2 _ _ w (by simp) (by simp) hb1 hb2).mono ?_
    rintro e w' ⟨rfl, rfl⟩
    rw [bytesOf_int, bytesOf_int]
    exact econc_same hr (.bool _)

end Go.Ab.Tryz

end

section
set_option linter.unusedSimpArgs false
set_option linter.unusedVariables false
set_option maxHeartbeats 8000000
set_option maxRecDepth 10000
namespace Go.Ab.Tryz
open Go Go.Ab Go.Proofs
attribute [local irreducible] W Wl Wop TrA WSeq WLoopS FPost DPost RPost WRound DK onEnd
attribute [local simp] belowL_bytesAV belowL_fldAV belowL_strsM
variable {n0 : Nat} {w0 : World} {gl : Nat → List AV} {H : List AO}

theorem dropWhile_len (p : UInt8 → Bool) : ∀ l : List UInt8, (l.dropWhile p).length ≤ l.length
  | [] => Nat.le_refl _
  | c :: l => by
    rw [List.dropWhile_cons]
    split
    · exact Nat.le_trans (dropWhile_len p l) (by simp)
    · exact Nat.le_refl _
theorem trimF_len (f : List UInt8 × List UInt8) : (trimF f).2.length ≤ f.2.length := by
  unfold trimF Lib.trimS Lib.trimLeftS Lib.trimRightS
  first
    | exact Nat.le_trans (dropWhile_len _ _) (by rw [List.length_reverse]; exact Nat.le_trans (dropWhile_len _ _) (by rw [List.length_reverse]; exact Nat.le_refl _))
    | simp
theorem headP_fields {b : List UInt8} {l : Flds} {u : Nat} {e : Int} (h : headP b = (l, u, e)) : ∀ f ∈ l, f.1.length + f.2.length ≤ b.length := by
  unfold headP at h
  cases hR : headR b with
  | none => rw [hR] at h; injection h with h1 h2; subst h1; simp
  | some j =>
    obtain ⟨l', u'⟩ := j
    rw [hR] at h
    have := headR_inv hR
    by_cases hc : l'.length ≤ 1000 ∧ u' ≤ 100000
    · simp only [if_pos hc] at h
      injection h with h1 h2; subst h1
      intro f hf
      obtain ⟨g, hg, rfl⟩ := List.mem_map.1 hf
      have h3 := this.2.2 g hg
      have h4 : (trimF g).2.length ≤ g.2.length := trimF_len g
      show g.1.length + (trimF g).2.length ≤ _
      omega
    · simp only [if_neg hc] at h
      injection h with h1 h2; subst h1; simp

instance hasMailer_t (s : List UInt8) : Ctr (env n0 w0 gl) 234 [.str s, .str mailer] H (s.length ≤ 1000000) (.bool (decide (s.take 14 = mailer))) H := .of fun hs => by
  by_cases h1 : 14 ≤ s.length
  · unfold mailer
    refine enter (md := fun _ => 0) Tryz.func234 (fun hfit hgl => ?_)
    repeat' (first | refine go ?_ | (refine br (fun hc => ?_) (fun hc => ?_) <;> try (exfalso; omega)) | fail)
    exact .now ⟨rfl, rfl⟩
  · rw [decide_eq_false (fun h => h1 (by have := congrArg List.length h; simp [mailer] at this; omega))]
    unfold mailer
    refine enter (md := fun _ => 0) Tryz.func234 (fun hfit hgl => ?_)
    repeat' (first | refine go ?_ | (refine br (fun hc => ?_) (fun hc => ?_) <;> try (exfalso; omega)) | fail)
    exact .now ⟨rfl, rfl⟩
def cpmV (s : List UInt8) : AV := if s.take 14 = mailer then .tup [.str (s.drop 14), .bool true] else .tup [.str s, .bool false]
theorem cutMailer_e (s : List UInt8) (hs : s.length ≤ 1000000) : AEnter (env n0 w0 gl) 83 [.str s, .str mailer] H (fun y H' => y = .ret (cpmV s) ∧ H' = H) := by
  have h2 : ∀ H, Ctr (env n0 w0 gl) 151 [.str s, .str mailer] H True (cpmV s) H := fun H => .of fun _ => by
    have hp2 : ∀ H, Ctr (env n0 w0 gl) 234 [.str s, .str mailer] H True (.bool (decide (s.take 14 = mailer))) H := fun H => ⟨fun _ => (hasMailer_t s).call hs⟩
    have hml : mailer.length = 14 := rfl
    unfold cpmV
    by_cases hp : s.take 14 = mailer
    · have hl : 14 ≤ s.length := by have := congrArg List.length hp; simp [mailer] at this; omega
      rw [if_pos hp]
      rw [decide_eq_true hp] at hp2
      have hh := hml
      generalize mailer = M at *
      refine enter (md := fun _ => 0) Tryz.func151 (fun hfit hgl => ?_)
      repeat' (first | refine go ?_ | (refine br (fun hc => ?_) (fun hc => ?_) <;> try (exfalso; omega)) | fail)
      exact .now ⟨rfl, rfl⟩
    · rw [if_neg hp]
      rw [decide_eq_false hp] at hp2
      have hh := hml
      generalize mailer = M at *
      refine enter (md := fun _ => 0) Tryz.func151 (fun hfit hgl => ?_)
      repeat' (first | refine go ?_ | (refine br (fun hc => ?_) (fun hc => ?_) <;> try (exfalso; omega)) | fail)
      exact .now ⟨rfl, rfl⟩
  unfold cpmV at h2 ⊢
  by_cases hp : s.take 14 = mailer
  · rw [if_pos hp] at h2 ⊢
    generalize mailer = M at *
    refine enter (md := fun _ => 0) Tryz.func83 (fun hfit hgl => ?_)
    repeat' (first | refine go ?_ | (refine br (fun hc => ?_) (fun hc => ?_) <;> try (exfalso; omega)) | fail)
    exact .now ⟨rfl, rfl⟩
  · rw [if_neg hp] at h2 ⊢
    generalize mailer = M at *
    refine enter (md := fun _ => 0) Tryz.func83 (fun hfit hgl => ?_)
    repeat' (first | refine go ?_ | (refine br (fun hc => ?_) (fun hc => ?_) <;> try (exfalso; omega)) | fail)
    exact .now ⟨rfl, rfl⟩

/-- A job more, or an end. -/
noncomputable def bnStep (J : List JobA) (p : List UInt8 × Bool) : Res (List JobA) (List JobA) Empty := match jobL p with
  | none => .stop J
  | some x => .go (J ++ [x])
theorem foldR_bn : ∀ (xs : List (List UInt8 × Bool)) (J0 : List JobA), (∀ K, jobsL xs = some K → foldR bnStep J0 xs = .go (J0 ++ K)) ∧ (jobsL xs = none → ∃ J', foldR bnStep J0 xs = .stop J')
  | [], J0 => ⟨fun K h => by simp only [jobsL, Option.some.injEq] at h; subst h; simp [foldR], fun h => by simp [jobsL] at h⟩
  | p :: l, J0 => by
    unfold jobsL
    cases hx : jobL p with
    | none => exact ⟨fun K h => by simp at h, fun _ => ⟨J0, by simp only [foldR, bnStep, hx]⟩⟩
    | some x =>
      obtain ⟨h1, h2⟩ := foldR_bn l (J0 ++ [x])
      refine ⟨fun K h => ?_, fun h => ?_⟩
      · cases hl : jobsL l with
        | none => rw [hl] at h; simp at h
        | some K' =>
          rw [hl] at h
          simp only [Option.map_some, Option.some.injEq] at h
          subst h
          simp only [foldR, bnStep, hx]
          rw [h1 K' hl]; simp
      · have hl : jobsL l = none := by
          cases hl : jobsL l with
          | none => rfl
          | some K' => rw [hl] at h; simp at h
        obtain ⟨J', h3⟩ := h2 hl
        exact ⟨J', by simp only [foldR, bnStep, hx]; exact h3⟩
theorem foldR_bn_go {xs : List (List UInt8 × Bool)} {J : List JobA} (h : foldR bnStep [] xs = .go J) : jobsL xs = some J := by
  obtain ⟨h1, h2⟩ := foldR_bn xs []
  cases hl : jobsL xs with
  | none => obtain ⟨J', h3⟩ := h2 hl; rw [h] at h3; simp at h3
  | some K => have := h1 K hl; rw [h] at this; simp at this; rw [this]
theorem foldR_bn_stop {xs : List (List UInt8 × Bool)} {J : List JobA} (h : foldR bnStep [] xs = .stop J) : jobsL xs = none := by
  obtain ⟨h1, h2⟩ := foldR_bn xs []
  cases hl : jobsL xs with
  | none => rfl
  | some K => have := h1 K hl; rw [h] at this; simp at this

end Go.Ab.Tryz

end
