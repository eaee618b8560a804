/- Plain: lines that end in CR LF. -/
import Derived.Lib.Index
import Derived.Lib.IndexBytes
import Derived.Lib.SlTrimSet
import Derived.Shelf.Strings.SlTrimAscii
import Derived.Shelf.Bytes.SlIndexWhole
import Derived.Test.YtadghefkbjacjaaGreatDoorProg
import Derived.Test.YtadghefkbjacjaaGreatDoorLHeadA
import Derived.Test.YtadghefkbjacjaaGreatDoorFrE
section
set_option linter.unusedVariables false
namespace Go.Ab
open Go

/-- What stands before the first CR LF, and behind it. -/
def crlfAt : List UInt8 → Option (List UInt8 × List UInt8)
  | [] => none
  | c :: t => if c = 13 ∧ t.head? = some 10 then some ([], t.tail) else (crlfAt t).map fun p => (c :: p.1, p.2)

theorem crlf_prefix (c : UInt8) (t : List UInt8) : (([13, 10] : List UInt8).isPrefixOf (c :: t) = true) ↔ (c = 13 ∧ t.head? = some 10) := by
  cases t with
  | nil => simp only [List.isPrefixOf, Bool.and_false, List.head?_nil]; simp
  | cons d t =>
    simp only [List.isPrefixOf, Bool.and_true, Bool.and_eq_true, beq_iff_eq, List.head?_cons, Option.some.injEq]
    exact ⟨fun h => ⟨h.1.symm, h.2.symm⟩, fun h => ⟨h.1.symm, h.2.symm⟩⟩

theorem crlfAt_idx : ∀ (s : List UInt8), (Lib.index s [13, 10] = -1 ∧ crlfAt s = none) ∨ ∃ k : Nat, k + 2 ≤ s.length ∧ Lib.index s [13, 10] = (k : Int) ∧ crlfAt s = some (s.take k, s.drop (k + 2))
  | [] => .inl ⟨rfl, rfl⟩
  | c :: t => by
    unfold Lib.index crlfAt
    by_cases h : c = 13 ∧ t.head? = some 10
    · rw [if_pos ((crlf_prefix c t).2 h), if_pos h]
      refine .inr ⟨0, ?_, rfl, ?_⟩
      · cases t with
        | nil => simp at h
        | cons d t => simp
      · cases t with
        | nil => simp at h
        | cons d t => simp
    · rw [if_neg (fun hh => h ((crlf_prefix c t).1 hh)), if_neg h]
      rcases crlfAt_idx t with ⟨h1, h2⟩ | ⟨k, hk, h1, h2⟩
      · left; rw [h1, h2]; exact ⟨rfl, rfl⟩
      · right
        refine ⟨k + 1, by simp; omega, ?_, ?_⟩
        · rw [h1, if_neg (by simp)]; rfl
        · rw [h2]; simp

theorem crlfAt_len {s x y : List UInt8} (h : crlfAt s = some (x, y)) : s.length = x.length + 2 + y.length := by
  rcases crlfAt_idx s with ⟨_, h2⟩ | ⟨k, hk, _, h2⟩
  · rw [h2] at h; simp at h
  · rw [h2] at h; simp only [Option.some.injEq, Prod.mk.injEq] at h
    rw [← h.1, ← h.2]; simp; omega

/-- The lines, without their ends; what has no end is none. -/
def linesOf (s : List UInt8) : List (List UInt8) := match h : crlfAt s with
  | none => []
  | some (x, y) => x :: linesOf y
termination_by s.length
decreasing_by have := crlfAt_len h; omega

theorem linesOf_none {s : List UInt8} (h : crlfAt s = none) : linesOf s = [] := by
  rw [linesOf]; split
  · rfl
  · rename_i x y h2; rw [h] at h2; simp at h2
theorem linesOf_some {s x y : List UInt8} (h : crlfAt s = some (x, y)) : linesOf s = x :: linesOf y := by
  conv => lhs; rw [linesOf]
  split
  · rename_i h2; rw [h] at h2; simp at h2
  · rename_i x' y' h2; rw [h] at h2; simp at h2; rw [h2.1, h2.2]

end Go.Ab

end

section
namespace Go.Proofs
open Go.Shelf
def Tryz.lays160_ren : Go.Shelf.Ren := ⟨fun | 160 => 150 | 232 => 228 | 231 => 227 | 227 => 229 | 234 => 231 | 233 => 230 | 236 => 233 | 235 => 232 | 228 => 290 | 271 => 293 | 151 => 292 | 197 => 291 | 120 => 345 | 152 => 344 | 260 => 343 | 137 => 168 | 119 => 372 | 224 => 295 | 225 => 297 | 217 => 245 | 266 => 302 | n => n, fun | 9 => 9 | 4 => 4 | 3 => 3 | 5 => 5 | 117 => 267 | 116 => 266 | 0 => 0 | 124 => 270 | 21 => 21 | 105 => 307 | 46 => 193 | 119 => 366 | 139 => 369 | 138 => 368 | n => n, fun | 3 => 4 | 4 => 5 | n => n⟩
theorem Tryz.lays160 : Go.Proofs.Lays.n160 Tryz.prog Tryz.lays160_ren := {
  mixed := by kernel_rfl
  f119 := Tryz.func372.trans (congrArg some (by kernel_rfl))
  f120 := Tryz.func345.trans (congrArg some (by kernel_rfl))
  f137 := Tryz.func168.trans (congrArg some (by kernel_rfl))
  f151 := Tryz.func292.trans (congrArg some (by kernel_rfl))
  f152 := Tryz.func344.trans (congrArg some (by kernel_rfl))
  f160 := Tryz.func150.trans (congrArg some (by kernel_rfl))
  f197 := Tryz.func291.trans (congrArg some (by kernel_rfl))
  f217 := Tryz.func245.trans (congrArg some (by kernel_rfl))
  f224 := Tryz.func295.trans (congrArg some (by kernel_rfl))
  f225 := Tryz.func297.trans (congrArg some (by kernel_rfl))
  f227 := Tryz.func229.trans (congrArg some (by kernel_rfl))
  f228 := Tryz.func290.trans (congrArg some (by kernel_rfl))
  f231 := Tryz.func227.trans (congrArg some (by kernel_rfl))
  f232 := Tryz.func228.trans (congrArg some (by kernel_rfl))
  f233 := Tryz.func230.trans (congrArg some (by kernel_rfl))
  f234 := Tryz.func231.trans (congrArg some (by kernel_rfl))
  f235 := Tryz.func232.trans (congrArg some (by kernel_rfl))
  f236 := Tryz.func233.trans (congrArg some (by kernel_rfl))
  f260 := Tryz.func343.trans (congrArg some (by kernel_rfl))
  f266 := Tryz.func302.trans (congrArg some (by kernel_rfl))
  f271 := Tryz.func293.trans (congrArg some (by kernel_rfl))
  t0 := Tryz.underlying0
  a0 := Tryz.isAgg0
  z0 := Tryz.sizeOf0
  v0 := Tryz.zeroValue0
  t3 := Tryz.underlying3
  a3 := Tryz.isAgg3
  z3 := Tryz.sizeOf3
  v3 := Tryz.zeroValue3
  t4 := Tryz.underlying4
  a4 := Tryz.isAgg4
  z4 := Tryz.sizeOf4
  v4 := Tryz.zeroValue4
  t5 := Tryz.underlying5
  a5 := Tryz.isAgg5
  z5 := Tryz.sizeOf5
  v5 := Tryz.zeroValue5
  t9 := Tryz.underlying9
  a9 := Tryz.isAgg9
  z9 := Tryz.sizeOf9
  v9 := Tryz.zeroValue9
  t21 := Tryz.underlying21
  a21 := Tryz.isAgg21
  z21 := Tryz.sizeOf21
  v21 := Tryz.zeroValue21
  t46 := Tryz.underlying193
  a46 := Tryz.isAgg193
  z46 := Tryz.sizeOf193
  v46 := Tryz.zeroValue193
  t105 := Tryz.underlying307
  a105 := Tryz.isAgg307
  z105 := Tryz.sizeOf307
  v105 := Tryz.zeroValue307
  t116 := Tryz.underlying266
  a116 := Tryz.isAgg266
  z116 := Tryz.sizeOf266
  t117 := Tryz.underlying267
  a117 := Tryz.isAgg267
  z117 := Tryz.sizeOf267
  v117 := Tryz.zeroValue267
  t119 := Tryz.underlying366
  a119 := Tryz.isAgg366
  z119 := Tryz.sizeOf366
  t124 := Tryz.underlying270
  a124 := Tryz.isAgg270
  z124 := Tryz.sizeOf270
  v124 := Tryz.zeroValue270
  t138 := Tryz.underlying368
  a138 := Tryz.isAgg368
  z138 := Tryz.sizeOf368
  v138 := Tryz.zeroValue368
  t139 := Tryz.underlying369
  a139 := Tryz.isAgg369
  z139 := Tryz.sizeOf369
  v139 := Tryz.zeroValue369
  g3 := by kernel_rfl
  g4 := by kernel_rfl }
def Tryz.lays185_ren : Go.Shelf.Ren := ⟨fun | 185 => 235 | 187 => 283 | 115 => 73 | 253 => 294 | 224 => 295 | 254 => 296 | 255 => 336 | 291 => 346 | n => n, fun | 37 => 33 | 3 => 3 | 4 => 4 | 0 => 0 | 5 => 5 | 46 => 193 | 9 => 9 | 146 => 346 | 51 => 199 | n => n, fun | 1 => 0 | n => n⟩
theorem Tryz.lays185 : Go.Proofs.Lays.n185 Tryz.prog Tryz.lays185_ren := {
  mixed := by kernel_rfl
  f115 := Tryz.func73.trans (congrArg some (by kernel_rfl))
  f185 := Tryz.func235.trans (congrArg some (by kernel_rfl))
  f187 := Tryz.func283.trans (congrArg some (by kernel_rfl))
  f224 := Tryz.func295.trans (congrArg some (by kernel_rfl))
  f253 := Tryz.func294.trans (congrArg some (by kernel_rfl))
  f254 := Tryz.func296.trans (congrArg some (by kernel_rfl))
  f255 := Tryz.func336.trans (congrArg some (by kernel_rfl))
  f291 := Tryz.func346.trans (congrArg some (by kernel_rfl))
  t0 := Tryz.underlying0
  a0 := Tryz.isAgg0
  z0 := Tryz.sizeOf0
  v0 := Tryz.zeroValue0
  t3 := Tryz.underlying3
  a3 := Tryz.isAgg3
  z3 := Tryz.sizeOf3
  v3 := Tryz.zeroValue3
  t4 := Tryz.underlying4
  a4 := Tryz.isAgg4
  z4 := Tryz.sizeOf4
  v4 := Tryz.zeroValue4
  t5 := Tryz.underlying5
  a5 := Tryz.isAgg5
  z5 := Tryz.sizeOf5
  v5 := Tryz.zeroValue5
  t9 := Tryz.underlying9
  a9 := Tryz.isAgg9
  z9 := Tryz.sizeOf9
  v9 := Tryz.zeroValue9
  t37 := Tryz.underlying33
  a37 := Tryz.isAgg33
  z37 := Tryz.sizeOf33
  v37 := Tryz.zeroValue33
  t46 := Tryz.underlying193
  a46 := Tryz.isAgg193
  z46 := Tryz.sizeOf193
  v46 := Tryz.zeroValue193
  t51 := Tryz.underlying199
  a51 := Tryz.isAgg199
  z51 := Tryz.sizeOf199
  v51 := Tryz.zeroValue199
  t146 := Tryz.underlying346
  a146 := Tryz.isAgg346
  z146 := Tryz.sizeOf346
  v146 := Tryz.zeroValue346
  g1 := by kernel_rfl }
open Go.Proofs Go.RowKit Go.Lib in
theorem Tryz.bytes_Index_nil (p2 : Option Addr) (k c2 : Nat) (w : World) (hk : k ≤ 9223372036854775807) (h1 : k = 1 → ∃ b2 o2 cv, p2 = some ⟨b2, o2, none⟩ ∧ w.cell? ⟨b2, o2, none⟩ = some (.int .u8 cv)) :
    Calls Tryz.prog 235 #[.slice none 0 0, .slice p2 k c2] w fun e w' => e = .returned (.int .i64 (if k = 0 then 0 else -1)) ∧ w' = w := Any.bytes_Index_nil Tryz.lays185 p2 k c2 w hk h1
def Tryz.laysM185_ren : Go.Shelf.Ren := ⟨fun | 185 => 235 | 187 => 283 | 115 => 73 | 253 => 294 | 224 => 295 | 254 => 296 | 255 => 336 | 291 => 346 | n => n, fun | 37 => 33 | 3 => 3 | 4 => 4 | 0 => 0 | 5 => 5 | 46 => 193 | 9 => 9 | 146 => 346 | 51 => 199 | n => n, fun | 1 => 0 | n => n⟩
theorem Tryz.laysM185 : Go.Proofs.LaysM.n185 Tryz.prog Tryz.laysM185_ren := {
  mixed := by kernel_rfl
  f115 := Tryz.func73.trans (congrArg some (by kernel_rfl))
  f185 := Tryz.func235.trans (congrArg some (by kernel_rfl))
  f187 := Tryz.func283.trans (congrArg some (by kernel_rfl))
  f224 := Tryz.func295.trans (congrArg some (by kernel_rfl))
  f253 := Tryz.func294.trans (congrArg some (by kernel_rfl))
  f254 := Tryz.func296.trans (congrArg some (by kernel_rfl))
  f255 := Tryz.func336.trans (congrArg some (by kernel_rfl))
  f291 := Tryz.func346.trans (congrArg some (by kernel_rfl))
  t0 := Tryz.underlying0
  a0 := Tryz.isAgg0
  z0 := Tryz.sizeOf0
  v0 := Tryz.zeroValue0
  t3 := Tryz.underlying3
  a3 := Tryz.isAgg3
  z3 := Tryz.sizeOf3
  v3 := Tryz.zeroValue3
  t4 := Tryz.underlying4
  a4 := Tryz.isAgg4
  z4 := Tryz.sizeOf4
  v4 := Tryz.zeroValue4
  t5 := Tryz.underlying5
  a5 := Tryz.isAgg5
  z5 := Tryz.sizeOf5
  v5 := Tryz.zeroValue5
  t9 := Tryz.underlying9
  a9 := Tryz.isAgg9
  z9 := Tryz.sizeOf9
  v9 := Tryz.zeroValue9
  t37 := Tryz.underlying33
  a37 := Tryz.isAgg33
  z37 := Tryz.sizeOf33
  v37 := Tryz.zeroValue33
  t46 := Tryz.underlying193
  a46 := Tryz.isAgg193
  z46 := Tryz.sizeOf193
  v46 := Tryz.zeroValue193
  t51 := Tryz.underlying199
  a51 := Tryz.isAgg199
  z51 := Tryz.sizeOf199
  v51 := Tryz.zeroValue199
  t146 := Tryz.underlying346
  a146 := Tryz.isAgg346
  z146 := Tryz.sizeOf346
  v146 := Tryz.zeroValue346
  g1 := by kernel_rfl
  i0 := by kernel_rfl
  i3 := by kernel_rfl
  i4 := by kernel_rfl
  i5 := by kernel_rfl
  i9 := by kernel_rfl
  i37 := by kernel_rfl
  i46 := by kernel_rfl
  i51 := by kernel_rfl
  i146 := by kernel_rfl
  m1 := by kernel_rfl
  s1_3 := fun w h => Go.Proofs.cell_of_shapedOpen_int (zero := #[.int .i64 0]) (t := 3) h (of_decide_eq_true (by kernel_rfl)) (by kernel_rfl) rfl (by kernel_rfl) (by kernel_rfl) Tryz.underlying3 }
open Go.Proofs Go.RowKit Go.Lib in
theorem Tryz.bytes_Index_at_shaped (a1 a2 : Addr) (n c1 k c2 : Nat) (xs ys : List Int) (w : World) (hx : xs.length = n) (hy : ys.length = k) (hr1 : ∀ x ∈ xs, 0 ≤ x ∧ x < 256) (hr2 : ∀ y ∈ ys, 0 ≤ y ∧ y < 256) (hc1 : ∀ i, i < n → w.cell? (a1.add i) = some (.int .u8 (xs.getD i 0))) (hc2 : ∀ i, i < k → w.cell? (a2.add i) = some (.int .u8 (ys.getD i 0))) (hcap : n ≤ c1) (hs : n < 4294967281) (hk : k ≤ 9223372036854775807) (h : w.ShapedOpen Tryz.prog) :
    Calls Tryz.prog 235 #[.slice (some a1) n c1, .slice (some a2) k c2] w fun e w' => e = .returned (.int .i64 (Lib.index (Lib.bytesOf xs) (Lib.bytesOf ys))) ∧ ∃ q, w' = w.drewN q := Any.bytes_Index_at_shaped Tryz.laysM185 a1 a2 n c1 k c2 xs ys w hx hy hr1 hr2 hc1 hc2 hcap hs hk h
end Go.Proofs

end

section
set_option linter.unusedSimpArgs false
set_option linter.unusedVariables false
set_option maxHeartbeats 2000000
set_option maxRecDepth 4000
namespace Go.Ab.Tryz
open Go Go.Ab Go.Proofs
attribute [local irreducible] W Wl Wop TrA WSeq WLoopS FPost DPost RPost WRound DK onEnd
variable {n0 : Nat} {w0 : World} {gl : Nat → List AV} {H : List AO}

attribute [local simp] belowL_bytesAV

theorem bytesOf_ints (s : List UInt8) : Lib.bytesOf (s.map fun b => (b.toNat : Int)) = s := by
  unfold Lib.bytesOf
  rw [List.map_map]
  conv => rhs; rw [← List.map_id s]
  exact List.map_congr_left fun b _ => by simp

theorem addr_add (b o i : Nat) : (⟨b, o, none⟩ : Addr).add i = ⟨b, o + i, none⟩ := by
  unfold Addr.add
  split
  · rename_i h; subst h; rfl
  · rfl

instance index_t [hml : GLInt gl 0] (s : List UInt8) (tok : Tok) : Ctr (env n0 w0 gl) 235 [.sl s.length (bytesAV s) tok, .sl 2 [.int .u8 13, .int .u8 10] .ro] H (s.length < 4294967281) (.int .i64 (Lib.index s [13, 10])) H := .of fun hs =>
  AEnter.of_calls (fn := Tryz.f235) Tryz.func235 rfl rfl fun g w cs hr hv => by
    obtain ⟨c, d, rfl, h1, h2⟩ := rels2 hv
    rcases sl_bytes (s := [13, 10]) hr h2 rfl with ⟨_, h⟩ | ⟨a2, c2, rfl, hc2, hcell2⟩
    · simp at h
    rcases sl_bytes hr h1 rfl with ⟨rfl, rfl⟩ | ⟨a1, c1, rfl, hc1, hcell1⟩
    · refine (Tryz.bytes_Index_nil _ 2 c2 w (by omega) (by omega)).mono ?_
      rintro e w' ⟨rfl, rfl⟩
      exact econc_same hr (.int _ _)
    · obtain ⟨m, hm⟩ := hml.ex
      obtain ⟨v, hv1, hv2⟩ := gl_cell hr 0 (l := [.int .i64 m]) hm 0 (by simp)
      have hv3 := hv2.int_inv
      subst hv3
      refine (Any.bytes_Index_at { Tryz.laysM185 with } a1 a2 s.length c1 2 c2 (s.map fun b => (b.toNat : Int)) [13, 10] m w (by simp) rfl ?_ (by simp) ?_ ?_ hc1 hs (by omega) hv1).mono ?_
      · intro x hx
        obtain ⟨b, _, rfl⟩ := List.mem_map.1 hx
        have := b.toNat_lt
        omega
      · intro i hi
        rw [(hcell1 i hi).2]
        simp [List.getD_eq_getElem?_getD, hi]
      · intro i hi
        rw [(hcell2 i hi).2]
        match i, hi with
        | 0, _ => rfl
        | 1, _ => rfl
      · rintro e w' ⟨rfl, q, rfl⟩
        rw [bytesOf_ints]
        exact econc_ret hr ((RowKit.Below.refl _ _).trans ⟨rfl, rfl, rfl, Nat.le_refl _, fun _ _ => rfl⟩) (.int _ _)

theorem bytesAV_take (s : List UInt8) (k : Nat) : (bytesAV s).take k = bytesAV (s.take k) := by simp [bytesAV]
theorem bytesAV_drop (s : List UInt8) (k : Nat) : (bytesAV s).drop k = bytesAV (s.drop k) := by simp [bytesAV]

/-- What a cut hands back. -/
def cutL (s : List UInt8) : AV := match crlfAt s with
  | some (x, y) => .tup [.sl x.length (bytesAV x) .ro, .sl y.length (bytesAV y) .ro, .bool true]
  | none => .tup [.sl s.length (bytesAV s) .ro, .sl 0 [] .full, .bool false]

instance bcut_t [hml : GLInt gl 0] (s : List UInt8) : Ctr (env n0 w0 gl) 153 [.sl s.length (bytesAV s) .ro, .sl 2 [.int .u8 13, .int .u8 10] .ro] H (s.length < 4294967281) (cutL s) H := .of fun hs => by
  unfold cutL
  refine enter (md := fun _ => 0) Tryz.func153 (fun hfit hgl => ?_)
  rcases crlfAt_idx s with ⟨hh, h2⟩ | ⟨k, hk, hh, h2⟩ <;> rw [h2]
  · repeat' (first | refine go ?_ | (refine br (fun hc => ?_) (fun hc => ?_) <;> try (exfalso; omega)) | fail)
    exact .now ⟨rfl, rfl⟩
  · repeat' (first | refine go ?_ | (refine br (fun hc => ?_) (fun hc => ?_) <;> try (exfalso; omega)) | fail)
    refine .now ⟨?_, rfl⟩
    have e : ((k : Int) + 2).toNat = k + 2 := by omega
    simp [bytesAV_take, bytesAV_drop, e, Nat.min_eq_left (show k ≤ s.length by omega)]

instance lines_t (n : Nat) (xs : List AV) : Ctr (env n0 w0 gl) 226 [.sl n xs .ro] H True (.fn 289 [] [.ref H.length 0]) (H ++ [.cells [.sl n xs .ro]]) := .of fun _ => by
  refine enter (md := fun _ => 0) Tryz.func226 (fun hfit hgl => ?_)
  repeat' (first | refine go ?_ | (refine br (fun hc => ?_) (fun hc => ?_) <;> try (exfalso; omega)) | fail)
  exact .now ⟨rfl, rfl⟩

theorem lines1_t [hml : GLInt gl 0] {J O P : Type} {lp id n : Nat} {G : J → List UInt8 → List AO} {S : O → List UInt8 → List AO} {T : P → List UInt8 → List AO} {ch : P → List APanic} {step : J → List UInt8 → Res J O P} {j0 : J} (s : List UInt8) (hs : s.length < 4294967281) (hlp : lp < n)
    (hg : ∀ j r k, (G j r ++ k)[id]? = some (.cells [.sl r.length (bytesAV r) .ro])) (hset : ∀ j r r', (G j r).set id (.cells [.sl r'.length (bytesAV r') .ro]) = G j r') (hG : ∀ j r, (G j r).length = n) (hfG : ∀ j r, Fit n (G j r))
    (h : Rounds (env n0 w0 gl) lp (fun p => [.str p]) G S T ch step j0 (linesOf s)) :
    AEnter (env n0 w0 gl) 289 [.yield lp, .ref id 0] (G j0 s) (IterEnd G S T ch (foldR step j0 (linesOf s))) := by
  have hg' : ∀ j r, (G j r)[id]? = some (.cells [.sl r.length (bytesAV r) .ro]) := fun j r => by have := hg j r []; rwa [List.append_nil] at this
  have hh := And.intro hg (And.intro hg' hset)
  refine enter (md := fun t => if t = 8 then 2 else 0) Tryz.func289 (fun hfit hgl => ?_)
  repeat' (first | refine go ?_ | (refine br (fun hc => ?_) (fun hc => ?_) <;> try (exfalso; omega)) | fail)
  refine loop (fun i : J × List (List UInt8) × List UInt8 => (.yield lp :: .ref id 0 :: .top :: .top :: .top :: .top :: .top :: .top :: .top :: .top :: .top :: .top :: .top :: .top :: .top :: .top :: .top :: .top :: .top :: .top :: .top :: .top :: .top :: .top :: [])) (fun i => G i.1 i.2.2) (fun i => linesOf s = i.2.1 ++ linesOf i.2.2 ∧ foldR step j0 i.2.1 = .go i.1 ∧ i.2.2.length ≤ s.length) (fun i => i.2.2.length) (j0, [], s) ⟨rfl, rfl, Nat.le_refl _⟩ ?_
  rintro ⟨j, pre, r⟩ ⟨h1, h2, h3⟩
  simp only at h1 h2 h3 ⊢
  have hn := hG j r
  have hn0 := hG j0 s
  have hi1 := (List.getElem?_eq_some_iff.1 (hg' j0 s)).1
  have hfg : Fit (G j r).length (G j r) := by rw [hn]; exact hfG j r
  rcases hc : crlfAt r with _ | ⟨x, y⟩
  · have hv : cutL r = .tup [.sl r.length (bytesAV r) .ro, .sl 0 [] .full, .bool false] := by simp only [cutL, hc]
    have hh := And.intro hv (And.intro hg (And.intro hg' hset))
    rw [linesOf_none hc, List.append_nil] at h1
    rw [h1, h2]
    refine gos ?_
    refine cutTo [8] ?_
    repeat' (first | refine go ?_ | (refine br (fun hc => ?_) (fun hc => ?_) <;> try (exfalso; omega)) | fail)
    exact .now ⟨r, rfl, rfl⟩
  · have hv : cutL r = .tup [.sl x.length (bytesAV x) .ro, .sl y.length (bytesAV y) .ro, .bool true] := by simp only [cutL, hc]
    have hh := And.intro hv (And.intro hg (And.intro hg' hset))
    have hl := crlfAt_len hc
    rw [linesOf_some hc] at h1
    refine gos ?_
    refine cutTo [8] ?_
    rcases hst : step j x with j' | o | p
    · have hy := h.go0 r h1 h2 hst
      repeat' (first | refine go ?_ | (refine br (fun hc => ?_) (fun hc => ?_) <;> try (exfalso; omega)) | fail)
      exact again (j', pre ++ [x], y) ⟨by rw [h1]; simp, foldR_go h2 hst, by simp only; omega⟩ (by simp only; omega)
    · have hy := h.stop0 r h1 h2 hst
      repeat' (first | refine go ?_ | (refine br (fun hc => ?_) (fun hc => ?_) <;> try (exfalso; omega)) | fail)
      refine .now ⟨r, ?_⟩
      rw [h1, foldR_stop h2 hst]
      exact ⟨rfl, rfl⟩
    · have hy := h.die0 r h1 h2 hst
      repeat' (first | refine go ?_ | (refine br (fun hc => ?_) (fun hc => ?_) <;> try (exfalso; omega)) | fail)
      refine .now ⟨r, ?_⟩
      rw [h1, foldR_die h2 hst]
      exact ⟨rfl, rfl⟩

end Go.Ab.Tryz

end

section
set_option linter.unusedSimpArgs false
set_option linter.unusedVariables false
set_option maxHeartbeats 2000000
set_option maxRecDepth 4000
namespace Go.Ab.Tryz
open Go Go.Ab Go.Proofs
attribute [local irreducible] W Wl Wop TrA WSeq WLoopS FPost DPost RPost WRound DK onEnd
variable {n0 : Nat} {w0 : World} {gl : Nat → List AV} {H : List AO}
attribute [local simp] belowL_bytesAV

abbrev Flds := List (List UInt8 × List UInt8)
/-- The last field's body grows. -/
def addLast (l : Flds) (s : List UInt8) : Flds := l.take (l.length - 1) ++ [((l.getD (l.length - 1) ([], [])).1, (l.getD (l.length - 1) ([], [])).2 ++ s)]
/-- What one line does. -/
noncomputable def hstep (j : Flds × Nat) (s : List UInt8) : Res (Flds × Nat) (Flds × Nat) Nat :=
  if s.length = 0 then .stop (j.1, j.2 + 2)
  else if (s.getD 0 0).toNat = 32 ∨ (s.getD 0 0).toNat = 9 then (if j.1.length = 0 then .die j.2 else .go (addLast j.1 s, j.2 + (s.length + 2)))
  else match cutAt 58 s with
    | none => .stop j
    | some (x, y) => if tf (NameOk x) then .go (j.1 ++ [(x, y)], j.2 + (s.length + 2)) else .stop j

theorem hstep_used : ∀ (pre : List (List UInt8)) (j j' : Flds × Nat), foldR hstep j pre = .go j' → j'.2 = j.2 + (pre.map fun s => s.length + 2).sum ∧ j'.1.length ≤ j.1.length + pre.length
  | [], j, j', h => by simp only [foldR, Res.go.injEq] at h; subst h; simp
  | s :: pre, j, j', h => by
    have key : ∀ j1, hstep j s = .go j1 → j1.2 = j.2 + (s.length + 2) ∧ j1.1.length ≤ j.1.length + 1 := by
      intro j1 h1
      unfold hstep at h1
      split at h1
      · simp at h1
      · split at h1
        · split at h1
          · simp at h1
          · rename_i hne
            simp only [Res.go.injEq] at h1; subst h1
            refine ⟨rfl, ?_⟩
            simp [addLast]
        · split at h1
          · simp at h1
          · split at h1
            · simp only [Res.go.injEq] at h1; subst h1; exact ⟨rfl, by simp⟩
            · simp at h1
    simp only [foldR] at h
    cases h1 : hstep j s with
    | go j1 =>
      rw [h1] at h
      obtain ⟨a1, a2⟩ := hstep_used pre j1 j' h
      obtain ⟨b1, b2⟩ := key j1 h1
      simp only [List.map_cons, List.sum_cons, List.length_cons]
      omega
    | stop o => rw [h1] at h; simp at h
    | die p => rw [h1] at h; simp at h

theorem hstep_inv : ∀ (pre : List (List UInt8)) (j j' : Flds × Nat), (∀ f ∈ j.1, f.1.length + f.2.length ≤ j.2) → foldR hstep j pre = .go j' → ∀ f ∈ j'.1, f.1.length + f.2.length ≤ j'.2
  | [], j, j', hj, h => by simp only [foldR, Res.go.injEq] at h; subst h; exact hj
  | s :: pre, j, j', hj, h => by
    simp only [foldR] at h
    cases h1 : hstep j s with
    | go j1 =>
      rw [h1] at h
      refine hstep_inv pre j1 j' ?_ h
      unfold hstep at h1
      split at h1
      · simp at h1
      · split at h1
        · split at h1
          · simp at h1
          · rename_i hne
            simp only [Res.go.injEq] at h1; subst h1
            intro f hf
            simp only [addLast, List.mem_append, List.mem_singleton] at hf ⊢
            rcases hf with hf | rfl
            · have := hj f (List.mem_of_mem_take hf); omega
            · have hm : j.1.getD (j.1.length - 1) ([], []) ∈ j.1 := by
                rw [List.getD_eq_getElem?_getD, List.getElem?_eq_getElem (by omega)]; exact List.getElem_mem _
              have := hj _ hm
              simp only [List.length_append]; omega
        · split at h1
          · simp at h1
          · rename_i x y hc
            split at h1
            · simp only [Res.go.injEq] at h1; subst h1
              have hl := cutAt_len hc
              intro f hf
              simp only [List.mem_append, List.mem_singleton] at hf ⊢
              rcases hf with hf | rfl
              · have := hj f hf; omega
              · simp only; omega
            · simp at h1
    | stop o => rw [h1] at h; simp at h
    | die p => rw [h1] at h; simp at h

theorem linesOf_sum (s : List UInt8) : ((linesOf s).map fun x => x.length + 2).sum ≤ s.length := by
  induction hn : s.length using Nat.strongRecOn generalizing s with
  | _ n ih =>
    subst hn
    cases h : crlfAt s with
    | none => rw [linesOf_none h]; simp
    | some p =>
      obtain ⟨x, y⟩ := p
      have hl := crlfAt_len h
      rw [linesOf_some h]
      have := ih y.length (by omega) y rfl
      simp only [List.map_cons, List.sum_cons]
      omega
theorem linesOf_count (s : List UInt8) : (linesOf s).length * 2 ≤ s.length := by
  have h := linesOf_sum s
  have : ∀ l : List (List UInt8), l.length * 2 ≤ (l.map fun x => x.length + 2).sum := by
    intro l
    induction l with
    | nil => simp
    | cons x l ih => simp only [List.length_cons, List.map_cons, List.sum_cons]; omega
  exact Nat.le_trans (this _) h

/-- A head gone through: fields, and how many bytes; none: it is refused. -/
noncomputable def headR (b : List UInt8) : Option (Flds × Nat) := match foldR hstep ([], 0) (linesOf b) with
  | .go j => some j
  | .stop j => some j
  | .die _ => none

theorem setRange_last {l : Flds} {s : List UInt8} {v : List UInt8} (h : 0 < l.length) (hv : v = (l.getD (l.length - 1) ([], [])).2 ++ s) : setRange (fldAV l) ((l.length - 1) * 2 + 1) [.str v] = fldAV (addLast l s) := by
  subst hv
  have h1 : l = l.take (l.length - 1) ++ [l.getD (l.length - 1) ([], [])] := by
    conv => lhs; rw [← List.take_append_drop (l.length - 1) l]
    rw [List.drop_eq_getElem_cons (by omega), List.drop_eq_nil_of_le (by omega)]
    simp [List.getD_eq_getElem?_getD, show l.length - 1 < l.length by omega]
  have hlen : (fldAV (l.take (l.length - 1))).length = (l.length - 1) * 2 := by rw [fldAV_len]; simp
  unfold addLast
  generalize hq : l.getD (l.length - 1) ([], []) = q at *
  generalize hp : l.take (l.length - 1) = p at *
  generalize l.length - 1 = m at *
  subst h1
  have e : fldAV (p ++ [q]) = fldAV p ++ [.str q.1, .str q.2] := by simp [fldAV]
  have e2 : fldAV (p ++ [(q.1, q.2 ++ s)]) = fldAV p ++ [.str q.1, .str (q.2 ++ s)] := by simp [fldAV]
  rw [e, e2]
  unfold setRange
  rw [← hlen, List.take_append, List.drop_append, List.take_of_length_le (by omega), List.drop_eq_nil_of_le (by simp only [List.length_cons, List.length_nil]; omega)]
  have e3 : (fldAV p).length + 1 - (fldAV p).length = 1 := by omega
  have e4 : (fldAV p).length + 1 + [AV.str (q.2 ++ s)].length - (fldAV p).length = 2 := by simp only [List.length_cons, List.length_nil]; omega
  rw [e3, e4]
  simp

theorem fldAV_last {l : Flds} (h : 0 < l.length) : (fldAV l).getD ((l.length - 1) * 2 + 1) .top = .str (l.getD (l.length - 1) ([], [])).2 := by
  have h1 := fldAV_at (l := l) (i := l.length - 1) (by omega)
  have h2 : (((fldAV l).drop ((l.length - 1) * 2)).take 2)[1]? = some (.str (l.getD (l.length - 1) ([], [])).2) := by rw [h1]; rfl
  rw [List.getElem?_take_of_lt (by omega), List.getElem?_drop] at h2
  rw [List.getD_eq_getElem?_getD, h2]; rfl

theorem parse_t [hml : GLInt gl 0] (b : List UInt8) (hb : b.length < 4294967281) : AEnter (env n0 w0 gl) 148 [.sl b.length (bytesAV b) .ro] H (fun y H' => match headR b with
    | some j => y = .ret (.tup [.vsl (H.length + 2) j.1.length, .int .i64 j.2]) ∧ H' = H ++ [.cells [.vsl (H.length + 2) j.1.length], .cells [.int .i64 j.2], .vec 2 j.1.length (fldAV j.1)]
    | none => y = .panic (thrownH 80) ∧ H' = H) := by
  refine enter (md := fun _ => 0) Tryz.func148 (fun hfit hgl => ?_)
  refine gos ?_
  refine wseq_shift (Shift.cellVec 2 H.length 0 (xs := [.sl 0 [] .full]) (by simp) (by simp) rfl rfl) ?_
  simp only [List.append_assoc, List.cons_append, List.nil_append, setE0, List.set_cons_zero, List.length_append, List.length_cons, List.length_nil, Nat.zero_add, Nat.reduceAdd]
  repeat' (first | refine go ?_ | (refine br (fun hc => ?_) (fun hc => ?_) <;> try (exfalso; omega)) | fail)
  refine over (fun p => [.str p]) (fun (j : Flds × Nat) r => H ++ [.cells [.vsl (H.length + 2) j.1.length], .cells [.int .i64 j.2], .vec 2 j.1.length (fldAV j.1), .cells [.sl r.length (bytesAV r) .ro]])
    (fun (j : Flds × Nat) r => H ++ [.cells [.vsl (H.length + 2) j.1.length], .cells [.int .i64 j.2], .vec 2 j.1.length (fldAV j.1), .cells [.sl r.length (bytesAV r) .ro]])
    (fun (u : Nat) r => H ++ [.cells [.vsl (H.length + 2) 0], .cells [.int .i64 u], .vec 2 0 [], .cells [.sl r.length (bytesAV r) .ro]]) (fun _ => thrownH 80) (fun _ => .ret) hstep ([], 0) b (linesOf b) ?_ ?_ ?_ ?_ ?_
  · intro fn G S T hG hS h
    exact lines1_t b hb (n := H.length + 4 + 2) (by omega) (fun j r k => by simp [G, getE]) (fun j r r' => by simp [G, setE]) (fun j r => by simp [G]) hG h
  · intro fn pre s post j r l' hx hj hft
    have hu := hstep_used pre _ _ hj
    have hiv := hstep_inv pre _ _ (by simp) hj
    have hsum := linesOf_sum b
    have hcount := linesOf_count b
    rw [hx] at hsum hcount
    simp only [List.map_append, List.sum_append, List.map_cons, List.sum_cons, List.length_append, List.length_cons, List.length_nil, Nat.zero_add] at hsum hcount hu
    obtain ⟨l, u⟩ := j
    simp only at hu hj hiv ⊢
    have hfl := fldAV_len l
    obtain ⟨ca, cb, cc, hh⟩ : ∃ ca cb cc, cutV 58 s = .tup [.str ca, .str cb, .bool cc] := by
      unfold cutV
      cases cutAt 58 s with
      | none => exact ⟨_, _, _, rfl⟩
      | some p => exact ⟨_, _, _, rfl⟩
    by_cases h0 : s.length = 0
    · have hst : hstep (l, u) s = .stop (l, u + 2) := by unfold hstep; rw [if_pos h0]
      rw [hst]
      repeat' (first | refine go ?_ | (refine br (fun hc => ?_) (fun hc => ?_) <;> try (exfalso; omega)) | fail)
      exact .now ⟨rfl, by simp⟩
    · by_cases h1 : (s.getD 0 0).toNat = 32 ∨ (s.getD 0 0).toNat = 9
      · by_cases hq : l.length = 0
        · have hst : hstep (l, u) s = .die u := by unfold hstep; rw [if_neg h0, if_pos h1, if_pos hq]
          obtain rfl : l = [] := List.length_eq_zero_iff.1 hq
          rw [hst]
          repeat' (first | refine go ?_ | (refine br (fun hc => ?_) (fun hc => ?_) <;> try (exfalso; omega)) | fail)
          all_goals exact .now ⟨rfl, by simp [fldAV]⟩
        · have hst : hstep (l, u) s = .go (addLast l s, u + (s.length + 2)) := by unfold hstep; rw [if_neg h0, if_pos h1, if_neg hq]
          rw [hst]
          have hla := fldAV_last (l := l) (by omega)
          have hh := And.intro hh hla
          have hlb := hiv (l.getD (l.length - 1) ([], [])) (by rw [List.getD_eq_getElem?_getD, List.getElem?_eq_getElem (by omega)]; exact List.getElem_mem _)
          repeat' (first | refine go ?_ | (refine br (fun hc => ?_) (fun hc => ?_) <;> try (exfalso; omega)) | fail)
          all_goals
            refine .now ⟨rfl, ?_⟩
            have e := setRange_last (l := l) (s := s) (by omega) rfl
            simp only [setRange, List.length_cons, List.length_nil, Nat.zero_add, Nat.add_assoc, Nat.reduceAdd, List.append_assoc, List.cons_append, List.nil_append] at e
            generalize AO.loop _ _ _ _ _ _ _ _ = LL
            have e2 : (addLast l s).length = l.length := by simp [addLast]; omega
            simp [e2]
            simpa using e
      · rcases hc : cutAt 58 s with _ | ⟨x, y⟩
        · have hst : hstep (l, u) s = .stop (l, u) := by unfold hstep; rw [if_neg h0, if_neg h1, hc]
          have hh : cutV 58 s = .tup [.str s, .str [], .bool false] := by simp only [cutV, hc]
          rw [hst]
          repeat' (first | refine go ?_ | (refine br (fun hc => ?_) (fun hc => ?_) <;> try (exfalso; omega)) | fail)
          exact .now ⟨rfl, by simp⟩
        · have hh : cutV 58 s = .tup [.str x, .str y, .bool true] := by simp only [cutV, hc]
          have hcl := cutAt_len hc
          by_cases h2 : NameOk x
          · have hst : hstep (l, u) s = .go (l ++ [(x, y)], u + (s.length + 2)) := by unfold hstep; rw [if_neg h0, if_neg h1, hc]; simp only [tf_true h2]; rfl
            rw [hst]
            have hh := And.intro hh (tf_true h2)
            repeat' (first | refine go ?_ | (refine br (fun hc => ?_) (fun hc => ?_) <;> try (exfalso; omega)) | fail)
            all_goals
              refine .now ⟨rfl, ?_⟩
              generalize AO.loop _ _ _ _ _ _ _ _ = LL
              simp [fldAV]
          · have hst : hstep (l, u) s = .stop (l, u) := by unfold hstep; rw [if_neg h0, if_neg h1, hc]; simp only [tf_false h2]; rfl
            rw [hst]
            have hh := And.intro hh (tf_false h2)
            repeat' (first | refine go ?_ | (refine br (fun hc => ?_) (fun hc => ?_) <;> try (exfalso; omega)) | fail)
            exact .now ⟨rfl, by simp⟩
  · intro j r hr
    unfold headR
    rw [hr]
    repeat' (first | refine go ?_ | (refine br (fun hc => ?_) (fun hc => ?_) <;> try (exfalso; omega)) | fail)
    rw [show ∀ a b c d : AO, H ++ [a, b, c, d, .dead, .dead] = (H ++ [a, b, c]) ++ [d, .dead, .dead] from fun _ _ _ _ => by simp]
    exact .junkd ⟨rfl, rfl⟩
  · intro o r hr
    unfold headR
    rw [hr]
    repeat' (first | refine go ?_ | (refine br (fun hc => ?_) (fun hc => ?_) <;> try (exfalso; omega)) | fail)
    rw [show ∀ a b c d : AO, H ++ [a, b, c, d, .dead, .dead] = (H ++ [a, b, c]) ++ [d, .dead, .dead] from fun _ _ _ _ => by simp]
    exact .junkd ⟨rfl, rfl⟩
  · intro fn p c hr
    unfold headR
    rw [hr]
    repeat' (first | refine go ?_ | (refine br (fun hc => ?_) (fun hc => ?_) <;> try (exfalso; omega)) | fail)
    refine .junkd ⟨rfl, rfl⟩

end Go.Ab.Tryz

end

section
set_option linter.unusedSimpArgs false
set_option linter.unusedVariables false
set_option maxHeartbeats 2000000
set_option maxRecDepth 4000
namespace Go.Ab.Tryz
open Go Go.Ab Go.Proofs
attribute [local irreducible] W Wl Wop TrA WSeq WLoopS FPost DPost RPost WRound DK onEnd
variable {n0 : Nat} {w0 : World} {gl : Nat → List AV} {H : List AO}
attribute [local simp] belowL_bytesAV

instance trim_t (s : List UInt8) : Ctr (env n0 w0 gl) 150 [.str s, .str [32, 9]] H (s.length ≤ 9223372036854775807) (.str (Lib.trimS s [32, 9])) H := .of fun hs =>
  AEnter.of_calls (fn := Tryz.f150) Tryz.func150 rfl rfl fun g w cs hr hv => by
    obtain ⟨c, d, rfl, h1, h2⟩ := rels2 hv
    have h1 := h1.str_inv
    have h2 := h2.str_inv
    subst h1; subst h2
    refine (Any.strings_Trim_laid Tryz.lays160 (by kernel_rfl) ⟨s.toArray⟩ ⟨#[32, 9]⟩ w (by simpa [ByteArray.size] using hs) (by simp [ByteArray.size]) (ascii_of_all (by decide))).mono ?_
    rintro e w' ⟨rfl, hb⟩
    exact econc_ret hr hb (.str _ _ rfl)

/-- A field without blanks around its body. -/
def trimF (f : List UInt8 × List UInt8) : List UInt8 × List UInt8 := (f.1, Lib.trimS f.2 [32, 9])
def trimTo (l : Flds) (i : Nat) : Flds := (l.take i).map trimF ++ l.drop i

theorem fldAV_body {l : Flds} {i : Nat} (h : i < l.length) : (fldAV l).getD (i * 2 + 1) .top = .str (l.getD i ([], [])).2 := by
  have h1 := fldAV_at h
  have h2 : (((fldAV l).drop (i * 2)).take 2)[1]? = some (.str (l.getD i ([], [])).2) := by rw [h1]; rfl
  rw [List.getElem?_take_of_lt (by omega), List.getElem?_drop] at h2
  rw [List.getD_eq_getElem?_getD, h2]; rfl
theorem fldAV_app (a b : Flds) : fldAV (a ++ b) = fldAV a ++ fldAV b := by simp [fldAV]
theorem fldAV_setBody {l : Flds} {i : Nat} {v : List UInt8} (h : i < l.length) : setRange (fldAV l) (i * 2 + 1) [.str v] = fldAV (l.set i ((l.getD i ([], [])).1, v)) := by
  have h1 : l = l.take i ++ l.getD i ([], []) :: l.drop (i + 1) := by
    conv => lhs; rw [← List.take_append_drop i l]
    rw [List.drop_eq_getElem_cons h]
    simp [List.getD_eq_getElem?_getD, h]
  have hlen : (fldAV (l.take i)).length = i * 2 := by rw [fldAV_len, List.length_take]; omega
  have hli : (l.take i).length = i := by rw [List.length_take]; omega
  generalize hq : l.getD i ([], []) = q at *
  generalize hp : l.take i = p at *
  generalize hd : l.drop (i + 1) = d at *
  clear hq hp hd
  subst h1
  rw [List.set_append_right _ _ (by omega), hli, Nat.sub_self, List.set_cons_zero, fldAV_app, fldAV_app, fldAV_cons, fldAV_cons]
  unfold setRange
  rw [← hlen, List.take_append, List.drop_append, List.take_of_length_le (by omega), List.drop_eq_nil_of_le (by simp only [List.length_cons, List.length_nil]; omega)]
  have e3 : (fldAV p).length + 1 - (fldAV p).length = 1 := by omega
  have e4 : (fldAV p).length + 1 + [AV.str v].length - (fldAV p).length = 2 := by simp only [List.length_cons, List.length_nil]; omega
  rw [e3, e4]
  simp
theorem trimTo_len (l : Flds) (i : Nat) : (trimTo l i).length = l.length := by simp [trimTo]; omega
theorem trimTo_get {l : Flds} {i : Nat} (h : i < l.length) : (trimTo l i).getD i ([], []) = l.getD i ([], []) := by
  simp [trimTo, List.getD_eq_getElem?_getD, List.getElem?_append_right, h, Nat.min_eq_left (Nat.le_of_lt h)]
theorem trimTo_succ {l : Flds} {i : Nat} (h : i < l.length) : (trimTo l i).set i (trimF (l.getD i ([], []))) = trimTo l (i + 1) := by
  unfold trimTo
  rw [List.set_append_right _ _ (by simp; omega), List.take_add_one, List.map_append, List.append_assoc]
  congr 1
  have e : i - ((l.take i).map trimF).length = 0 := by simp; omega
  rw [e, List.drop_eq_getElem_cons h]
  simp only [List.set_cons_zero]
  simp [h]

theorem foldR_stop_ex {J O P X : Type} {step : J → X → Res J O P} : ∀ (xs : List X) (j : J) (o : O), foldR step j xs = .stop o → ∃ pre x post j1, xs = pre ++ x :: post ∧ foldR step j pre = .go j1 ∧ step j1 x = .stop o
  | [], j, o, h => by simp [foldR] at h
  | x :: xs, j, o, h => by
    simp only [foldR] at h
    cases hs : step j x with
    | go j1 =>
      rw [hs] at h
      obtain ⟨pre, y, post, j2, h1, h2, h3⟩ := foldR_stop_ex xs j1 o h
      exact ⟨x :: pre, y, post, j2, by rw [h1]; rfl, by simp only [foldR, hs]; exact h2, h3⟩
    | stop o' => rw [hs] at h; simp only [Res.stop.injEq] at h; subst h; exact ⟨[], x, xs, j, rfl, rfl, hs⟩
    | die p => rw [hs] at h; simp at h

theorem headR_inv {b : List UInt8} {l : Flds} {u : Nat} (h : headR b = some (l, u)) : l.length ≤ b.length ∧ u ≤ b.length ∧ ∀ f ∈ l, f.1.length + f.2.length ≤ u := by
  have hsum := linesOf_sum b
  have hcount := linesOf_count b
  unfold headR at h
  cases hf : foldR hstep ([], 0) (linesOf b) with
  | go j =>
    rw [hf] at h; simp only [Option.some.injEq] at h; subst h
    have hu := hstep_used _ _ _ hf
    have hi := hstep_inv _ _ _ (by simp) hf
    simp only [List.length_nil, Nat.zero_add] at hu hi
    exact ⟨by omega, by omega, hi⟩
  | stop j =>
    rw [hf] at h; simp only [Option.some.injEq] at h; subst h
    obtain ⟨pre, x, post, j1, hx, h1, h2⟩ := foldR_stop_ex _ _ _ hf
    have hu := hstep_used _ _ _ h1
    have hi := hstep_inv _ _ _ (by simp) h1
    simp only [List.length_nil, Nat.zero_add] at hu hi
    rw [hx] at hsum hcount
    simp only [List.map_append, List.sum_append, List.map_cons, List.sum_cons, List.length_append, List.length_cons] at hsum hcount
    have key : (l, u) = (j1.1, j1.2 + 2) ∨ (l, u) = j1 := by
      unfold hstep at h2
      split at h2
      · simp only [Res.stop.injEq] at h2; exact .inl h2.symm
      · split at h2
        · split at h2 <;> simp at h2
        · split at h2
          · simp only [Res.stop.injEq] at h2; exact .inr h2.symm
          · split at h2
            · simp at h2
            · simp only [Res.stop.injEq] at h2; exact .inr h2.symm
    rcases key with key | key
    · injection key with k1 k2
      subst k1; subst k2
      exact ⟨by omega, by omega, fun f hf => by have := hi f hf; omega⟩
    · subst key
      exact ⟨by simp only at hu; omega, by simp only at hu; omega, hi⟩
  | die p => rw [hf] at h; simp at h

theorem parse1_t [hml : GLInt gl 0] (b : List UInt8) (hb : b.length < 4294967281) : AEnter (env n0 w0 gl) 147 [.ref H.length 0, .ref (H.length + 1) 0, .ref (H.length + 2) 0] (H ++ [.cells [.sl b.length (bytesAV b) .ro], .cells [.sl 0 [] .full], .cells [.int .i64 0], .cells [.int .i64 0]])
    (fun y H' => match headR b with
    | some j => if j.1.length ≤ 1000 ∧ j.2 ≤ 100000 then y = .ret (.tup []) ∧ H' = H ++ [.cells [.sl b.length (bytesAV b) .ro], .cells [.vsl (H.length + 6) j.1.length], .cells [.int .i64 j.2], .cells [.int .i64 0], .cells [.vsl (H.length + 6) j.1.length], .cells [.int .i64 j.2], .vec 2 j.1.length (fldAV (j.1.map trimF))]
      else y = .panic (thrownH 2) ∧ H' = H ++ [.cells [.sl b.length (bytesAV b) .ro], .cells [.vsl (H.length + 6) j.1.length], .cells [.int .i64 j.2], .cells [.int .i64 0], .cells [.vsl (H.length + 6) j.1.length], .cells [.int .i64 j.2], .vec 2 j.1.length (fldAV j.1)]
    | none => y = .panic (thrownH 80) ∧ H' = H ++ [.cells [.sl b.length (bytesAV b) .ro], .cells [.sl 0 [] .full], .cells [.int .i64 0], .cells [.int .i64 0]]) := by
  have hp := parse_t (n0 := n0) (w0 := w0) (gl := gl) (H := H ++ [.cells [.sl b.length (bytesAV b) .ro], .cells [.sl 0 [] .full], .cells [.int .i64 0], .cells [.int .i64 0]]) b hb
  rcases hq : headR b with _ | ⟨l, u⟩
  · rw [hq] at hp
    have hp2 : CtrP (env n0 w0 gl) 148 [.sl b.length (bytesAV b) .ro] (H ++ [.cells [.sl b.length (bytesAV b) .ro], .cells [.sl 0 [] .full], .cells [.int .i64 0], .cells [.int .i64 0]]) True (thrownH 80) _ := .of fun _ => hp
    refine enter (md := fun _ => 0) Tryz.func147 (fun hfit hgl => ?_)
    repeat' (first | refine go ?_ | (refine br (fun hc => ?_) (fun hc => ?_) <;> try (exfalso; omega)) | fail)
    exact .now ⟨rfl, rfl⟩
  · rw [hq] at hp
    simp only [List.append_assoc, List.cons_append, List.nil_append, List.length_append, List.length_cons, List.length_nil, Nat.zero_add, Nat.add_assoc, Nat.reduceAdd] at hp
    have hp2 : Ctr (env n0 w0 gl) 148 [.sl b.length (bytesAV b) .ro] (H ++ [.cells [.sl b.length (bytesAV b) .ro], .cells [.sl 0 [] .full], .cells [.int .i64 0], .cells [.int .i64 0]]) True _ _ := .of fun _ => hp
    obtain ⟨hlb, hub, hiv⟩ := headR_inv hq
    by_cases hlu : l.length ≤ 1000 ∧ u ≤ 100000
    · simp only [if_pos hlu]
      refine enter (md := fun _ => 0) Tryz.func147 (fun hfit hgl => ?_)
      repeat' (first | refine go ?_ | (refine br (fun hc => ?_) (fun hc => ?_) <;> try (exfalso; omega)) | fail)
      refine loop (fun i : Nat => (.ref H.length 0 :: .ref (H.length + 1) 0 :: .ref (H.length + 2) 0 :: .top :: .top :: .top :: .top :: .top :: .top :: .top :: .top :: .top :: .top :: .top :: .top :: .top :: .top :: .vsl (H.length + 6) l.length :: .int .i64 l.length :: .int .i64 (i : Int) :: .top :: .top :: .top :: .top :: .top :: .top :: .top :: .top :: .top :: .top :: .top :: .top :: .top :: []))
        (fun i => H ++ [.cells [.sl b.length (bytesAV b) .ro], .cells [.vsl (H.length + 6) l.length], .cells [.int .i64 u], .cells [.int .i64 0], .cells [.vsl (H.length + 6) l.length], .cells [.int .i64 u], .vec 2 l.length (fldAV (trimTo l i))]) (fun i => i ≤ l.length) (fun i => l.length - i) 0 (Nat.zero_le _) ?_
      intro i hi
      have hfl := fldAV_len (trimTo l i)
      rw [trimTo_len] at hfl
      by_cases hlt : i < l.length
      · have hbd := fldAV_body (l := trimTo l i) (i := i) (by rw [trimTo_len]; exact hlt)
        rw [trimTo_get hlt] at hbd
        have hbl := hiv (l.getD i ([], [])) (by rw [List.getD_eq_getElem?_getD, List.getElem?_eq_getElem hlt]; exact List.getElem_mem _)
        have hh := And.intro hbd hfl
        repeat' (first | refine go ?_ | (refine br (fun hc => ?_) (fun hc => ?_) <;> try (exfalso; omega)) | fail)
        refine againE (i + 1) (by omega) (by omega) ?_
        have e := fldAV_setBody (l := trimTo l i) (i := i) (v := Lib.trimS (l.getD i ([], [])).2 [32, 9]) (by rw [trimTo_len]; exact hlt)
        rw [trimTo_get hlt] at e
        have e2 := trimTo_succ hlt
        unfold trimF at e2
        rw [e2] at e
        rw [← e]
        simp [setRange]
      · obtain rfl : i = l.length := by omega
        have e : trimTo l l.length = l.map trimF := by simp [trimTo]
        rw [e]
        repeat' (first | refine go ?_ | (refine br (fun hc => ?_) (fun hc => ?_) <;> try (exfalso; omega)) | fail)
        exact .now ⟨rfl, rfl⟩
    · simp only [if_neg hlu]
      refine enter (md := fun _ => 0) Tryz.func147 (fun hfit hgl => ?_)
      repeat' (first | refine go ?_ | (refine br (fun hc => ?_) (fun hc => ?_) <;> try (exfalso; omega)) | fail)
      all_goals exact .now ⟨rfl, rfl⟩

end Go.Ab.Tryz

end

section
set_option linter.unusedSimpArgs false
set_option linter.unusedVariables false
set_option maxHeartbeats 2000000
set_option maxRecDepth 4000
namespace Go.Ab.Tryz
open Go Go.Ab Go.Proofs
attribute [local irreducible] W Wl Wop TrA WSeq WLoopS FPost DPost RPost WRound DK onEnd
variable {n0 : Nat} {w0 : World} {gl : Nat → List AV} {H : List AO}
attribute [local simp] belowL_bytesAV

instance indexByte13_t (s : List UInt8) : Ctr (env n0 w0 gl) 168 [.str s, .int .u8 13] H True (.int .i64 (Lib.indexByte s 13)) H := indexByte_t s 13
instance indexByte10_t (s : List UInt8) : Ctr (env n0 w0 gl) 168 [.str s, .int .u8 10] H True (.int .i64 (Lib.indexByte s 10)) H := indexByte_t s 10

/-- Whether a field may be shown. -/
def FldOk (f : List UInt8 × List UInt8) : Prop := NameOk f.1 ∧ Lib.indexByte f.2 13 < 0 ∧ Lib.indexByte f.2 10 < 0 ∧ Lib.trimS f.2 [32, 9] = f.2
def showF (f : List UInt8 × List UInt8) : List UInt8 := f.1 ++ [58, 32] ++ f.2 ++ [13, 10]
def showL (l : Flds) : List UInt8 := l.flatMap showF
theorem showL_take {l : Flds} {i : Nat} (h : i < l.length) : showL (l.take (i + 1)) = showL (l.take i) ++ showF (l.getD i ([], [])) := by
  unfold showL
  rw [List.take_add_one, List.flatMap_append, List.getD_eq_getElem?_getD, List.getElem?_eq_getElem h]
  simp only [Option.toList_some, List.flatMap_cons, List.flatMap_nil, List.append_nil, Option.getD_some]
theorem showL_mono (l : Flds) (i : Nat) : (showL (l.take i)).length ≤ (showL l).length := by
  conv => rhs; rw [← List.take_append_drop i l]
  unfold showL
  rw [List.flatMap_append, List.length_append]
  omega
/-- A head shown, or an error's number. -/
noncomputable def showR (l : Flds) : List UInt8 ⊕ Int := if tf (∀ i, i < l.length → FldOk (l.getD i ([], []))) then (if l.length ≤ 1000 ∧ (showL l).length ≤ 99998 then .inl (showL l ++ [13, 10]) else .inr 2) else .inr 80

theorem show1_t (l : Flds) (hl : l.length ≤ 9223372036854775807) (hb : ∀ i, i < l.length → (l.getD i ([], [])).1.length + (l.getD i ([], [])).2.length ≤ 1000000) : AEnter (env n0 w0 gl) 167 [.ref H.length 0, .ref (H.length + 1) 0] (H ++ [.cells [.sl l.length (fldAV l) .ro], .cells [.sl 0 [] .full], .cells [.int .i64 0]])
    (fun y H' => match showR l with
    | .inl s => y = .ret (.tup []) ∧ H' = H ++ [.cells [.sl l.length (fldAV l) .ro], .cells [.vsl (H.length + 3) s.length], .cells [.int .i64 0], .vec 1 s.length (bytesAV s)]
    | .inr e => y = .panic (thrownH e) ∧ ∃ x z, H' = H ++ .cells [.sl l.length (fldAV l) .ro] :: .cells [x] :: .cells [.int .i64 0] :: z) := by
  have hfl := fldAV_len l
  refine enter (md := fun _ => 0) Tryz.func167 (fun hfit hgl => ?_)
  have hgl2 : ∀ i, belowL (H.length + 3) ((env n0 w0 gl).gl i) = true := by simpa using hgl
  have hfit2 : Fit (H.length + 3) H := fun o ho => by have := hfit o (List.mem_append_left _ ho); simpa using this
  refine gos ?_
  refine wseq_shift (Shift.cellVec 1 (H.length + 1) 0 (xs := [.sl 0 [] .full]) (by simp [getE]) (by simp) rfl rfl) ?_
  simp only [List.append_assoc, List.cons_append, List.nil_append, setE, List.set_cons_succ, List.set_cons_zero, List.length_append, List.length_cons, List.length_nil, Nat.zero_add, Nat.reduceAdd]
  repeat' (first | refine go ?_ | (refine br (fun hc => ?_) (fun hc => ?_) <;> try (exfalso; omega)) | fail)
  refine loop (fun i : Nat => (.ref H.length 0 :: .ref (H.length + 1) 0 :: .top :: .top :: .top :: .top :: .top :: .sl l.length (fldAV l) .ro :: .int .i64 l.length :: .int .i64 (i : Int) :: .top :: .top :: .top :: .top :: .top :: .top :: .top :: .top :: .top :: .top :: .top :: .top :: .top :: .top :: .top :: .top :: .top :: .top :: .top :: .top :: .top :: .top :: .top :: .top :: .top :: .top :: .top :: .top :: .top :: .top :: .top :: .top :: .top :: .top :: .top :: .top :: .top :: .top :: .top :: .top :: .top :: .top :: .top :: .top :: .top :: .top :: .top :: .top :: .top :: .top :: .top :: .top :: .top :: .top :: .top :: [])) (fun _ => H ++ [.cells [.sl l.length (fldAV l) .ro], .cells [.vsl (H.length + 3) 0], .cells [.int .i64 0], .vec 1 0 []]) (fun i => i ≤ l.length ∧ ∀ k, k < i → FldOk (l.getD k ([], []))) (fun i => l.length - i) 0 ⟨Nat.zero_le _, fun k h => absurd h (Nat.not_lt_zero _)⟩ ?_
  rintro i ⟨hi, hall⟩
  by_cases hlt : i < l.length
  · have hat := fldAV_at hlt
    have hbi := hb i hlt
    generalize hf : l.getD i ([], []) = f at *
    have hno : ¬ FldOk f → showR l = .inr 80 := fun h => by
      unfold showR
      rw [tf_false (fun hh => h (hf ▸ hh i hlt))]; rfl
    have hyes : FldOk f → ∀ k, k < i + 1 → FldOk (l.getD k ([], [])) := fun h k hk => by
      rcases Nat.lt_succ_iff_lt_or_eq.1 hk with h1 | h1
      · exact hall k h1
      · subst h1; rw [hf]; exact h
    by_cases hN : NameOk f.1
    · by_cases hT : Lib.trimS f.2 [32, 9] = f.2
      · have hh := And.intro hfl (And.intro hat (And.intro (tf_true hN) hT))
        repeat' (first | refine go ?_ | (refine br (fun hc => ?_) (fun hc => ?_) <;> try (exfalso; omega)) | fail)
        · rw [show ∀ a b c d e : AO, H ++ [a, b, c, d, e] = (H ++ [a, b, c, d]) ++ [e] from fun _ _ _ _ _ => by simp]
          exact again (i + 1) ⟨by omega, hyes ⟨hN, by omega, by omega, hT⟩⟩
        all_goals
          intro ts
          repeat' (first | refine go ?_ | (refine br (fun hc => ?_) (fun hc => ?_) <;> try (exfalso; omega)) | fail)
          rw [hno (by rintro ⟨h1, h2, h3, h4⟩; omega)]
          exact .now ⟨rfl, _, _, rfl⟩
      · have hh := And.intro hfl (And.intro hat (And.intro (tf_true hN) hT))
        repeat' (first | refine go ?_ | (refine br (fun hc => ?_) (fun hc => ?_) <;> try (exfalso; omega)) | fail)
        all_goals
          intro ts
          repeat' (first | refine go ?_ | (refine br (fun hc => ?_) (fun hc => ?_) <;> try (exfalso; omega)) | fail)
          rw [hno (by rintro ⟨h1, h2, h3, h4⟩; first | exact hT h4 | omega)]
          exact .now ⟨rfl, _, _, rfl⟩
    · have hh := And.intro hfl (And.intro hat (tf_false hN))
      repeat' (first | refine go ?_ | (refine br (fun hc => ?_) (fun hc => ?_) <;> try (exfalso; omega)) | fail)
      all_goals
        intro ts
        repeat' (first | refine go ?_ | (refine br (fun hc => ?_) (fun hc => ?_) <;> try (exfalso; omega)) | fail)
        rw [hno (fun h => hN h.1)]
        exact .now ⟨rfl, _, _, rfl⟩
  · obtain rfl : i = l.length := by omega
    have hR : showR l = if l.length ≤ 1000 ∧ (showL l).length ≤ 99998 then .inl (showL l ++ [13, 10]) else .inr 2 := by unfold showR; rw [tf_true hall]; rfl
    have hh := hfl
    repeat' (first | refine go ?_ | (refine br (fun hc => ?_) (fun hc => ?_) <;> try (exfalso; omega)) | fail)
    · refine loop (fun i : Nat => (.ref H.length 0 :: .ref (H.length + 1) 0 :: .top :: .top :: .top :: .top :: .top :: .top :: .top :: .top :: .top :: .top :: .top :: .top :: .top :: .top :: .top :: .top :: .top :: .top :: .top :: .top :: .top :: .top :: .top :: .top :: .top :: .top :: .top :: .top :: .top :: .top :: .top :: .top :: .top :: .top :: .top :: .top :: .top :: .top :: .top :: .top :: .top :: .sl l.length (fldAV l) .ro :: .int .i64 l.length :: .int .i64 (i : Int) :: .top :: .top :: .top :: .top :: .top :: .top :: .top :: .top :: .top :: .top :: .top :: .top :: .top :: .top :: .top :: .top :: .top :: .top :: .top :: [])) (fun i => H ++ [.cells [.sl l.length (fldAV l) .ro], .cells [.vsl (H.length + 3) (showL (l.take i)).length], .cells [.int .i64 0], .vec 1 (showL (l.take i)).length (bytesAV (showL (l.take i)))]) (fun i => i ≤ l.length ∧ (showL (l.take i)).length ≤ 99998) (fun i => l.length - i) 0 ⟨Nat.zero_le _, by simp [showL]⟩ ?_
      rintro i ⟨hi, hle⟩
      by_cases hlt : i < l.length
      · have hat := fldAV_at hlt
        have hbi := hb i hlt
        have hst := showL_take hlt
        have hmo := showL_mono l (i + 1)
        generalize hf : l.getD i ([], []) = f at *
        have hNl := (hall i hlt).1.2.2
        rw [hf] at hNl
        have hh := And.intro hfl hat
        have hsl : (showL (l.take (i + 1))).length = (showL (l.take i)).length + (f.1.length + (f.2.length + 4)) := by rw [hst]; simp [showF]
        have hsb : bytesAV (showL (l.take (i + 1))) = bytesAV (showL (l.take i)) ++ bytesAV (f.1 ++ 58 :: 32 :: (f.2 ++ [13, 10])) := by rw [hst, bytesAV_append]; simp [showF]
        repeat' (first | refine go ?_ | (refine br (fun hc => ?_) (fun hc => ?_) <;> try (exfalso; omega)) | fail)
        · rw [show ∀ a b c d e : AO, H ++ [a, b, c, d, e] = (H ++ [a, b, c, d]) ++ [e] from fun _ _ _ _ _ => by simp, ← hsl, ← hsb]
          exact again (i + 1) ⟨by omega, by omega⟩
        · rw [hR, if_neg (by omega)]
          exact .now ⟨rfl, _, _, rfl⟩
      · obtain rfl : i = l.length := by omega
        rw [List.take_length] at hle ⊢
        repeat' (first | refine go ?_ | (refine br (fun hc => ?_) (fun hc => ?_) <;> try (exfalso; omega)) | fail)
        rw [hR, if_pos ⟨by omega, by omega⟩]
        refine .now ⟨rfl, ?_⟩
        simp [bytesAV_append, bytesAV, byteAV]
    · rw [hR, if_neg (by omega)]
      exact .now ⟨rfl, _, _, rfl⟩

end Go.Ab.Tryz

end

section
set_option linter.unusedSimpArgs false
set_option linter.unusedVariables false
set_option maxHeartbeats 2000000
set_option maxRecDepth 4000
namespace Go.Ab.Tryz
open Go Go.Ab Go.Proofs
attribute [local irreducible] W Wl Wop TrA WSeq WLoopS FPost DPost RPost WRound DK onEnd
variable {n0 : Nat} {w0 : World} {gl : Nat → List AV} {H : List AO}
attribute [local simp] belowL_bytesAV

def showV : List UInt8 ⊕ Int → AV
  | .inl s => .tup [.sl s.length (bytesAV s) .ro, .int .i64 0]
  | .inr e => .tup [.sl 0 [] .full, .int .i64 e]
theorem showR_e {l : Flds} {e : Int} (h : showR l = .inr e) : e ≠ 0 := by
  unfold showR at h
  split at h
  · split at h
    · simp at h
    · simp only [Sum.inr.injEq] at h; omega
  · simp only [Sum.inr.injEq] at h; omega

instance show_t (l : Flds) : Ctr (env n0 w0 gl) 93 [.sl l.length (fldAV l) .ro] H (l.length ≤ 9223372036854775807 ∧ ∀ i, i < l.length → (l.getD i ([], [])).1.length + (l.getD i ([], [])).2.length ≤ 1000000) (showV (showR l)) H := .of fun ⟨hl, hb⟩ => by
  have hp := show1_t (n0 := n0) (w0 := w0) (gl := gl) (H := H) l hl hb
  refine enter (md := fun _ => 0) Tryz.func93 (fun hfit hgl => ?_)
  repeat' (first | refine go ?_ | (refine br (fun hc => ?_) (fun hc => ?_) <;> try (exfalso; omega)) | fail)
  ((with_reducible apply wop_call); (· rfl); (· rfl); (· (simp only [AAct.ev, List.getD_cons_zero, List.getD_cons_succ, constAV, env_gl]; try exact rfl)); (· (simp only [evCallArgs, List.map_cons, List.map_nil, List.nil_append, List.append_nil, List.cons_append, Array.toList, List.toList_toArray, AAct.ev, List.getD_cons_zero, List.getD_cons_succ, constAV, env_gl]; try exact rfl)))
  rcases hq : showR l with s | e
  · rw [hq] at hp
    refine (head_caught_t (R := fun x H' => x = .ret (.int .i64 0) ∧ H' = H ++ [.cells [.sl l.length (fldAV l) .ro], .cells [.vsl (H.length + 3) s.length], .cells [.int .i64 0], .vec 1 s.length (bytesAV s)]) _ [] _ fun hf2 => ?_).call.mono ?_
    · simp only [List.append_assoc, List.cons_append, List.nil_append]
      refine hp.call.mono ?_
      rintro x H' ⟨rfl, rfl⟩
      exact ⟨by simp, .inl ⟨rfl, .now ⟨rfl, by simp⟩⟩⟩
    · rintro x H' ⟨rfl, rfl⟩
      refine gos ?_
      refine wseq_shift (Shift.cellKnow (H.length + 1) 0 (H.length + 3) (xs := [.vsl (H.length + 3) s.length]) (sz := 1) (n := s.length) (ys := bytesAV s) (by simp [getE]) rfl (by simp) (by simp [getE]) rfl) ?_
      simp only [getE, setE, List.set_cons_succ, List.set_cons_zero]
      repeat' (first | refine go ?_ | (refine br (fun hc => ?_) (fun hc => ?_) <;> try (exfalso; omega)) | fail)
      exact .junkd ⟨rfl, rfl⟩
  · rw [hq] at hp
    have he := showR_e hq
    refine (head_caught_t (R := fun x H' => x = .ret (.int .i64 e) ∧ ∃ x z, H' = H ++ .cells [.sl l.length (fldAV l) .ro] :: .cells [x] :: .cells [.int .i64 e] :: z) _ [] _ fun hf2 => ?_).call.mono ?_
    · simp only [List.append_assoc, List.cons_append, List.nil_append]
      refine hp.call.mono ?_
      rintro x H' ⟨rfl, y, z, rfl⟩
      refine ⟨by simp, .inr ⟨e, rfl, ?_⟩⟩
      exact .now ⟨rfl, y, z, by simp⟩
    · rintro x H' ⟨rfl, y, z, rfl⟩
      repeat' (first | refine go ?_ | (refine br (fun hc => ?_) (fun hc => ?_) <;> try (exfalso; omega)) | fail)
      exact .junkd ⟨rfl, rfl⟩

end Go.Ab.Tryz

end
