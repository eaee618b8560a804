/- From a row's record to its abstract value. -/
import Derived.Test.YtpdjgbpmlckepaaGreatDoorLMsg
import Derived.Test.YtpdjgbpmlckepaaGreatDoorLRecA
import Derived.OpenShut
set_option linter.unusedVariables false
set_option linter.unusedSimpArgs false
set_option maxRecDepth 10000
namespace Go.Ab.Tryz
open Go Go.Ab Go.Proofs Go.RowKit

def RL (g : Ghost) (ys : List AV) (ls : List Value) : Prop := ls.length = ys.length ∧ ∀ i, VRel g (ys.getD i .top) (ls.getD i undef)
theorem RL.app {g : Ghost} {a b : List AV} {x y : List Value} (h : RL g a x) (k : RL g b y) : RL g (a ++ b) (x ++ y) := by
  refine ⟨by rw [List.length_append, List.length_append, h.1, k.1], fun i => ?_⟩
  by_cases hi : i < a.length
  · have := h.2 i
    simp only [List.getD_eq_getElem?_getD] at this ⊢
    rw [List.getElem?_append_left hi, List.getElem?_append_left (by rw [h.1]; exact hi)]; exact this
  · have := k.2 (i - a.length)
    simp only [List.getD_eq_getElem?_getD] at this ⊢
    rw [List.getElem?_append_right (by omega), List.getElem?_append_right (by rw [h.1]; omega), h.1]; exact this
theorem RL.one {g : Ghost} {a : AV} {x : Value} (h : VRel g a x) : RL g [a] [x] := ⟨rfl, fun i => match i with | 0 => h | _ + 1 => .top _⟩
theorem RL.split {g : Ghost} {a b : List AV} {x : List Value} (n : Nat) (h : RL g a (x.take n)) (k : RL g b (x.drop n)) : RL g (a ++ b) x := by
  have := h.app k
  rwa [List.take_append_drop] at this
theorem cellsR_28 : Tryz.prog.cellsOf 28 = 32 := by kernel_rfl
theorem cellsR_30 : Tryz.prog.cellsOf 30 = 34 := by kernel_rfl
theorem cellsR_32 : Tryz.prog.cellsOf 32 = 66 := by kernel_rfl
theorem cellsR_34 : Tryz.prog.cellsOf 34 = 2 := by kernel_rfl
theorem cellsR_3 : Tryz.prog.cellsOf 3 = 1 := by kernel_rfl
theorem cellsR_36 : Tryz.prog.cellsOf 36 = 109 := by kernel_rfl
theorem cellTR_36 : (Tryz.prog.cellTypes Tryz.prog.depth 36).map (fun l => (l.length, l[4]?, l[6]?)) = some (109, some 22, some 25) := by kernel_rfl

section
variable {H : Type} {enc : TypeId × Value → H} {W : World} {base fuel : Nat} {ls : List Value} {x : DataW H × List MemPlace}
theorem read_arr32 (h : DataW.trod enc Tryz.prog W 0 (fun _ => true) true fuel 28 ls = some x) : ∃ s : List UInt8, s.length = 32 ∧ RL (ghost0 W) (bytesAV s) ls := by
  obtain ⟨xs, m, _, _, hl, hxl, hf⟩ := DataW.trod_array Tryz.underlying28 h
  rw [cellsR_28] at hl
  have key : ∀ i, i < 32 → ∃ n : Int, ls[i]? = some (.int .u8 n) ∧ 0 ≤ n ∧ n < 256 := by
    intro i hi
    have h1 := hf i hi
    rw [cellsN_5, Nat.mul_one, List.getElem?_eq_getElem (by omega)] at h1
    obtain ⟨n, hn, _, hw⟩ := DataW.trod_int Tryz.underlying5 h1
    refine ⟨n, ?_, ?_⟩
    · have : ((ls.drop i).take 1)[0]? = some (.int .u8 n) := by rw [hn]; rfl
      rw [List.getElem?_take_of_lt (by decide), List.getElem?_drop] at this
      exact this
    · simp [Lit.wf, IntKind.min, IntKind.max, IntKind.signed, IntKind.bits] at hw; omega
  refine ⟨ls.map fun v => match v with | .int _ n => UInt8.ofNat n.toNat | _ => 0, by simp [hl], by simp [bytesAV_len], fun i => ?_⟩
  by_cases hi : i < 32
  · obtain ⟨n, hn, h0, h1⟩ := key i hi
    simp only [List.getD_eq_getElem?_getD, bytesAV, List.getElem?_map, hn, Option.map_some, Option.getD_some, byteAV]
    have : ((UInt8.ofNat n.toNat).toNat : Int) = n := by rw [UInt8.toNat_ofNat']; omega
    rw [this]; exact .int _ _
  · rw [List.getD_eq_getElem?_getD, List.getElem?_eq_none (by simp [bytesAV_len, hl]; omega)]; exact .top _
end

theorem arg_rec {H : Type} {enc : TypeId × Value → H} {W : World} {base : Nat} {v : Value} {d : DataW H} {p : List MemPlace} (hok : Value.okWide Tryz.prog W .any base 36 v) (h : DataW.Trod enc Tryz.prog W 0 (fun _ => true) true 36 v d p) :
    ∃ r : RecA, VRel (ghost0 W) (.agg r.av) v ∧ r.Big := by
  have hm : maxLen = 9223372036854775807 := by decide
  simp only [Value.okWide, Tryz.underlying36] at hok
  obtain ⟨cs, rfl, hsz, ts, hts, _, hrow⟩ := hok
  have hct := cellTR_36
  rw [hts] at hct
  simp only [Option.map_some, Option.some.injEq, Prod.mk.injEq] at hct
  rw [cellsR_36] at hsz
  obtain ⟨fuel, h⟩ := h
  obtain ⟨L⟩ := cs
  have hL : L.length = 109 := hsz
  obtain ⟨xs, n, _, _, _, hxl, hf⟩ := DataW.trod_struct Tryz.underlying36 h
  obtain ⟨x0, f0⟩ := field_at hf hxl 0 3 0 rfl
  obtain ⟨x1, f1⟩ := field_at hf hxl 1 27 1 rfl
  obtain ⟨x2, f2⟩ := field_at hf hxl 2 30 7 rfl
  obtain ⟨x3, f3⟩ := field_at hf hxl 3 32 41 rfl
  obtain ⟨x4, f4⟩ := field_at hf hxl 4 34 107 rfl
  simp only [cellsR_3, cellsN_27, cellsR_30, cellsR_32, cellsR_34, Value.cells, List.drop_zero] at f0 f1 f2 f3 f4
  obtain ⟨kind, hkind, _, _⟩ := DataW.trod_int Tryz.underlying3 f0
  have hM4 : ∀ c, ((L.drop 1).take 6)[3]? = some c → (⟨L⟩ : Array Value)[4]? = some c := fun c h => by
    rw [List.getElem?_take_of_lt (by decide), List.getElem?_drop] at h
    simpa using h
  have hM6 : ∀ c, ((L.drop 1).take 6)[5]? = some c → (⟨L⟩ : Array Value)[6]? = some c := fun c h => by
    rw [List.getElem?_take_of_lt (by decide), List.getElem?_drop] at h
    simpa using h
  have hMl : ((L.drop 1).take 6).length = 6 := by rw [List.length_take, List.length_drop, hL]; decide
  -- the message
  have hmsg : ∃ m : Msg, RL (ghost0 W) m.av ((L.drop 1).take 6) ∧ m.Small ∧ m.body.length ≤ 9223372036854775807 ∧ -9223372036854775808 ≤ m.id ∧ m.id ≤ 9223372036854775807 ∧ -9223372036854775808 ≤ m.at_ := by
    generalize (L.drop 1).take 6 = M at *
    rcases M with _ | ⟨c0, _ | ⟨c1, _ | ⟨c2, _ | ⟨c3, _ | ⟨c4, _ | ⟨c5, _ | ⟨c6, l⟩⟩⟩⟩⟩⟩⟩ <;> simp at hMl
    obtain ⟨xs, n, _, _, _, hxl, hf⟩ := DataW.trod_struct Tryz.underlying27 f1
    obtain ⟨y0, a0⟩ := field_at hf hxl 0 2 0 rfl
    obtain ⟨y1, a1⟩ := field_at hf hxl 1 9 1 rfl
    obtain ⟨y2, a2⟩ := field_at hf hxl 2 24 2 rfl
    obtain ⟨y3, a3⟩ := field_at hf hxl 3 25 5 rfl
    simp only [cellsN_2, cellsN_9, cellsN_24, cellsN_25, List.drop_zero, List.drop_succ_cons, List.take_succ_cons, List.take_zero] at a0 a1 a2 a3
    obtain ⟨id, hid, _, hidw⟩ := DataW.trod_int Tryz.underlying2 a0
    obtain ⟨cls, hcls, _, hclsl⟩ := DataW.trod_string Tryz.underlying9 a1
    obtain ⟨ys, n2, _, _, _, hyl, hg⟩ := DataW.trod_struct Tryz.underlying24 a2
    obtain ⟨z0, g0⟩ := field_at hg hyl 0 9 0 rfl
    obtain ⟨z1, g1⟩ := field_at hg hyl 1 22 1 rfl
    obtain ⟨z2, g2⟩ := field_at hg hyl 2 2 2 rfl
    simp only [cellsN_2, cellsN_9, cellsN_22, List.drop_zero, List.drop_succ_cons, List.take_succ_cons, List.take_zero] at g0 g1 g2
    obtain ⟨fro, hfro, _, hfrol⟩ := DataW.trod_string Tryz.underlying9 g0
    obtain ⟨at_, hat, _, hatw⟩ := DataW.trod_int Tryz.underlying2 g2
    injection hid with hid; injection hcls with hcls; injection hfro with hfro; injection hat with hat
    subst hid; subst hcls; subst hfro; subst hat
    obtain ⟨u3, w3, ok3⟩ := hrow 4 c3 (hM4 c3 rfl)
    obtain ⟨u5, w5, ok5⟩ := hrow 6 c5 (hM6 c5 rfl)
    rw [hct.1, show 4 % 109 = 4 from rfl, hct.2.1] at w3
    rw [hct.1, show 6 % 109 = 6 from rfl, hct.2.2] at w5
    obtain rfl : 22 = u3 := Option.some.inj w3
    obtain rfl : 25 = u5 := Option.some.inj w5
    obtain ⟨to, t1, t2, t3⟩ := read_strs Tryz.underlying22 Tryz.underlying9 cellsN_9 g1 ok3
    obtain ⟨body, b1, b2⟩ := read_bytes Tryz.underlying25 Tryz.underlying5 cellsN_5 a3 ok5
    rw [hm] at hclsl hfrol
    have hid2 : -9223372036854775808 ≤ id ∧ id ≤ 9223372036854775807 := by simpa [Lit.wf, IntKind.min, IntKind.max, IntKind.signed, IntKind.bits] using hidw
    have hat2 : -9223372036854775808 ≤ at_ ∧ at_ ≤ 9223372036854775807 := by simpa [Lit.wf, IntKind.min, IntKind.max, IntKind.signed, IntKind.bits] using hatw
    refine ⟨⟨id, cls.data.toList, fro.data.toList, to, at_, body⟩, ⟨rfl, fun i => ?_⟩, ⟨hat2.2, by rw [Array.length_toList]; exact hfrol, t2, t3, by rw [Array.length_toList]; exact hclsl⟩, b2, hid2.1, hid2.2, hat2.1⟩
    match i with
    | 0 => exact .int _ _
    | 1 => exact .str _ _ rfl
    | 2 => exact .str _ _ rfl
    | 3 => exact t1
    | 4 => exact .int _ _
    | 5 => exact b1
    | i + 6 => exact .top _
  obtain ⟨m, rm, m1, m2, m3, m4, m5⟩ := hmsg
  -- what was purged
  obtain ⟨ps, pn, _, _, _, hpl, hpf⟩ := DataW.trod_struct Tryz.underlying30 f2
  obtain ⟨p0, q0⟩ := field_at hpf hpl 0 2 0 rfl
  obtain ⟨p1, q1⟩ := field_at hpf hpl 1 28 1 rfl
  obtain ⟨p2, q2⟩ := field_at hpf hpl 2 2 33 rfl
  simp only [cellsN_2, cellsR_28, List.drop_zero] at q0 q1 q2
  obtain ⟨pid, hpid, _, hpidw⟩ := DataW.trod_int Tryz.underlying2 q0
  obtain ⟨leaf, hleaf, rleaf⟩ := read_arr32 q1
  obtain ⟨pat, hpat, _, hpatw⟩ := DataW.trod_int Tryz.underlying2 q2
  have hpid2 : -9223372036854775808 ≤ pid ∧ pid ≤ 9223372036854775807 := by simpa [Lit.wf, IntKind.min, IntKind.max, IntKind.signed, IntKind.bits] using hpidw
  have hpat2 : -9223372036854775808 ≤ pat ∧ pat ≤ 9223372036854775807 := by simpa [Lit.wf, IntKind.min, IntKind.max, IntKind.signed, IntKind.bits] using hpatw
  -- the seal
  obtain ⟨ss, sn, _, _, _, hsl, hsf⟩ := DataW.trod_struct Tryz.underlying32 f3
  obtain ⟨s0, u0⟩ := field_at hsf hsl 0 3 0 rfl
  obtain ⟨s1, u1⟩ := field_at hsf hsl 1 3 1 rfl
  obtain ⟨s2, u2⟩ := field_at hsf hsl 2 28 2 rfl
  obtain ⟨s3, u3⟩ := field_at hsf hsl 3 28 34 rfl
  simp only [cellsR_3, cellsR_28, List.drop_zero] at u0 u1 u2 u3
  obtain ⟨seg, hseg, _, _⟩ := DataW.trod_int Tryz.underlying3 u0
  obtain ⟨count, hcount, _, _⟩ := DataW.trod_int Tryz.underlying3 u1
  obtain ⟨root, hroot, rroot⟩ := read_arr32 u2
  obtain ⟨prev, hprev, rprev⟩ := read_arr32 u3
  -- the hold
  obtain ⟨ks, kn, _, _, _, hkl, hkf⟩ := DataW.trod_struct Tryz.underlying34 f4
  obtain ⟨k0, v0⟩ := field_at hkf hkl 0 9 0 rfl
  obtain ⟨k1, v1⟩ := field_at hkf hkl 1 9 1 rfl
  simp only [cellsN_9, List.drop_zero] at v0 v1
  obtain ⟨name, hname, _, hnl⟩ := DataW.trod_string Tryz.underlying9 v0
  obtain ⟨who, hwho, _, hwl⟩ := DataW.trod_string Tryz.underlying9 v1
  rw [hm] at hnl hwl
  refine ⟨⟨kind, m, pid, leaf, pat, seg, count, root, prev, name.data.toList, who.data.toList⟩, ?_, ⟨hleaf, hroot, hprev, m1, m2, m3, m4, m5, by simp only [Array.length_toList]; exact hnl, by simp only [Array.length_toList]; exact hwl, hpid2.2, hpat2.2⟩⟩
  have tk : ∀ (a b c : Nat), a ≤ b → ((L.drop c).take b).take a = (L.drop c).take a := fun a b c h => by rw [List.take_take, Nat.min_eq_left h]
  have dk : ∀ (a b c : Nat), ((L.drop c).take b).drop a = (L.drop (c + a)).take (b - a) := fun a b c => by rw [List.drop_take, List.drop_drop]
  rw [tk _ _ _ (by decide)] at hpid hseg hname
  rw [dk] at q1 rleaf hpat hcount rroot rprev hwho
  simp only [List.take_take, Nat.reduceAdd, Nat.reduceSub, show min 1 1 = 1 from rfl, show min 1 65 = 1 from rfl, show min 32 33 = 32 from rfl, show min 32 64 = 32 from rfl, show min 32 32 = 32 from rfl] at rleaf hpat hcount rroot rprev hwho
  have R : RL (ghost0 W) (RecA.av ⟨kind, m, pid, leaf, pat, seg, count, root, prev, name.data.toList, who.data.toList⟩) L := by
    refine RL.split (a := [.int .i64 kind]) 1 (by rw [hkind]; exact .one (.int _ _)) ?_
    refine RL.split 6 rm ?_
    rw [List.drop_drop]
    refine RL.split (a := [.int .i64 pid]) 1 (by rw [hpid]; exact .one (.int _ _)) ?_
    rw [List.drop_drop]
    refine RL.split 32 rleaf ?_
    rw [List.drop_drop]
    refine RL.split (a := [.int .i64 pat]) 1 (by rw [hpat]; exact .one (.int _ _)) ?_
    rw [List.drop_drop]
    refine RL.split (a := [.int .i64 seg]) 1 (by rw [hseg]; exact .one (.int _ _)) ?_
    rw [List.drop_drop]
    refine RL.split (a := [.int .i64 count]) 1 (by rw [hcount]; exact .one (.int _ _)) ?_
    rw [List.drop_drop]
    refine RL.split 32 rroot ?_
    rw [List.drop_drop]
    refine RL.split 32 rprev ?_
    rw [List.drop_drop]
    refine RL.split (a := [.str name.data.toList]) 1 (by rw [hname]; exact .one (.str _ _ rfl)) ?_
    rw [List.drop_drop]
    have hlast : L.drop 108 = (L.drop 108).take 1 := (List.take_of_length_le (by rw [List.length_drop]; omega)).symm
    rw [show 1 + 6 + 1 + 32 + 1 + 1 + 1 + 32 + 32 + 1 = 108 from rfl, hlast, hwho]
    exact .one (.str _ _ rfl)
  exact .agg _ _ R.1 (fun i => by simpa [List.getD_eq_getElem?_getD, Array.getD_eq_getD_getElem?] using R.2 i)

/-- A record that has nothing, for a witness; its datum. -/
def recWit : Value := .agg (([.int .i64 0, .int .i64 0, .string ⟨#[]⟩, .string ⟨#[]⟩, .slice .none 0 0, .int .i64 0, .slice .none 0 0, .int .i64 0] : List Value) ++ (List.replicate 32 (Value.int .u8 0) ++ (([.int .i64 0, .int .i64 0, .int .i64 0] : List Value) ++ (List.replicate 64 (Value.int .u8 0) ++ ([.string ⟨#[]⟩, .string ⟨#[]⟩] : List Value))))).toArray
def recDat {H : Type} : DataW H := .agg [.lit (.int .i64 0), .agg [.lit (.int .i64 0), .lit (.string []), .agg [.lit (.string []), .nil, .lit (.int .i64 0)], .nil], .agg [.lit (.int .i64 0), .agg (List.replicate 32 (.lit (.int .u8 0))), .lit (.int .i64 0)], .agg [.lit (.int .i64 0), .lit (.int .i64 0), .agg (List.replicate 32 (.lit (.int .u8 0))), .agg (List.replicate 32 (.lit (.int .u8 0)))], .agg [.lit (.string []), .lit (.string [])]]

end Go.Ab.Tryz
