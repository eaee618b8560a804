/- Contracts of the library, laid at this seat. -/
import Derived.Shelf.Strconv.ParseIntPublic10
import Derived.Test.YtadghefkbjacjaaGreatDoorProg
import Derived.Test.YtadghefkbjacjaaGreatDoorLConvA
import Derived.Lib.AtoiErrMem
section
namespace Go.Proofs
open Go.Shelf
def Tryz.laysC174_ren : Go.Shelf.Ren := ⟨fun | 174 => 215 | 247 => 237 | 245 => 156 | 287 => 299 | 279 => 238 | 280 => 239 | 281 => 240 | 282 => 241 | 321 => 348 | 322 => 349 | 316 => 300 | 171 => 95 | 205 => 301 | 243 => 171 | 246 => 196 | 283 => 271 | 284 => 272 | 285 => 273 | 286 => 274 | 129 => 323 | 317 => 331 | 318 => 332 | 319 => 333 | 320 => 334 | 337 => 370 | 338 => 371 | n => n, fun | 9 => 9 | 3 => 3 | 2 => 2 | 75 => 133 | 85 => 251 | 4 => 4 | 167 => 274 | 5 => 5 | 53 => 197 | 175 => 311 | 46 => 193 | 168 => 275 | 37 => 33 | 0 => 0 | 210 => 314 | 21 => 21 | 127 => 289 | 145 => 351 | 143 => 349 | 171 => 291 | 173 => 294 | 212 => 337 | 51 => 199 | 20 => 20 | 213 => 338 | 232 => 44 | 233 => 375 | 80 => 148 | n => n, fun | 15 => 1 | 16 => 2 | 17 => 3 | 18 => 6 | 19 => 7 | n => n⟩
theorem Tryz.laysC174 : Go.Proofs.LaysC.n174 Tryz.prog Tryz.laysC174_ren := {
  mixed := by kernel_rfl
  f129 := Tryz.func323.trans (congrArg some (by kernel_rfl))
  f171 := Tryz.func95.trans (congrArg some (by kernel_rfl))
  f174 := Tryz.func215.trans (congrArg some (by kernel_rfl))
  f205 := Tryz.func301.trans (congrArg some (by kernel_rfl))
  f243 := Tryz.func171.trans (congrArg some (by kernel_rfl))
  f245 := Tryz.func156.trans (congrArg some (by kernel_rfl))
  f246 := Tryz.func196.trans (congrArg some (by kernel_rfl))
  f247 := Tryz.func237.trans (congrArg some (by kernel_rfl))
  f279 := Tryz.func238.trans (congrArg some (by kernel_rfl))
  f280 := Tryz.func239.trans (congrArg some (by kernel_rfl))
  f281 := Tryz.func240.trans (congrArg some (by kernel_rfl))
  f282 := Tryz.func241.trans (congrArg some (by kernel_rfl))
  f283 := Tryz.func271.trans (congrArg some (by kernel_rfl))
  f284 := Tryz.func272.trans (congrArg some (by kernel_rfl))
  f285 := Tryz.func273.trans (congrArg some (by kernel_rfl))
  f286 := Tryz.func274.trans (congrArg some (by kernel_rfl))
  f287 := Tryz.func299.trans (congrArg some (by kernel_rfl))
  f316 := Tryz.func300.trans (congrArg some (by kernel_rfl))
  f317 := Tryz.func331.trans (congrArg some (by kernel_rfl))
  f318 := Tryz.func332.trans (congrArg some (by kernel_rfl))
  f319 := Tryz.func333.trans (congrArg some (by kernel_rfl))
  f320 := Tryz.func334.trans (congrArg some (by kernel_rfl))
  f321 := Tryz.func348.trans (congrArg some (by kernel_rfl))
  f322 := Tryz.func349.trans (congrArg some (by kernel_rfl))
  f337 := Tryz.func370.trans (congrArg some (by kernel_rfl))
  f338 := Tryz.func371.trans (congrArg some (by kernel_rfl))
  t0 := Tryz.underlying0
  a0 := Tryz.isAgg0
  z0 := Tryz.sizeOf0
  v0 := Tryz.zeroValue0
  t2 := Tryz.underlying2
  a2 := Tryz.isAgg2
  z2 := Tryz.sizeOf2
  v2 := Tryz.zeroValue2
  t3 := Tryz.underlying3
  a3 := Tryz.isAgg3
  z3 := Tryz.sizeOf3
  v3 := Tryz.zeroValue3
  t4 := Tryz.underlying4
  a4 := Tryz.isAgg4
  z4 := Tryz.sizeOf4
  v4 := Tryz.zeroValue4
  t5 := Tryz.underlying5
  a5 := Tryz.isAgg5
  z5 := Tryz.sizeOf5
  v5 := Tryz.zeroValue5
  t9 := Tryz.underlying9
  a9 := Tryz.isAgg9
  z9 := Tryz.sizeOf9
  v9 := Tryz.zeroValue9
  t20 := Tryz.underlying20
  a20 := Tryz.isAgg20
  z20 := Tryz.sizeOf20
  v20 := Tryz.zeroValue20
  t21 := Tryz.underlying21
  a21 := Tryz.isAgg21
  z21 := Tryz.sizeOf21
  v21 := Tryz.zeroValue21
  t37 := Tryz.underlying33
  a37 := Tryz.isAgg33
  z37 := Tryz.sizeOf33
  v37 := Tryz.zeroValue33
  t46 := Tryz.underlying193
  a46 := Tryz.isAgg193
  z46 := Tryz.sizeOf193
  v46 := Tryz.zeroValue193
  t51 := Tryz.underlying199
  a51 := Tryz.isAgg199
  z51 := Tryz.sizeOf199
  v51 := Tryz.zeroValue199
  t53 := Tryz.underlying197
  a53 := Tryz.isAgg197
  z53 := Tryz.sizeOf197
  v53 := Tryz.zeroValue197
  t75 := Tryz.underlying133
  a75 := Tryz.isAgg133
  z75 := Tryz.sizeOf133
  v75 := Tryz.zeroValue133
  t85 := Tryz.underlying251
  a85 := Tryz.isAgg251
  z85 := Tryz.sizeOf251
  v85 := Tryz.zeroValue251
  t127 := Tryz.underlying289
  a127 := Tryz.isAgg289
  z127 := Tryz.sizeOf289
  v127 := Tryz.zeroValue289
  t143 := Tryz.underlying349
  a143 := Tryz.isAgg349
  z143 := Tryz.sizeOf349
  v143 := Tryz.zeroValue349
  t145 := Tryz.underlying351
  a145 := Tryz.isAgg351
  z145 := Tryz.sizeOf351
  v145 := Tryz.zeroValue351
  t167 := Tryz.underlying274
  a167 := Tryz.isAgg274
  z167 := Tryz.sizeOf274
  v167 := Tryz.zeroValue274
  t168 := Tryz.underlying275
  a168 := Tryz.isAgg275
  z168 := Tryz.sizeOf275
  v168 := Tryz.zeroValue275
  t171 := Tryz.underlying291
  a171 := Tryz.isAgg291
  z171 := Tryz.sizeOf291
  v171 := Tryz.zeroValue291
  t173 := Tryz.underlying294
  a173 := Tryz.isAgg294
  z173 := Tryz.sizeOf294
  v173 := Tryz.zeroValue294
  t175 := Tryz.underlying311
  a175 := Tryz.isAgg311
  z175 := Tryz.sizeOf311
  v175 := Tryz.zeroValue311
  t210 := Tryz.underlying314
  a210 := Tryz.isAgg314
  z210 := Tryz.sizeOf314
  v210 := Tryz.zeroValue314
  t212 := Tryz.underlying337
  a212 := Tryz.isAgg337
  z212 := Tryz.sizeOf337
  v212 := Tryz.zeroValue337
  t213 := Tryz.underlying338
  a213 := Tryz.isAgg338
  z213 := Tryz.sizeOf338
  t232 := Tryz.underlying44
  a232 := Tryz.isAgg44
  z232 := Tryz.sizeOf44
  v232 := Tryz.zeroValue44
  t233 := Tryz.underlying375
  a233 := Tryz.isAgg375
  z233 := Tryz.sizeOf375
  v233 := Tryz.zeroValue375
  g15 := by kernel_rfl
  g16 := by kernel_rfl
  g17 := by kernel_rfl
  g18 := by kernel_rfl
  g19 := by kernel_rfl
  t80 := Tryz.underlying148
  a80 := Tryz.isAgg148
  z80 := Tryz.sizeOf148
  v80 := Tryz.zeroValue148
  i0 := by kernel_rfl
  i2 := by kernel_rfl
  i3 := by kernel_rfl
  i4 := by kernel_rfl
  i5 := by kernel_rfl
  i9 := by kernel_rfl
  i20 := by kernel_rfl
  i21 := by kernel_rfl
  i37 := by kernel_rfl
  i46 := by kernel_rfl
  i51 := by kernel_rfl
  i53 := by kernel_rfl
  i75 := by kernel_rfl
  i80 := by kernel_rfl
  i85 := by kernel_rfl
  i127 := by kernel_rfl
  i143 := by kernel_rfl
  i145 := by kernel_rfl
  i167 := by kernel_rfl
  i168 := by kernel_rfl
  i171 := by kernel_rfl
  i173 := by kernel_rfl
  i175 := by kernel_rfl
  i210 := by kernel_rfl
  i212 := by kernel_rfl
  i232 := by kernel_rfl
  i233 := by kernel_rfl
  m15 := by kernel_rfl
  m16 := by kernel_rfl
  m17 := by kernel_rfl
  m18 := by kernel_rfl
  m19 := by kernel_rfl
  c0 := by kernel_rfl
  c2 := by kernel_rfl
  c3 := by kernel_rfl
  c4 := by kernel_rfl
  c5 := by kernel_rfl
  c9 := by kernel_rfl
  c20 := by kernel_rfl
  c21 := by kernel_rfl
  c37 := by kernel_rfl
  c46 := by kernel_rfl
  c51 := by kernel_rfl
  c53 := by kernel_rfl
  c75 := by kernel_rfl
  c80 := by kernel_rfl
  c85 := by kernel_rfl
  c127 := by kernel_rfl
  c143 := by kernel_rfl
  c145 := by kernel_rfl
  c167 := by kernel_rfl
  c168 := by kernel_rfl
  c171 := by kernel_rfl
  c173 := by kernel_rfl
  c175 := by kernel_rfl
  c210 := by kernel_rfl
  c212 := by kernel_rfl
  c213 := by kernel_rfl
  c232 := by kernel_rfl
  c233 := by kernel_rfl }
open Go.RowKit in
theorem Tryz.strconv_ParseInt_10_at64_ok (s : ByteArray) (hmax : s.size ≤ 9223372036854775806) (v : Int) (h : Lib.parseIntB 64 s.data.toList = .ok v) (w : World) :
    Calls Tryz.prog 215 #[.string s, .int .i64 10, .int .i64 64] w fun e w' => e = .returned (.tuple #[.int .i64 v, .nilIface]) ∧ (w' = w ∨ ∃ t, w' = Lib.bytesWorld w 5 t) := Any.strconv_ParseInt_10_at64_ok Tryz.laysC174 s hmax v h w
end Go.Proofs

end

section
set_option linter.unusedSimpArgs false
set_option linter.unusedVariables false
set_option maxHeartbeats 4000000
set_option maxRecDepth 10000
namespace Go.Ab.Tryz
open Go Go.Ab Go.Proofs
attribute [local irreducible] W Wl Wop TrA WSeq WLoopS FPost DPost RPost WRound DK onEnd
variable {n0 : Nat} {w0 : World} {gl : Nat → List AV} {H : List AO}

/-- The variables of strconv's errors hold an error, or none. -/
def ErrIn (w : World) (i : Nat) : Prop := ∃ ev, w.cell? ⟨i, 0, none⟩ = some ev ∧ (ev = .nilIface ∨ ∃ te pe, ev = .iface te pe)
class Errs (n0 : Nat) (w0 : World) : Prop where
  one : ∀ w, RowKit.Below n0 w0 w → ErrIn w 1
  two : ∀ w, RowKit.Below n0 w0 w → ErrIn w 2

theorem errIn_below {n0 : Nat} {w0 w : World} {i : Nat} (hi : i < n0) (hb : RowKit.Below n0 w0 w) (h : ErrIn w0 i) : ErrIn w i := by
  obtain ⟨ev, h1, h2⟩ := h
  refine ⟨ev, ?_, h2⟩
  rw [← h1]
  simp [World.cell?, hb.block i hi]
/-- What ParseInt answers at any text. -/
noncomputable def pIntV (s : List UInt8) : AV := match Lib.parseIntB 64 s with
  | .ok n => .tup [.int .i64 n, .nili]
  | .range => .tup [.int .i64 (Lib.intSat 64 s), .iface 275 .top]
  | _ => .tup [.int .i64 0, .iface 275 .top]

theorem parseIntB_lo {s : List UInt8} {n : Int} (h : Lib.parseIntB 64 s = .ok n) : -9223372036854775808 ≤ n ∧ n ≤ 9223372036854775807 := by
  have h3 : (2 : Nat) ^ (64 - 1) = 9223372036854775808 := by decide
  unfold Lib.parseIntB at h
  split at h
  · simp at h
  · simp only at h
    split at h <;> (try simp at h)
    all_goals (split at h <;> try simp at h)
    all_goals (try (split at h <;> try simp at h))
    all_goals (try (split at h <;> try simp at h))
    all_goals omega

theorem parseInt_any [he : Errs n0 w0] (s : List UInt8) : Ctr (env n0 w0 gl) 215 [.str s, .int .i64 10, .int .i64 64] H (s.length ≤ 281474976710656) (pIntV s) H := .of fun hs =>
  AEnter.of_calls (fn := Tryz.f215) Tryz.func215 rfl rfl fun g w cs hr hv => by
    obtain ⟨c, ds, rfl, h1, h2⟩ := rels_cons hv
    obtain ⟨d, e, rfl, h3, h4⟩ := rels2 h2
    have := h3.int_inv; subst this
    have := h4.int_inv; subst this
    have := h1.str_inv; subst this
    have hsz : (⟨s.toArray⟩ : ByteArray).size ≤ 281474976710656 := by
      show s.toArray.size ≤ _
      rw [List.size_toArray]; omega
    obtain ⟨e1, q1, q2⟩ := he.one w hr.below
    obtain ⟨e2, q3, q4⟩ := he.two w hr.below
    unfold pIntV
    rcases hq : Lib.parseIntB 64 s with v | _ | _
    · have hrel : VRel g (.tup [.int .i64 v, .nili]) (.tuple #[.int .i64 v, .nilIface]) := .tup _ _ rfl (fun i => match i with | 0 => .int _ _ | 1 => .nili | _ + 2 => .top _)
      refine (Any.strconv_ParseInt_10_at64_ok Tryz.laysC174 ⟨s.toArray⟩ (by omega) v (by simpa using hq) w).mono ?_
      rintro e w' ⟨rfl, rfl | ⟨t, rfl⟩⟩
      · exact econc_same hr hrel
      · exact econc_ret hr (Lib.bytesWorld_below w _ t) hrel
    · first
        | (refine (Any.strconv_ParseInt_10_at64_syntax Tryz.laysC174 ⟨s.toArray⟩ hsz (by simpa using hq) e1 w q1 q2).mono ?_
           rintro e w' ⟨N, rfl, _, _, hb⟩
           exact econc_ret hr hb (.tup _ _ rfl (fun i => match i with | 0 => .int _ _ | 1 => .iface _ _ _ (.top _) | _ + 2 => .top _)))
        | (refine (Any.strconv_ParseInt_10_at64_range Tryz.laysC174 ⟨s.toArray⟩ hsz (by simpa using hq) e2 w q3 q4).mono ?_
           rintro e w' ⟨N, rfl, _, _, hb⟩
           exact econc_ret hr hb (.tup _ _ rfl (fun i => match i with | 0 => .int _ _ | 1 => .iface _ _ _ (.top _) | _ + 2 => .top _)))
    · first
        | (refine (Any.strconv_ParseInt_10_at64_range Tryz.laysC174 ⟨s.toArray⟩ hsz (by simpa using hq) e2 w q3 q4).mono ?_
           rintro e w' ⟨N, rfl, _, _, hb⟩
           exact econc_ret hr hb (.tup _ _ rfl (fun i => match i with | 0 => .int _ _ | 1 => .iface _ _ _ (.top _) | _ + 2 => .top _)))
        | (refine (Any.strconv_ParseInt_10_at64_syntax Tryz.laysC174 ⟨s.toArray⟩ hsz (by simpa using hq) e1 w q1 q2).mono ?_
           rintro e w' ⟨N, rfl, _, _, hb⟩
           exact econc_ret hr hb (.tup _ _ rfl (fun i => match i with | 0 => .int _ _ | 1 => .iface _ _ _ (.top _) | _ + 2 => .top _)))

end Go.Ab.Tryz

end
