/- Contracts of the library, laid at this seat. -/
import Derived.Shelf.Bytes.IndexByte
import Derived.Shelf.Bytes.SlClone
import Derived.Shelf.Bytes.SlIndexAt
import Derived.Shelf.Bytes.Small
import Derived.Shelf.Strconv.Itoa1
import Derived.Shelf.Strconv.Itoa2
import Derived.Shelf.Strconv.Itoa3
import Derived.Shelf.Strconv.Itoa4
import Derived.Test.YtadghefkbjacjaaGreatDoorProg
import Derived.Test.YtadghefkbjacjaaGreatDoorAbTryz
import Derived.Test.YtadghefkbjacjaaGreatDoorFrE
import Derived.Test.YtadghefkbjacjaaGreatDoorSPath
import Derived.Lib.AppendIntMem
section
namespace Go.Proofs
open Go.Shelf
def Tryz.lays283_ren : Go.Shelf.Ren := ⟨fun | 283 => 271 | n => n, fun | 3 => 3 | 9 => 9 | 4 => 4 | n => n, fun | n => n⟩
theorem Tryz.lays283 : Go.Proofs.Lays.n283 Tryz.prog Tryz.lays283_ren := {
  mixed := by kernel_rfl
  f283 := Tryz.func271.trans (congrArg some (by kernel_rfl))
  t3 := Tryz.underlying3
  a3 := Tryz.isAgg3
  z3 := Tryz.sizeOf3
  v3 := Tryz.zeroValue3
  t4 := Tryz.underlying4
  a4 := Tryz.isAgg4
  z4 := Tryz.sizeOf4
  v4 := Tryz.zeroValue4
  t9 := Tryz.underlying9
  a9 := Tryz.isAgg9
  z9 := Tryz.sizeOf9
  v9 := Tryz.zeroValue9 }
open Go.Lib in
theorem Tryz.internal_strconv_small (i : Nat) (h : i < 100) (w : World) :
    Calls Tryz.prog 271 #[.int .i64 i] w fun e w' => e = .returned (.string ⟨(Lib.decDigits i).toArray⟩) ∧ w' = w := Any.internal_strconv_small Tryz.lays283 i h w
def Tryz.laysM284_ren : Go.Shelf.Ren := ⟨fun | 284 => 272 | 129 => 323 | 317 => 331 | 318 => 332 | n => n, fun | 53 => 197 | 3 => 3 | 212 => 337 | 0 => 0 | 4 => 4 | 46 => 193 | 5 => 5 | 9 => 9 | n => n, fun | 17 => 3 | n => n⟩
theorem Tryz.laysM284 : Go.Proofs.LaysM.n284 Tryz.prog Tryz.laysM284_ren := {
  mixed := by kernel_rfl
  f129 := Tryz.func323.trans (congrArg some (by kernel_rfl))
  f284 := Tryz.func272.trans (congrArg some (by kernel_rfl))
  f317 := Tryz.func331.trans (congrArg some (by kernel_rfl))
  f318 := Tryz.func332.trans (congrArg some (by kernel_rfl))
  t0 := Tryz.underlying0
  a0 := Tryz.isAgg0
  z0 := Tryz.sizeOf0
  v0 := Tryz.zeroValue0
  t3 := Tryz.underlying3
  a3 := Tryz.isAgg3
  z3 := Tryz.sizeOf3
  v3 := Tryz.zeroValue3
  t4 := Tryz.underlying4
  a4 := Tryz.isAgg4
  z4 := Tryz.sizeOf4
  v4 := Tryz.zeroValue4
  t5 := Tryz.underlying5
  a5 := Tryz.isAgg5
  z5 := Tryz.sizeOf5
  v5 := Tryz.zeroValue5
  t9 := Tryz.underlying9
  a9 := Tryz.isAgg9
  z9 := Tryz.sizeOf9
  v9 := Tryz.zeroValue9
  t46 := Tryz.underlying193
  a46 := Tryz.isAgg193
  z46 := Tryz.sizeOf193
  v46 := Tryz.zeroValue193
  t53 := Tryz.underlying197
  a53 := Tryz.isAgg197
  z53 := Tryz.sizeOf197
  v53 := Tryz.zeroValue197
  t212 := Tryz.underlying337
  a212 := Tryz.isAgg337
  z212 := Tryz.sizeOf337
  v212 := Tryz.zeroValue337
  g17 := by kernel_rfl
  i0 := by kernel_rfl
  i3 := by kernel_rfl
  i4 := by kernel_rfl
  i5 := by kernel_rfl
  i9 := by kernel_rfl
  i46 := by kernel_rfl
  i53 := by kernel_rfl
  i212 := by kernel_rfl
  m17 := by kernel_rfl }
open Go.Lib in
theorem Tryz.internal_strconv_numDigits (u : Nat) (h1 : 1 ≤ u) (h2 : u < 18446744073709551616) (w : World) (htab : Lib.TabIs Tryz.prog w "internal/strconv.uint64pow10" .u64 Lib.pow10Tab) :
    Calls Tryz.prog 272 #[.int .u64 u] w fun e w' => e = .returned (.int .i64 (Lib.nDigits u)) ∧ w' = w := Any.internal_strconv_numDigits Tryz.laysM284 u h1 h2 w htab
def Tryz.lays285_ren : Go.Shelf.Ren := ⟨fun | 285 => 273 | n => n, fun | 37 => 33 | 53 => 197 | 3 => 3 | 4 => 4 | 51 => 199 | 9 => 9 | 5 => 5 | 0 => 0 | n => n, fun | n => n⟩
theorem Tryz.lays285 : Go.Proofs.Lays.n285 Tryz.prog Tryz.lays285_ren := {
  mixed := by kernel_rfl
  f285 := Tryz.func273.trans (congrArg some (by kernel_rfl))
  t0 := Tryz.underlying0
  a0 := Tryz.isAgg0
  z0 := Tryz.sizeOf0
  v0 := Tryz.zeroValue0
  t3 := Tryz.underlying3
  a3 := Tryz.isAgg3
  z3 := Tryz.sizeOf3
  v3 := Tryz.zeroValue3
  t4 := Tryz.underlying4
  a4 := Tryz.isAgg4
  z4 := Tryz.sizeOf4
  v4 := Tryz.zeroValue4
  t5 := Tryz.underlying5
  a5 := Tryz.isAgg5
  z5 := Tryz.sizeOf5
  v5 := Tryz.zeroValue5
  t9 := Tryz.underlying9
  a9 := Tryz.isAgg9
  z9 := Tryz.sizeOf9
  v9 := Tryz.zeroValue9
  t37 := Tryz.underlying33
  a37 := Tryz.isAgg33
  z37 := Tryz.sizeOf33
  v37 := Tryz.zeroValue33
  t51 := Tryz.underlying199
  a51 := Tryz.isAgg199
  z51 := Tryz.sizeOf199
  v51 := Tryz.zeroValue199
  t53 := Tryz.underlying197
  a53 := Tryz.isAgg197
  z53 := Tryz.sizeOf197
  v53 := Tryz.zeroValue197 }
open Go.RowKit Go.Sort Go.Lib in
theorem Tryz.internal_strconv_formatBase10 (blk off cap : Nat) (u : Nat) (d : Array UInt8) (w : World) (hH : Holds (fun (b : UInt8) => Value.int .u8 (b.toNat : Int)) w blk off d) (hu : u < 10 ^ d.size) (hu64 : u < 18446744073709551616) (hsz : d.size < 4611686018427387904) :
    Calls Tryz.prog 273 #[.slice (some ⟨blk, off, none⟩) d.size cap, .int .u64 u] w fun e w' =>
      e = .returned (.tuple #[]) ∧ ∃ (n v' : Nat) (dk : Array UInt8), w' = (putRow (fun (b : UInt8) => Value.int .u8 (b.toNat : Int)) w blk off dk).drewN n ∧ FmtInv d.size u 0 v' dk := Any.internal_strconv_formatBase10 Tryz.lays285 blk off cap u d w hH hu hu64 hsz
def Tryz.laysM171_ren : Go.Shelf.Ren := ⟨fun | 171 => 95 | 243 => 171 | 246 => 196 | 283 => 271 | 284 => 272 | 285 => 273 | 286 => 274 | 129 => 323 | 317 => 331 | 318 => 332 | 319 => 333 | 320 => 334 | 337 => 370 | 338 => 371 | n => n, fun | 3 => 3 | 9 => 9 | 2 => 2 | 4 => 4 | 171 => 291 | 0 => 0 | 53 => 197 | 37 => 33 | 5 => 5 | 173 => 294 | 212 => 337 | 51 => 199 | 20 => 20 | 213 => 338 | 46 => 193 | 232 => 44 | 233 => 375 | n => n, fun | 17 => 3 | 18 => 6 | 19 => 7 | n => n⟩
theorem Tryz.laysM171 : Go.Proofs.LaysM.n171 Tryz.prog Tryz.laysM171_ren := {
  mixed := by kernel_rfl
  f129 := Tryz.func323.trans (congrArg some (by kernel_rfl))
  f171 := Tryz.func95.trans (congrArg some (by kernel_rfl))
  f243 := Tryz.func171.trans (congrArg some (by kernel_rfl))
  f246 := Tryz.func196.trans (congrArg some (by kernel_rfl))
  f283 := Tryz.func271.trans (congrArg some (by kernel_rfl))
  f284 := Tryz.func272.trans (congrArg some (by kernel_rfl))
  f285 := Tryz.func273.trans (congrArg some (by kernel_rfl))
  f286 := Tryz.func274.trans (congrArg some (by kernel_rfl))
  f317 := Tryz.func331.trans (congrArg some (by kernel_rfl))
  f318 := Tryz.func332.trans (congrArg some (by kernel_rfl))
  f319 := Tryz.func333.trans (congrArg some (by kernel_rfl))
  f320 := Tryz.func334.trans (congrArg some (by kernel_rfl))
  f337 := Tryz.func370.trans (congrArg some (by kernel_rfl))
  f338 := Tryz.func371.trans (congrArg some (by kernel_rfl))
  t0 := Tryz.underlying0
  a0 := Tryz.isAgg0
  z0 := Tryz.sizeOf0
  v0 := Tryz.zeroValue0
  t2 := Tryz.underlying2
  a2 := Tryz.isAgg2
  z2 := Tryz.sizeOf2
  v2 := Tryz.zeroValue2
  t3 := Tryz.underlying3
  a3 := Tryz.isAgg3
  z3 := Tryz.sizeOf3
  v3 := Tryz.zeroValue3
  t4 := Tryz.underlying4
  a4 := Tryz.isAgg4
  z4 := Tryz.sizeOf4
  v4 := Tryz.zeroValue4
  t5 := Tryz.underlying5
  a5 := Tryz.isAgg5
  z5 := Tryz.sizeOf5
  v5 := Tryz.zeroValue5
  t9 := Tryz.underlying9
  a9 := Tryz.isAgg9
  z9 := Tryz.sizeOf9
  v9 := Tryz.zeroValue9
  t20 := Tryz.underlying20
  a20 := Tryz.isAgg20
  z20 := Tryz.sizeOf20
  v20 := Tryz.zeroValue20
  t37 := Tryz.underlying33
  a37 := Tryz.isAgg33
  z37 := Tryz.sizeOf33
  v37 := Tryz.zeroValue33
  t46 := Tryz.underlying193
  a46 := Tryz.isAgg193
  z46 := Tryz.sizeOf193
  v46 := Tryz.zeroValue193
  t51 := Tryz.underlying199
  a51 := Tryz.isAgg199
  z51 := Tryz.sizeOf199
  v51 := Tryz.zeroValue199
  t53 := Tryz.underlying197
  a53 := Tryz.isAgg197
  z53 := Tryz.sizeOf197
  v53 := Tryz.zeroValue197
  t171 := Tryz.underlying291
  a171 := Tryz.isAgg291
  z171 := Tryz.sizeOf291
  v171 := Tryz.zeroValue291
  t173 := Tryz.underlying294
  a173 := Tryz.isAgg294
  z173 := Tryz.sizeOf294
  v173 := Tryz.zeroValue294
  t212 := Tryz.underlying337
  a212 := Tryz.isAgg337
  z212 := Tryz.sizeOf337
  v212 := Tryz.zeroValue337
  t213 := Tryz.underlying338
  a213 := Tryz.isAgg338
  z213 := Tryz.sizeOf338
  t232 := Tryz.underlying44
  a232 := Tryz.isAgg44
  z232 := Tryz.sizeOf44
  v232 := Tryz.zeroValue44
  t233 := Tryz.underlying375
  a233 := Tryz.isAgg375
  z233 := Tryz.sizeOf375
  v233 := Tryz.zeroValue375
  g17 := by kernel_rfl
  g18 := by kernel_rfl
  g19 := by kernel_rfl
  i0 := by kernel_rfl
  i2 := by kernel_rfl
  i3 := by kernel_rfl
  i4 := by kernel_rfl
  i5 := by kernel_rfl
  i9 := by kernel_rfl
  i20 := by kernel_rfl
  i37 := by kernel_rfl
  i46 := by kernel_rfl
  i51 := by kernel_rfl
  i53 := by kernel_rfl
  i171 := by kernel_rfl
  i173 := by kernel_rfl
  i212 := by kernel_rfl
  i232 := by kernel_rfl
  i233 := by kernel_rfl
  m17 := by kernel_rfl
  m18 := by kernel_rfl
  m19 := by kernel_rfl }
open Go.RowKit Go.Sort Go.Lib in
theorem Tryz.strconv_Itoa (n : Int) (h0 : -9223372036854775808 ≤ n) (h1 : n ≤ 9223372036854775807) (w : World) (htab : Lib.TabIs Tryz.prog w "internal/strconv.uint64pow10" .u64 Lib.pow10Tab) :
    Calls Tryz.prog 95 #[.int .i64 n] w fun e w' => e = .returned (.string ⟨(Lib.itoa n).toArray⟩) ∧ ∃ k os, w' = grow (w.drewN k) os := Any.strconv_Itoa Tryz.laysM171 n h0 h1 w htab
def Tryz.laysM173_ren : Go.Shelf.Ren := ⟨fun | 173 => 117 | 246 => 196 | 283 => 271 | 284 => 272 | 285 => 273 | 286 => 274 | 129 => 323 | 317 => 331 | 318 => 332 | 319 => 333 | 320 => 334 | 337 => 370 | 338 => 371 | n => n, fun | 2 => 2 | 3 => 3 | 9 => 9 | 4 => 4 | 171 => 291 | 0 => 0 | 53 => 197 | 37 => 33 | 5 => 5 | 173 => 294 | 212 => 337 | 51 => 199 | 20 => 20 | 213 => 338 | 46 => 193 | 232 => 44 | 233 => 375 | n => n, fun | 17 => 3 | 18 => 6 | 19 => 7 | n => n⟩
theorem Tryz.laysM173 : Go.Proofs.LaysM.n173 Tryz.prog Tryz.laysM173_ren := {
  mixed := by kernel_rfl
  f129 := Tryz.func323.trans (congrArg some (by kernel_rfl))
  f173 := Tryz.func117.trans (congrArg some (by kernel_rfl))
  f246 := Tryz.func196.trans (congrArg some (by kernel_rfl))
  f283 := Tryz.func271.trans (congrArg some (by kernel_rfl))
  f284 := Tryz.func272.trans (congrArg some (by kernel_rfl))
  f285 := Tryz.func273.trans (congrArg some (by kernel_rfl))
  f286 := Tryz.func274.trans (congrArg some (by kernel_rfl))
  f317 := Tryz.func331.trans (congrArg some (by kernel_rfl))
  f318 := Tryz.func332.trans (congrArg some (by kernel_rfl))
  f319 := Tryz.func333.trans (congrArg some (by kernel_rfl))
  f320 := Tryz.func334.trans (congrArg some (by kernel_rfl))
  f337 := Tryz.func370.trans (congrArg some (by kernel_rfl))
  f338 := Tryz.func371.trans (congrArg some (by kernel_rfl))
  t0 := Tryz.underlying0
  a0 := Tryz.isAgg0
  z0 := Tryz.sizeOf0
  v0 := Tryz.zeroValue0
  t2 := Tryz.underlying2
  a2 := Tryz.isAgg2
  z2 := Tryz.sizeOf2
  v2 := Tryz.zeroValue2
  t3 := Tryz.underlying3
  a3 := Tryz.isAgg3
  z3 := Tryz.sizeOf3
  v3 := Tryz.zeroValue3
  t4 := Tryz.underlying4
  a4 := Tryz.isAgg4
  z4 := Tryz.sizeOf4
  v4 := Tryz.zeroValue4
  t5 := Tryz.underlying5
  a5 := Tryz.isAgg5
  z5 := Tryz.sizeOf5
  v5 := Tryz.zeroValue5
  t9 := Tryz.underlying9
  a9 := Tryz.isAgg9
  z9 := Tryz.sizeOf9
  v9 := Tryz.zeroValue9
  t20 := Tryz.underlying20
  a20 := Tryz.isAgg20
  z20 := Tryz.sizeOf20
  v20 := Tryz.zeroValue20
  t37 := Tryz.underlying33
  a37 := Tryz.isAgg33
  z37 := Tryz.sizeOf33
  v37 := Tryz.zeroValue33
  t46 := Tryz.underlying193
  a46 := Tryz.isAgg193
  z46 := Tryz.sizeOf193
  v46 := Tryz.zeroValue193
  t51 := Tryz.underlying199
  a51 := Tryz.isAgg199
  z51 := Tryz.sizeOf199
  v51 := Tryz.zeroValue199
  t53 := Tryz.underlying197
  a53 := Tryz.isAgg197
  z53 := Tryz.sizeOf197
  v53 := Tryz.zeroValue197
  t171 := Tryz.underlying291
  a171 := Tryz.isAgg291
  z171 := Tryz.sizeOf291
  v171 := Tryz.zeroValue291
  t173 := Tryz.underlying294
  a173 := Tryz.isAgg294
  z173 := Tryz.sizeOf294
  v173 := Tryz.zeroValue294
  t212 := Tryz.underlying337
  a212 := Tryz.isAgg337
  z212 := Tryz.sizeOf337
  v212 := Tryz.zeroValue337
  t213 := Tryz.underlying338
  a213 := Tryz.isAgg338
  z213 := Tryz.sizeOf338
  t232 := Tryz.underlying44
  a232 := Tryz.isAgg44
  z232 := Tryz.sizeOf44
  v232 := Tryz.zeroValue44
  t233 := Tryz.underlying375
  a233 := Tryz.isAgg375
  z233 := Tryz.sizeOf375
  v233 := Tryz.zeroValue375
  g17 := by kernel_rfl
  g18 := by kernel_rfl
  g19 := by kernel_rfl
  i0 := by kernel_rfl
  i2 := by kernel_rfl
  i3 := by kernel_rfl
  i4 := by kernel_rfl
  i5 := by kernel_rfl
  i9 := by kernel_rfl
  i20 := by kernel_rfl
  i37 := by kernel_rfl
  i46 := by kernel_rfl
  i51 := by kernel_rfl
  i53 := by kernel_rfl
  i171 := by kernel_rfl
  i173 := by kernel_rfl
  i212 := by kernel_rfl
  i232 := by kernel_rfl
  i233 := by kernel_rfl
  m17 := by kernel_rfl
  m18 := by kernel_rfl
  m19 := by kernel_rfl }
open Go.RowKit Go.Sort Go.Lib in
theorem Tryz.strconv_FormatInt_10 (n : Int) (h0 : -9223372036854775808 ≤ n) (h1 : n ≤ 9223372036854775807) (w : World) (htab : Lib.TabIs Tryz.prog w "internal/strconv.uint64pow10" .u64 Lib.pow10Tab) :
    Calls Tryz.prog 117 #[.int .i64 n, .int .i64 10] w fun e w' => e = .returned (.string ⟨(Lib.itoa n).toArray⟩) ∧ ∃ k os, w' = grow (w.drewN k) os := Any.strconv_FormatInt_10 Tryz.laysM173 n h0 h1 w htab
def Tryz.lays187_ren : Go.Shelf.Ren := ⟨fun | 187 => 283 | 255 => 336 | n => n, fun | 37 => 33 | 5 => 5 | 3 => 3 | n => n, fun | n => n⟩
theorem Tryz.lays187 : Go.Proofs.Lays.n187 Tryz.prog Tryz.lays187_ren := {
  mixed := by kernel_rfl
  f187 := Tryz.func283.trans (congrArg some (by kernel_rfl))
  f255 := Tryz.func336.trans (congrArg some (by kernel_rfl))
  t3 := Tryz.underlying3
  a3 := Tryz.isAgg3
  z3 := Tryz.sizeOf3
  v3 := Tryz.zeroValue3
  t5 := Tryz.underlying5
  a5 := Tryz.isAgg5
  z5 := Tryz.sizeOf5
  v5 := Tryz.zeroValue5
  t37 := Tryz.underlying33
  a37 := Tryz.isAgg33
  z37 := Tryz.sizeOf33
  v37 := Tryz.zeroValue33 }
open Go.RowKit Go.Lib in
theorem Tryz.bytes_IndexByte_at (a : Addr) (n c : Nat) (xs : List Int) (cv : Int) (w : World) (hx : xs.length = n) (hc : ∀ i, i < n → w.cell? (a.add i) = some (.int .u8 (xs.getD i 0))) :
    Calls Tryz.prog 283 #[.slice (some a) n c, .int .u8 cv] w fun e w' => e = .returned (.int .i64 (Lib.indexByte (Lib.bytesOf xs) cv.toNat.toUInt8)) ∧ w' = w := Any.bytes_IndexByte_at Tryz.lays187 a n c xs cv w hx hc
def Tryz.laysSlK4_ren : Go.Shelf.Ren := ⟨fun | 4 => 281 | n => n, fun | 22 => 33 | 4 => 4 | 5 => 5 | n => n, fun | n => n⟩
theorem Tryz.laysSlK4 : Go.Proofs.SlLaysK.n4 Tryz.prog Tryz.laysSlK4_ren := {
  mixed := by kernel_rfl
  f4 := Tryz.func281.trans (congrArg some (by kernel_rfl))
  t4 := Tryz.underlying4
  a4 := Tryz.isAgg4
  z4 := Tryz.sizeOf4
  v4 := Tryz.zeroValue4
  t22 := Tryz.underlying33
  a22 := Tryz.isAgg33
  z22 := Tryz.sizeOf33
  v22 := Tryz.zeroValue33
  t5 := Tryz.underlying5
  i5 := by kernel_rfl }
open Go.RowKit Go.Lib in
theorem Tryz.bytes_Clone_at (a : Addr) (n c : Nat) (xs : List Int) (w : World) (hx : xs.length = n) (hbig : n ≤ 140737488355328) (hc : ∀ i, i < n → w.cell? (a.add i) = some (.int .u8 (xs.getD i 0))) :
    Calls Tryz.prog 281 #[.slice (some a) n c] w fun e w' => ∃ v', e = .returned v' ∧ w'.ownsRow w.heap.size 5 1 v' n (xs.map (Value.int .u8)) ∧ v' ≠ .slice none 0 0 ∧ Below w.heap.size w w' := Any.bytes_Clone_at Tryz.laysSlK4 a n c xs w hx hbig hc
open Go.RowKit Go.Lib in
theorem Tryz.bytes_Clone_nil (n c : Nat) (w : World) :
    Calls Tryz.prog 281 #[.slice none n c] w fun e w' => e = .returned (.slice none 0 0) ∧ w' = w := Any.bytes_Clone_nil Tryz.laysSlK4 n c w
theorem Tryz.bytes_IndexByte_nil (cv : Int) (w : World) :
    Calls Tryz.prog 283 #[.slice none 0 0, .int .u8 cv] w fun e w' => e = .returned (.int .i64 (-1)) ∧ w' = w := Any.bytes_IndexByte_nil Tryz.lays187 cv w
end Go.Proofs

end

section
set_option linter.unusedSimpArgs false
set_option linter.unusedVariables false
set_option maxHeartbeats 2000000
set_option maxRecDepth 4000
namespace Go.Ab.Tryz
open Go Go.Ab Go.Proofs
attribute [local irreducible] W Wl Wop TrA WSeq WLoopS FPost DPost RPost WRound DK onEnd
variable {n0 : Nat} {w0 : World} {gl : Nat → List AV} {H : List AO}

/-- The library's table of powers of ten is as it was laid. -/
class Tab10 (n0 : Nat) (w0 : World) : Prop where
  tab : Lib.TabBelow Tryz.prog n0 w0 "internal/strconv.uint64pow10" .u64 Lib.pow10Tab

instance strconvSmall_t (i : Nat) : Ctr (env n0 w0 gl) 271 [.int .i64 i] H (i < 100) (.str (Lib.decDigits i)) H := .of fun h =>
  AEnter.of_calls (fn := Tryz.f271) Tryz.func271 rfl rfl fun g w cs hr hv => by
    obtain ⟨c, rfl, h1⟩ := rels1 hv
    have := h1.int_inv; subst this
    refine (Tryz.internal_strconv_small i h w).mono ?_
    rintro e w' ⟨rfl, rfl⟩
    exact econc_same hr (.str _ _ rfl)

instance numDigits_t [ht : Tab10 n0 w0] (u : Nat) : Ctr (env n0 w0 gl) 272 [.int .u64 u] H (1 ≤ u ∧ u < 18446744073709551616) (.int .i64 (Lib.nDigits u)) H := .of fun ⟨h, h2⟩ =>
  AEnter.of_calls (fn := Tryz.f272) Tryz.func272 rfl rfl fun g w cs hr hv => by
    obtain ⟨c, rfl, h1⟩ := rels1 hv
    have := h1.int_inv; subst this
    refine (Tryz.internal_strconv_numDigits u h h2 w (ht.tab w hr.below)).mono ?_
    rintro e w' ⟨rfl, rfl⟩
    exact econc_same hr (.int _ _)

theorem below_grown {w : World} (k : Nat) (os : Array Obj) : RowKit.Below w.heap.size w (Sort.grow (w.drewN k) os) := ⟨rfl, rfl, rfl, by simp [Sort.grow, World.drewN], fun i hi => by
  simp only [Sort.grow, World.drewN]
  rw [Array.getElem?_append_left (by exact hi)]⟩

instance itoa_t [ht : Tab10 n0 w0] (n : Int) : Ctr (env n0 w0 gl) 95 [.int .i64 n] H (-9223372036854775808 ≤ n ∧ n ≤ 9223372036854775807) (.str (Lib.itoa n)) H := .of fun ⟨h, h2⟩ =>
  AEnter.of_calls (fn := Tryz.f95) Tryz.func95 rfl rfl fun g w cs hr hv => by
    obtain ⟨c, rfl, h1⟩ := rels1 hv
    have := h1.int_inv; subst this
    refine (Tryz.strconv_Itoa n h h2 w (ht.tab w hr.below)).mono ?_
    rintro e w' ⟨rfl, k, os, rfl⟩
    exact econc_ret hr (below_grown k os) (.str _ _ rfl)

instance formatInt_t [ht : Tab10 n0 w0] (n : Int) : Ctr (env n0 w0 gl) 117 [.int .i64 n, .int .i64 10] H (-9223372036854775808 ≤ n ∧ n ≤ 9223372036854775807) (.str (Lib.itoa n)) H := .of fun ⟨h, h2⟩ =>
  AEnter.of_calls (fn := Tryz.f117) Tryz.func117 rfl rfl fun g w cs hr hv => by
    obtain ⟨c, d, rfl, h1, h3⟩ := rels2 hv
    have := h1.int_inv; subst this
    have := h3.int_inv; subst this
    refine (Tryz.strconv_FormatInt_10 n h h2 w (ht.tab w hr.below)).mono ?_
    rintro e w' ⟨rfl, k, os, rfl⟩
    exact econc_ret hr (below_grown k os) (.str _ _ rfl)

/-- Digits written into a row of our own. -/
theorem formatBase10_t (u : Nat) (ys : List UInt8) (id : Nat) (hH : H[id]? = some (.cells (bytesAV ys))) (hn : Lib.nDigits u ≤ ys.length) (hys : ys.length ≤ 1000) (h1u : 1 ≤ Lib.nDigits u) (hp : u < 10 ^ Lib.nDigits u) (h64 : u < 18446744073709551616) :
    Ctr (env n0 w0 gl) 273 [.msl id 0 (Lib.nDigits u), .int .u64 u] H True (.tup []) (H.set id (.cells (bytesAV (Lib.decDigits u ++ ys.drop (Lib.nDigits u))))) := .of fun _ =>
  AEnter.of_calls (fn := Tryz.f273) Tryz.func273 rfl rfl fun g w cs hr hv => by
    obtain ⟨c, d, rfl, h1, h3⟩ := rels2 hv
    have := h3.int_inv; subst this
    obtain ⟨b, ar, T, fz, hb, hnb, hw, hl, hcv, hfz, hK⟩ := hr.objs _ _ hH
    cases h1 with
    | msl id' off n b' off' cap hphi hcap ho =>
      rw [hb] at hphi; injection hphi with hphi; subst hphi
      obtain rfl : off' = 0 := by omega
      have hlen : (bytesAV ys).length = ys.length := by simp [bytesAV]
      rw [hlen] at hl hfz
      have hcell : ∀ j, j < ys.length → ar.getD j undef = .int .u8 ((ys.getD j 0).toNat : Int) := by
        intro j hj
        have h5 := hcv j
        have h6 : (bytesAV ys).getD j .top = .int .u8 ((ys.getD j 0).toNat : Int) := by simp [bytesAV, byteAV, List.getD_eq_getElem?_getD, hj]
        rw [h6] at h5
        exact h5.int_inv
      have hcell2 : ∀ j, j < ys.length → ar[j]? = some (.int .u8 ((ys.getD j 0).toNat : Int)) := by
        intro j hj
        have := hcell j hj
        rw [Array.getD_eq_getD_getElem?, Array.getElem?_eq_getElem (by omega)] at this
        rw [Array.getElem?_eq_getElem (by omega)]; simpa using this
      have hsz : ((ys.take (Lib.nDigits u)).toArray).size = Lib.nDigits u := by simp; omega
      have hHolds : Sort.Holds (fun (b : UInt8) => Value.int .u8 (b.toNat : Int)) w b 0 (ys.take (Lib.nDigits u)).toArray := by
        intro j hj
        rw [hsz] at hj
        constructor
        · have : w.cell? ⟨b, 0 + j, none⟩ = ar[j]? := by unfold World.cell?; simp [hw]
          rw [this, hcell2 j (by omega)]
          have h7 : (ys.take (Lib.nDigits u)).toArray[j]! = ys.getD j 0 := by
            rw [getElem!_pos _ j (by rw [hsz]; exact hj)]
            simp [List.getD_eq_getElem?_getD, List.getElem_take, show j < ys.length by omega]
          simp only [h7]
        · have := hfz j (by omega)
          unfold World.frozen?
          simp only [hw, Nat.zero_add]
          by_cases h1 : fz.1 ≤ j
          · simp [h1, show ¬ j < fz.2 from fun h2 => this ⟨h1, h2⟩]
          · simp [h1]
      have key := Tryz.internal_strconv_formatBase10 b 0 cap u (ys.take (Lib.nDigits u)).toArray w hHolds (by rw [hsz]; exact hp) h64 (by rw [hsz]; omega)
      rw [hsz] at key
      refine key.mono ?_
      rintro e w' ⟨rfl, m, v', dk, rfl, hinv⟩
      have hdk : dk.size = Lib.nDigits u := hinv.size
      have hput : ((Sort.putRow (fun (b : UInt8) => Value.int .u8 (b.toNat : Int)) w b 0 dk).drewN m).heap[b]? = some (.cells (Sort.putCells (fun (b : UInt8) => Value.int .u8 (b.toNat : Int)) 0 dk ar) T fz) := by
        show (Sort.putRow _ w b 0 dk).heap[b]? = _
        unfold Sort.putRow Sort.mapBlock
        simp [Array.getElem?_modify, hw, Sort.onCells]
      have hrep : (env n0 w0 gl).Rep g (H.set id (.cells (bytesAV (Lib.decDigits u ++ ys.drop (Lib.nDigits u))))) ((Sort.putRow (fun (b : UInt8) => Value.int .u8 (b.toNat : Int)) w b 0 dk).drewN m) := by
        refine Rep.write (cs := ar) hr hH hb hput ?_ ?_ ?_ ?_ rfl rfl rfl ?_
        · simp only [bytesAV, List.length_map, List.length_append, Lib.decDigits_length, List.length_drop, Sort.putCells, Array.size_mapIdx]; omega
        · intro k
          by_cases hk : k < ys.length
          · have h9 : (Sort.putCells (fun (b : UInt8) => Value.int .u8 (b.toNat : Int)) 0 dk ar).getD k undef = if k < Lib.nDigits u then .int .u8 (((Lib.decDigits u).getD k 0).toNat : Int) else .int .u8 ((ys.getD k 0).toNat : Int) := by
              rw [Array.getD_eq_getD_getElem?]
              simp only [Sort.putCells, Array.getElem?_mapIdx, hcell2 k hk, Option.map_some, Option.getD_some, Nat.zero_le, true_and, Nat.zero_add, hdk, Nat.sub_zero]
              by_cases hkn : k < Lib.nDigits u
              · rw [if_pos hkn, if_pos hkn]
                have := Lib.row_is_numeral hinv k (by rw [Lib.decDigits_length]; exact hkn)
                rw [← this, List.getD_eq_getElem?_getD, List.getElem?_eq_getElem (by rw [Lib.decDigits_length]; exact hkn)]; rfl
              · rw [if_neg hkn, if_neg hkn]
            have h10 : (bytesAV (Lib.decDigits u ++ ys.drop (Lib.nDigits u))).getD k .top = if k < Lib.nDigits u then .int .u8 (((Lib.decDigits u).getD k 0).toNat : Int) else .int .u8 ((ys.getD k 0).toNat : Int) := by
              have hd := Lib.decDigits_length u
              by_cases hkn : k < Lib.nDigits u
              · rw [if_pos hkn]
                simp [bytesAV, byteAV, List.getD_eq_getElem?_getD, List.getElem?_append_left (show k < ((Lib.decDigits u).map byteAV).length by rw [List.length_map, hd]; exact hkn), show k < (Lib.decDigits u).length by omega]
              · rw [if_neg hkn]
                simp only [bytesAV, List.map_append, List.getD_eq_getElem?_getD]
                rw [List.getElem?_append_right (by rw [List.length_map, hd]; omega), List.length_map, hd, List.getElem?_map, List.getElem?_drop, show Lib.nDigits u + (k - Lib.nDigits u) = k by omega, List.getElem?_eq_getElem hk]
                rfl
            rw [h9, h10]
            split <;> exact .int _ _
          · rw [List.getD_eq_getElem?_getD, List.getElem?_eq_none (by simp only [bytesAV, List.length_map, List.length_append, Lib.decDigits_length, List.length_drop]; omega)]
            exact .top _
        · intro k hk
          simp only [bytesAV, List.length_map, List.length_append, Lib.decDigits_length, List.length_drop] at hk
          exact hfz k (by omega)
        · intro k hk
          show (Sort.putRow _ w b 0 dk).heap[k]? = _
          unfold Sort.putRow Sort.mapBlock
          simp [Array.getElem?_modify, Ne.symm hk]
        · show (Sort.putRow _ w b 0 dk).heap.size = _
          unfold Sort.putRow Sort.mapBlock; simp
      exact ⟨_, _, g, ⟨rfl, rfl⟩, GLe.refl g, hrep, .ret (.tup _ _ rfl (fun i => by simp; exact .top _))⟩

end Go.Ab.Tryz

end

section
set_option linter.unusedSimpArgs false
set_option linter.unusedVariables false
set_option maxHeartbeats 2000000
set_option maxRecDepth 4000
namespace Go.Ab
open Go Go.RowKit
variable {g : Ghost} {H : List AO} {w w' : World} {n0 : Nat} {w0 : World} {gl : Nat → List AV}
/-- A block that a call made is known for good. -/
theorem Rep.learned (hr : Rep n0 w0 gl g H w) (hb : Below w.heap.size w w') {b : Nat} (hlt : w.heap.size ≤ b) {cs : Array Value} {T : TypeId} {fz : Nat × Nat} (hc : w'.heap[b]? = some (.cells cs T fz)) (n : Nat) :
    Rep n0 w0 gl (g.learn b (fun o => if o < n then cs[o]? else none)) H w' := by
  have hn0 : n0 ≤ w.heap.size := Nat.le_trans hr.n0le hr.below.size
  have hk := hr.kept hb
  have le := g.learn_le b (fun o => if o < n then cs[o]? else none)
  refine ⟨hk.below, hk.n0le, fun b' x v h => ?_, hk.len, hk.beyond, fun i x h => ?_, hk.apart, fun i => (hk.glob i).mono le⟩
  · have h' : (if b' = b then (match g.K b' x with | some v => some v | none => if x < n then cs[x]? else none) else g.K b' x) = some v := h
    split at h'
    · rename_i e
      subst e
      cases hk2 : g.K b' x with
      | some u => exact absurd (hr.K_lt hk2) (by omega)
      | none =>
        rw [hk2] at h'
        simp only at h'
        split at h'
        · rw [cell_of_heap hc]; exact h'
        · simp at h'
    · exact hk.know _ _ _ h'
  · refine ORep.frame h (hk.objs i x h) le (fun _ _ => rfl) (fun b' hb' o ho => ?_) (fun _ h => h)
    have := (hr.own_lt hb').1
    show (if b' = b then _ else _) = none
    rw [if_neg (by omega)]; exact ho
theorem learned_at (hr : Rep n0 w0 gl g H w) {b : Nat} (hlt : w.heap.size ≤ b) (cs : Array Value) (n o : Nat) (ho : o < n) {v : Value} (hv : cs[o]? = some v) : (g.learn b (fun o => if o < n then cs[o]? else none)).K b o = some v := by
  show (if b = b then (match g.K b o with | some v => some v | none => if o < n then cs[o]? else none) else g.K b o) = some v
  rw [if_pos rfl]
  cases hk : g.K b o with
  | some u => exact absurd (hr.K_lt hk) (by omega)
  | none => simp only; rw [if_pos ho]; exact hv
end Go.Ab

namespace Go.Ab.Tryz
open Go Go.Ab Go.Proofs
attribute [local irreducible] W Wl Wop TrA WSeq WLoopS FPost DPost RPost WRound DK onEnd
variable {n0 : Nat} {w0 : World} {gl : Nat → List AV} {H : List AO}

theorem bytesOf_int (s : List UInt8) : Lib.bytesOf (s.map fun b => (b.toNat : Int)) = s := by
  unfold Lib.bytesOf
  rw [List.map_map]
  conv => rhs; rw [← List.map_id s]
  exact List.map_congr_left fun b _ => by simp
theorem addr_plus (b o i : Nat) : (⟨b, o, none⟩ : Addr).add i = ⟨b, o + i, none⟩ := by
  unfold Addr.add
  split
  · rename_i h; subst h; rfl
  · rfl

instance bIndexByte_t (s : List UInt8) (tok : Tok) (c : UInt8) : Ctr (env n0 w0 gl) 283 [.sl s.length (bytesAV s) tok, .int .u8 c.toNat] H True (.int .i64 (Lib.indexByte s c)) H := .of fun _ =>
  AEnter.of_calls (fn := Tryz.f283) Tryz.func283 rfl rfl fun g w cs hr hv => by
    obtain ⟨c1, d, rfl, h1, h2⟩ := rels2 hv
    have := h2.int_inv; subst this
    rcases sl_bytes hr h1 rfl with ⟨rfl, rfl⟩ | ⟨a1, k1, rfl, hk1, hcell1⟩
    · refine (Tryz.bytes_IndexByte_nil _ w).mono ?_
      rintro e w' ⟨rfl, rfl⟩
      exact econc_same hr (.int _ _)
    · refine (Tryz.bytes_IndexByte_at a1 s.length k1 (s.map fun b => (b.toNat : Int)) (c.toNat : Int) w (by simp) ?_).mono ?_
      · intro i hi
        rw [(hcell1 i hi).2]
        simp [List.getD_eq_getElem?_getD, hi]
      · rintro e w' ⟨rfl, rfl⟩
        rw [bytesOf_int]
        refine econc_same hr ?_
        have : ((c.toNat : Int)).toNat.toUInt8 = c := by simp
        rw [this]; exact .int _ _
instance bIndexByte58_t (s : List UInt8) (tok : Tok) : Ctr (env n0 w0 gl) 283 [.sl s.length (bytesAV s) tok, .int .u8 58] H True (.int .i64 (Lib.indexByte s 58)) H := bIndexByte_t s tok 58

instance clone_t (s : List UInt8) (tok : Tok) : Ctr (env n0 w0 gl) 281 [.sl s.length (bytesAV s) tok] H (s.length ≤ 140737488355328) (.sl s.length (bytesAV s) .ro) H := .of fun hs =>
  AEnter.of_calls (fn := Tryz.f281) Tryz.func281 rfl rfl fun g w cs hr hv => by
    obtain ⟨c1, rfl, h1⟩ := rels1 hv
    rcases sl_bytes hr h1 rfl with ⟨rfl, rfl⟩ | ⟨a1, k1, rfl, hk1, hcell1⟩
    · refine (Tryz.bytes_Clone_nil 0 0 w).mono ?_
      rintro e w' ⟨rfl, rfl⟩
      exact econc_same hr (.nsl _ trivial)
    · refine (Tryz.bytes_Clone_at a1 s.length k1 (s.map fun b => (b.toNat : Int)) w (by simp) hs ?_).mono ?_
      · intro i hi
        rw [(hcell1 i hi).2]
        simp [List.getD_eq_getElem?_getD, hi]
      · rintro e w' ⟨v', rfl, hown, hne, hbel⟩
        obtain ⟨hl, ⟨rfl, _⟩ | ⟨b, cap, cur, rfl, hb, hc, hncap, _, hcs, htk⟩⟩ := hown
        · exact absurd rfl hne
        have hrep := Rep.learned hr hbel hb hc s.length
        refine ⟨_, H, _, ⟨rfl, rfl⟩, g.learn_le _ _, hrep, .ret (.sl _ _ _ _ _ _ (fun i => if i < s.length then .int .u8 ((s.getD i 0).toNat : Int) else undef) hncap (fun i hi => ?_) (fun i => ?_) trivial)⟩
        · have hi' : i < s.length := by simpa [bytesAV] using hi
          rw [if_pos hi']
          refine learned_at hr hb cur s.length (0 + i) (by omega) ?_
          have h3 := congrArg (fun l => l[i]?) htk
          simp only [List.getElem?_take, Nat.mul_one, if_pos hi', List.getElem?_map, Array.getElem?_toList] at h3
          rw [Nat.zero_add, h3]
          simp [List.getD_eq_getElem?_getD, hi']
        · by_cases hi' : i < s.length
          · rw [if_pos hi']
            have : (bytesAV s).getD i .top = .int .u8 ((s.getD i 0).toNat : Int) := by simp [bytesAV, byteAV, List.getD_eq_getElem?_getD, hi']
            rw [this]; exact .int _ _
          · rw [List.getD_eq_getElem?_getD, List.getElem?_eq_none (by simp [bytesAV]; omega)]; exact .top _

end Go.Ab.Tryz

end
