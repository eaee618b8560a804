/- Plain laws: records as bytes, numbers of eight bytes. -/
import Derived.Test.YtpdjgbpmlckepaaGreatDoorSDec
set_option linter.unusedSimpArgs false
set_option linter.unusedVariables false
set_option maxHeartbeats 2000000
set_option maxRecDepth 4000
namespace Go.Ab.Tryz
open Go Go.Ab Go.Proofs

/-- A number's bytes, the highest ahead. -/
def be (k : Nat) (n : Int) : List UInt8 := (List.range k).map fun i => UInt8.ofNat ((n / 2 ^ (8 * (k - 1 - i))) % 256).toNat
theorem be_len (k : Nat) (n : Int) : (be k n).length = k := by simp [be]
theorem byte_wrap (x : Int) : AV.int .u8 (IntKind.u8.wrap x) = byteAV (UInt8.ofNat (x % 256).toNat) := by
  have h1 : IntKind.u8.wrap x = x % 256 := by simp [IntKind.wrap, IntKind.signed, IntKind.bits]
  have h2 : 0 ≤ x % 256 := Int.emod_nonneg _ (by decide)
  have h3 : x % 256 < 256 := Int.emod_lt_of_pos _ (by decide)
  unfold byteAV
  rw [h1]
  congr 1
  rw [UInt8.toNat_ofNat']
  omega
/-- Bytes as a number, as it is reckoned. -/
def numF (l : List UInt8) : Int := l.foldl (fun n c => bitsOf .or .i64 (IntKind.i64.wrap (n * 2 ^ 8)) (c.toNat : Int)) 0
def valF (acc : Nat) (l : List UInt8) : Nat := l.foldl (fun n c => 256 * n + c.toNat) acc
theorem valF_mono : ∀ (l : List UInt8) (acc : Nat), acc ≤ valF acc l
  | [], acc => Nat.le_refl _
  | c :: l, acc => Nat.le_trans (show acc ≤ 256 * acc + c.toNat by omega) (valF_mono l _)
theorem or_add {a c : Nat} (hc : c < 256) (h : 256 * a + c < 9223372036854775808) : bitsOf .or .i64 (IntKind.i64.wrap ((a : Int) * 2 ^ 8)) (c : Int) = ((256 * a + c : Nat) : Int) := by
  have e1 : IntKind.i64.wrap ((a : Int) * 2 ^ 8) = ((256 * a : Nat) : Int) := by rw [wrap_i64 (by omega) (by omega)]; omega
  rw [e1]
  unfold bitsOf
  simp only
  have e2 : (BitVec.ofInt IntKind.i64.bits ((256 * a : Nat) : Int) ||| BitVec.ofInt IntKind.i64.bits (c : Int)).toNat = 256 * a + c := by
    show (BitVec.ofInt 64 _ ||| BitVec.ofInt 64 _).toNat = _
    rw [BitVec.toNat_or]
    simp only [BitVec.ofInt_natCast, BitVec.toNat_ofNat]
    rw [Nat.mod_eq_of_lt (by omega), Nat.mod_eq_of_lt (by omega)]
    exact (Nat.two_pow_add_eq_or_of_lt (i := 8) hc a).symm
  rw [e2, wrap_i64 (by omega) (by omega)]
theorem numF_fold : ∀ (l : List UInt8) (acc : Nat), valF acc l < 9223372036854775808 → l.foldl (fun n c => bitsOf .or .i64 (IntKind.i64.wrap (n * 2 ^ 8)) (c.toNat : Int)) (acc : Int) = (valF acc l : Nat)
  | [], acc, _ => rfl
  | c :: l, acc, h => by
    have hc := c.toNat_lt
    have h2 : 256 * acc + c.toNat < 9223372036854775808 := Nat.lt_of_le_of_lt (valF_mono l _) h
    simp only [List.foldl_cons]
    rw [or_add hc h2]
    exact numF_fold l _ h
theorem numF_val {l : List UInt8} (h : valF 0 l < 9223372036854775808) : numF l = (valF 0 l : Nat) := numF_fold l 0 h
theorem numF_snoc (l : List UInt8) (c : UInt8) : numF (l ++ [c]) = bitsOf .or .i64 (IntKind.i64.wrap (numF l * 2 ^ 8)) (c.toNat : Int) := by simp [numF]
theorem be4_eq (n : Nat) : be 4 (n : Int) = [UInt8.ofNat (n / 16777216 % 256), UInt8.ofNat (n / 65536 % 256), UInt8.ofNat (n / 256 % 256), UInt8.ofNat (n % 256)] := by
  have h : ∀ k : Nat, (((n : Int) / 2 ^ k) % 256).toNat = n / 2 ^ k % 256 := fun k => by
    have : ((n : Int) / 2 ^ k) % 256 = ((n / 2 ^ k % 256 : Nat) : Int) := by push_cast; rfl
    rw [this]; rfl
  unfold be
  simp only [h]
  simp [List.range, List.range.loop]
theorem be8_eq (n : Nat) : be 8 (n : Int) = [UInt8.ofNat (n / 72057594037927936 % 256), UInt8.ofNat (n / 281474976710656 % 256), UInt8.ofNat (n / 1099511627776 % 256), UInt8.ofNat (n / 4294967296 % 256), UInt8.ofNat (n / 16777216 % 256), UInt8.ofNat (n / 65536 % 256), UInt8.ofNat (n / 256 % 256), UInt8.ofNat (n % 256)] := by
  have h : ∀ k : Nat, (((n : Int) / 2 ^ k) % 256).toNat = n / 2 ^ k % 256 := fun k => by
    have : ((n : Int) / 2 ^ k) % 256 = ((n / 2 ^ k % 256 : Nat) : Int) := by push_cast; rfl
    rw [this]; rfl
  unfold be
  simp only [h]
  simp [List.range, List.range.loop]
theorem ofNat_mod (x : Nat) : (UInt8.ofNat (x % 256)).toNat = x % 256 := by rw [UInt8.toNat_ofNat']; omega
theorem numF_be8 {n : Int} (h0 : 0 ≤ n) (h1 : n ≤ 9223372036854775807) : numF (be 8 n) = n := by
  obtain ⟨u, rfl⟩ : ∃ u : Nat, n = (u : Int) := ⟨n.toNat, by omega⟩
  have hv : valF 0 (be 8 (u : Int)) = u := by
    rw [be8_eq]
    simp only [valF, List.foldl_cons, List.foldl_nil, ofNat_mod]
    have d1 : u / 65536 = u / 256 / 256 := by omega
    have d2 : u / 16777216 = u / 65536 / 256 := by omega
    have d3 : u / 4294967296 = u / 16777216 / 256 := by omega
    have d4 : u / 1099511627776 = u / 4294967296 / 256 := by omega
    have d5 : u / 281474976710656 = u / 1099511627776 / 256 := by omega
    have d6 : u / 72057594037927936 = u / 281474976710656 / 256 := by omega
    have d7 : u / 72057594037927936 < 256 := by omega
    generalize u / 72057594037927936 = q7 at *
    generalize u / 281474976710656 = q6 at *
    generalize u / 1099511627776 = q5 at *
    generalize u / 4294967296 = q4 at *
    generalize u / 16777216 = q3 at *
    generalize u / 65536 = q2 at *
    omega
  rw [numF_val (by omega), hv]

/-- A record. -/
structure RecA where
  kind : Int
  m : Msg
  pid : Int
  leaf : List UInt8
  pat : Int
  seg : Int
  count : Int
  root : List UInt8
  prev : List UInt8
  name : List UInt8
  who : List UInt8
def RecA.av (r : RecA) : List AV := .int .i64 r.kind :: (r.m.av ++ (.int .i64 r.pid :: (bytesAV r.leaf ++ (.int .i64 r.pat :: .int .i64 r.seg :: .int .i64 r.count :: (bytesAV r.root ++ (bytesAV r.prev ++ [.str r.name, .str r.who]))))))
structure RecA.Sized (r : RecA) : Prop where
  leaf : r.leaf.length = 32
  root : r.root.length = 32
  prev : r.prev.length = 32
/-- Whether a hold may be. -/
def SignB (c : UInt8) : Prop := c.toNat = 45 ∨ (48 ≤ c.toNat ∧ c.toNat ≤ 57) ∨ (97 ≤ c.toNat ∧ c.toNat ≤ 122)
def HoldOk (name who : List UInt8) : Prop := name.length ≠ 0 ∧ name.length ≤ 30 ∧ (who.length = 0 ∨ MailboxOk who) ∧ ∀ i, i < name.length → SignB (name.getD i 0)
def SealOk (seg count : Int) : Prop := numF (be 4 seg) = seg ∧ numF (be 4 count) = count ∧ 1 ≤ seg ∧ seg ≤ 999999
def RecA.Ok (r : RecA) : Prop := (r.kind = 1 ∧ r.m.EncOk) ∨ (r.kind = 2 ∧ 1 ≤ r.pid ∧ r.pid ≤ 1099511627776 ∧ 0 ≤ r.pat) ∨ (r.kind = 3 ∧ SealOk r.seg r.count) ∨ (r.kind = 4 ∧ HoldOk r.name r.who) ∨ (r.kind = 5 ∧ HoldOk r.name [])
def RecA.bytes (r : RecA) : List UInt8 :=
  if r.kind = 1 then r.m.enc else if r.kind = 2 then be 8 r.pid ++ (be 8 r.pat ++ r.leaf) else if r.kind = 3 then be 4 r.seg ++ (be 4 r.count ++ (r.root ++ r.prev))
  else if r.kind = 4 then putL [r.name, r.who] else putL [r.name]
def RecA.enc (r : RecA) : List UInt8 := UInt8.ofNat r.kind.toNat :: r.bytes
def RecA.err (r : RecA) : Int := if r.kind = 1 then 150 else 160

end Go.Ab.Tryz
