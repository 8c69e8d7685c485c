/- Words: the walk's operations on uint8, uint32, uint64 said of Lean's own UInt8, UInt32, UInt64; no condition. -/
import Derived.WalkKit
namespace Go.Proofs.YtdnigbbfiklaoaaDoor
namespace U
theorem wrap_u64 (n : Int) : IntKind.u64.wrap n = n % 18446744073709551616 := by simp [IntKind.wrap, IntKind.bits, IntKind.signed]
theorem lt32 (x : UInt32) : x.toNat < 4294967296 := x.toNat_lt
theorem lt64 (x : UInt64) : x.toNat < 18446744073709551616 := x.toNat_lt
theorem lt16 (x : UInt16) : x.toNat < 65536 := x.toNat_lt
theorem lt8 (x : UInt8) : x.toNat < 256 := x.toNat_lt
theorem castmul (a b m : Nat) : ((a * b % m : Nat) : Int) = (a : Int) * (b : Int) % (m : Int) := by rw [Int.natCast_emod, Int.natCast_mul]
theorem pow_cut (a k n : Nat) : a * 2 ^ min k n % 2 ^ n = a * 2 ^ k % 2 ^ n := by
  by_cases h : k ≤ n
  · rw [Nat.min_eq_left h]
  · rw [Nat.min_eq_right (by omega)]
    obtain ⟨d, rfl⟩ : ∃ d, k = n + d := ⟨k - n, by omega⟩
    rw [Nat.mul_mod_left, Nat.pow_add, ← Nat.mul_assoc, Nat.mul_right_comm, Nat.mul_mod_left]
theorem div_cut (a k n : Nat) (h : a < 2 ^ n) : a / 2 ^ min k n = a / 2 ^ k := by
  by_cases hk : k ≤ n
  · rw [Nat.min_eq_left hk]
  · rw [Nat.min_eq_right (by omega)]
    have e : 2 ^ n ≤ 2 ^ k := Nat.pow_le_pow_right (by decide) (by omega)
    rw [Nat.div_eq_of_lt h, Nat.div_eq_of_lt (by omega)]
theorem fdivN (a k : Nat) : (a : Int).fdiv (2 ^ k) = ((a / 2 ^ k : Nat) : Int) := by
  rw [Int.fdiv_eq_ediv_of_nonneg _ (Int.pow_nonneg (by decide)), Int.natCast_ediv, Int.natCast_pow]; rfl
theorem powN (a k m : Nat) : (a : Int) * 2 ^ k % (m : Int) = ((a * 2 ^ k % m : Nat) : Int) := by
  rw [Int.natCast_emod, Int.natCast_mul, Int.natCast_pow]; rfl


def a8 (x y : UInt8) : UInt8 := x + y
def s8 (x y : UInt8) : UInt8 := x - y
def m8 (x y : UInt8) : UInt8 := x * y
def x8 (x y : UInt8) : UInt8 := x ^^^ y
def n8 (x y : UInt8) : UInt8 := x &&& y
def o8 (x y : UInt8) : UInt8 := x ||| y
def l8 (x : UInt8) (k : Nat) : UInt8 := UInt8.ofNat (x.toNat * 2 ^ k)
def r8 (x : UInt8) (k : Nat) : UInt8 := UInt8.ofNat (x.toNat / 2 ^ k)
theorem w_a8 (x y : UInt8) : IntKind.wrap .u8 ((x.toNat : Int) + (y.toNat : Int)) = ((a8 x y).toNat : Int) := by
  rw [IntKind.wrap_u8, a8, UInt8.toNat_add]; omega
theorem w_s8 (x y : UInt8) : IntKind.wrap .u8 ((x.toNat : Int) - (y.toNat : Int)) = ((s8 x y).toNat : Int) := by
  have := lt8 x; have := lt8 y
  rw [IntKind.wrap_u8, s8, UInt8.toNat_sub]; omega
theorem w_m8 (x y : UInt8) : IntKind.wrap .u8 ((x.toNat : Int) * (y.toNat : Int)) = ((m8 x y).toNat : Int) := by
  rw [IntKind.wrap_u8, m8, UInt8.toNat_mul]; exact (castmul x.toNat y.toNat 256).symm
theorem b_x8 (x y : UInt8) : bits .xor .u8 (x.toNat : Int) (y.toNat : Int) = ((x8 x y).toNat : Int) := by
  rw [u8_xor_nat _ _ (lt8 x) (lt8 y), x8, UInt8.toNat_xor]
theorem b_n8 (x y : UInt8) : bits .and .u8 (x.toNat : Int) (y.toNat : Int) = ((n8 x y).toNat : Int) := by
  rw [u8_and_nat _ _ (lt8 x) (lt8 y), n8, UInt8.toNat_and]
theorem b_o8 (x y : UInt8) : bits .or .u8 (x.toNat : Int) (y.toNat : Int) = ((o8 x y).toNat : Int) := by
  rw [u8_or_nat _ _ (lt8 x) (lt8 y), o8, UInt8.toNat_or]
theorem toNat_l8 (x : UInt8) (k : Nat) : (l8 x k).toNat = x.toNat * 2 ^ k % 256 := by rw [l8, UInt8.toNat_ofNat']
theorem toNat_r8 (x : UInt8) (k : Nat) : (r8 x k).toNat = x.toNat / 2 ^ k := by
  have := lt8 x
  have h1 : x.toNat / 2 ^ k ≤ x.toNat := Nat.div_le_self _ _
  rw [r8, UInt8.toNat_ofNat', Nat.mod_eq_of_lt (by omega)]
theorem sh_r8 (x : UInt8) (yk : IntKind) (n : Int) (h : 0 ≤ n) : Op.shift .shr .u8 (x.toNat : Int) yk n = pure (.int .u8 ((r8 x n.toNat).toNat : Int)) := by
  unfold Op.shift; rw [if_neg (by omega), toNat_r8]
  show pure (Value.int .u8 (Int.fdiv _ (2 ^ min n.toNat 8))) = _
  rw [fdivN, div_cut _ _ _ x.toNat_lt]
theorem sh_l8 (x : UInt8) (yk : IntKind) (n : Int) (h : 0 ≤ n) : Op.shift .shl .u8 (x.toNat : Int) yk n = pure (.int .u8 ((l8 x n.toNat).toNat : Int)) := by
  unfold Op.shift; rw [if_neg (by omega), toNat_l8]
  show pure (Value.int .u8 (IntKind.wrap .u8 (_ * 2 ^ min n.toNat 8))) = _
  have e := powN x.toNat (min n.toNat 8) 256
  have e2 := pow_cut x.toNat n.toNat 8
  rw [IntKind.wrap_u8]
  have e3 : ((x.toNat * 2 ^ min n.toNat 8 % 256 : Nat) : Int) = ((x.toNat * 2 ^ n.toNat % 256 : Nat) : Int) := congrArg Nat.cast e2
  exact congrArg (fun z => pure (Value.int .u8 z)) (e.trans e3)

def a16 (x y : UInt16) : UInt16 := x + y
def s16 (x y : UInt16) : UInt16 := x - y
def m16 (x y : UInt16) : UInt16 := x * y
def x16 (x y : UInt16) : UInt16 := x ^^^ y
def n16 (x y : UInt16) : UInt16 := x &&& y
def o16 (x y : UInt16) : UInt16 := x ||| y
def l16 (x : UInt16) (k : Nat) : UInt16 := UInt16.ofNat (x.toNat * 2 ^ k)
def r16 (x : UInt16) (k : Nat) : UInt16 := UInt16.ofNat (x.toNat / 2 ^ k)
theorem w_a16 (x y : UInt16) : IntKind.wrap .u16 ((x.toNat : Int) + (y.toNat : Int)) = ((a16 x y).toNat : Int) := by
  rw [IntKind.wrap_u16, a16, UInt16.toNat_add]; omega
theorem w_s16 (x y : UInt16) : IntKind.wrap .u16 ((x.toNat : Int) - (y.toNat : Int)) = ((s16 x y).toNat : Int) := by
  have := lt16 x; have := lt16 y
  rw [IntKind.wrap_u16, s16, UInt16.toNat_sub]; omega
theorem w_m16 (x y : UInt16) : IntKind.wrap .u16 ((x.toNat : Int) * (y.toNat : Int)) = ((m16 x y).toNat : Int) := by
  rw [IntKind.wrap_u16, m16, UInt16.toNat_mul]; exact (castmul x.toNat y.toNat 65536).symm
theorem b_x16 (x y : UInt16) : bits .xor .u16 (x.toNat : Int) (y.toNat : Int) = ((x16 x y).toNat : Int) := by
  rw [u16_xor_nat _ _ (lt16 x) (lt16 y), x16, UInt16.toNat_xor]
theorem b_n16 (x y : UInt16) : bits .and .u16 (x.toNat : Int) (y.toNat : Int) = ((n16 x y).toNat : Int) := by
  rw [u16_and_nat _ _ (lt16 x) (lt16 y), n16, UInt16.toNat_and]
theorem b_o16 (x y : UInt16) : bits .or .u16 (x.toNat : Int) (y.toNat : Int) = ((o16 x y).toNat : Int) := by
  rw [u16_or_nat _ _ (lt16 x) (lt16 y), o16, UInt16.toNat_or]
theorem toNat_l16 (x : UInt16) (k : Nat) : (l16 x k).toNat = x.toNat * 2 ^ k % 65536 := by rw [l16, UInt16.toNat_ofNat']
theorem toNat_r16 (x : UInt16) (k : Nat) : (r16 x k).toNat = x.toNat / 2 ^ k := by
  have := lt16 x
  have h1 : x.toNat / 2 ^ k ≤ x.toNat := Nat.div_le_self _ _
  rw [r16, UInt16.toNat_ofNat', Nat.mod_eq_of_lt (by omega)]
theorem sh_r16 (x : UInt16) (yk : IntKind) (n : Int) (h : 0 ≤ n) : Op.shift .shr .u16 (x.toNat : Int) yk n = pure (.int .u16 ((r16 x n.toNat).toNat : Int)) := by
  unfold Op.shift; rw [if_neg (by omega), toNat_r16]
  show pure (Value.int .u16 (Int.fdiv _ (2 ^ min n.toNat 16))) = _
  rw [fdivN, div_cut _ _ _ x.toNat_lt]
theorem sh_l16 (x : UInt16) (yk : IntKind) (n : Int) (h : 0 ≤ n) : Op.shift .shl .u16 (x.toNat : Int) yk n = pure (.int .u16 ((l16 x n.toNat).toNat : Int)) := by
  unfold Op.shift; rw [if_neg (by omega), toNat_l16]
  show pure (Value.int .u16 (IntKind.wrap .u16 (_ * 2 ^ min n.toNat 16))) = _
  have e := powN x.toNat (min n.toNat 16) 65536
  have e2 := pow_cut x.toNat n.toNat 16
  rw [IntKind.wrap_u16]
  have e3 : ((x.toNat * 2 ^ min n.toNat 16 % 65536 : Nat) : Int) = ((x.toNat * 2 ^ n.toNat % 65536 : Nat) : Int) := congrArg Nat.cast e2
  exact congrArg (fun z => pure (Value.int .u16 z)) (e.trans e3)

def a32 (x y : UInt32) : UInt32 := x + y
def s32 (x y : UInt32) : UInt32 := x - y
def m32 (x y : UInt32) : UInt32 := x * y
def x32 (x y : UInt32) : UInt32 := x ^^^ y
def n32 (x y : UInt32) : UInt32 := x &&& y
def o32 (x y : UInt32) : UInt32 := x ||| y
def l32 (x : UInt32) (k : Nat) : UInt32 := UInt32.ofNat (x.toNat * 2 ^ k)
def r32 (x : UInt32) (k : Nat) : UInt32 := UInt32.ofNat (x.toNat / 2 ^ k)
theorem w_a32 (x y : UInt32) : IntKind.wrap .u32 ((x.toNat : Int) + (y.toNat : Int)) = ((a32 x y).toNat : Int) := by
  rw [IntKind.wrap_u32, a32, UInt32.toNat_add]; omega
theorem w_s32 (x y : UInt32) : IntKind.wrap .u32 ((x.toNat : Int) - (y.toNat : Int)) = ((s32 x y).toNat : Int) := by
  have := lt32 x; have := lt32 y
  rw [IntKind.wrap_u32, s32, UInt32.toNat_sub]; omega
theorem w_m32 (x y : UInt32) : IntKind.wrap .u32 ((x.toNat : Int) * (y.toNat : Int)) = ((m32 x y).toNat : Int) := by
  rw [IntKind.wrap_u32, m32, UInt32.toNat_mul]; exact (castmul x.toNat y.toNat 4294967296).symm
theorem b_x32 (x y : UInt32) : bits .xor .u32 (x.toNat : Int) (y.toNat : Int) = ((x32 x y).toNat : Int) := by
  rw [u32_xor_nat _ _ (lt32 x) (lt32 y), x32, UInt32.toNat_xor]
theorem b_n32 (x y : UInt32) : bits .and .u32 (x.toNat : Int) (y.toNat : Int) = ((n32 x y).toNat : Int) := by
  rw [u32_and_nat _ _ (lt32 x) (lt32 y), n32, UInt32.toNat_and]
theorem b_o32 (x y : UInt32) : bits .or .u32 (x.toNat : Int) (y.toNat : Int) = ((o32 x y).toNat : Int) := by
  rw [u32_or_nat _ _ (lt32 x) (lt32 y), o32, UInt32.toNat_or]
theorem toNat_l32 (x : UInt32) (k : Nat) : (l32 x k).toNat = x.toNat * 2 ^ k % 4294967296 := by rw [l32, UInt32.toNat_ofNat']
theorem toNat_r32 (x : UInt32) (k : Nat) : (r32 x k).toNat = x.toNat / 2 ^ k := by
  have := lt32 x
  have h1 : x.toNat / 2 ^ k ≤ x.toNat := Nat.div_le_self _ _
  rw [r32, UInt32.toNat_ofNat', Nat.mod_eq_of_lt (by omega)]
theorem sh_r32 (x : UInt32) (yk : IntKind) (n : Int) (h : 0 ≤ n) : Op.shift .shr .u32 (x.toNat : Int) yk n = pure (.int .u32 ((r32 x n.toNat).toNat : Int)) := by
  unfold Op.shift; rw [if_neg (by omega), toNat_r32]
  show pure (Value.int .u32 (Int.fdiv _ (2 ^ min n.toNat 32))) = _
  rw [fdivN, div_cut _ _ _ x.toNat_lt]
theorem sh_l32 (x : UInt32) (yk : IntKind) (n : Int) (h : 0 ≤ n) : Op.shift .shl .u32 (x.toNat : Int) yk n = pure (.int .u32 ((l32 x n.toNat).toNat : Int)) := by
  unfold Op.shift; rw [if_neg (by omega), toNat_l32]
  show pure (Value.int .u32 (IntKind.wrap .u32 (_ * 2 ^ min n.toNat 32))) = _
  have e := powN x.toNat (min n.toNat 32) 4294967296
  have e2 := pow_cut x.toNat n.toNat 32
  rw [IntKind.wrap_u32]
  have e3 : ((x.toNat * 2 ^ min n.toNat 32 % 4294967296 : Nat) : Int) = ((x.toNat * 2 ^ n.toNat % 4294967296 : Nat) : Int) := congrArg Nat.cast e2
  exact congrArg (fun z => pure (Value.int .u32 z)) (e.trans e3)

def a64 (x y : UInt64) : UInt64 := x + y
def s64 (x y : UInt64) : UInt64 := x - y
def m64 (x y : UInt64) : UInt64 := x * y
def x64 (x y : UInt64) : UInt64 := x ^^^ y
def n64 (x y : UInt64) : UInt64 := x &&& y
def o64 (x y : UInt64) : UInt64 := x ||| y
def l64 (x : UInt64) (k : Nat) : UInt64 := UInt64.ofNat (x.toNat * 2 ^ k)
def r64 (x : UInt64) (k : Nat) : UInt64 := UInt64.ofNat (x.toNat / 2 ^ k)
theorem w_a64 (x y : UInt64) : IntKind.wrap .u64 ((x.toNat : Int) + (y.toNat : Int)) = ((a64 x y).toNat : Int) := by
  rw [wrap_u64, a64, UInt64.toNat_add]; omega
theorem w_s64 (x y : UInt64) : IntKind.wrap .u64 ((x.toNat : Int) - (y.toNat : Int)) = ((s64 x y).toNat : Int) := by
  have := lt64 x; have := lt64 y
  rw [wrap_u64, s64, UInt64.toNat_sub]; omega
theorem w_m64 (x y : UInt64) : IntKind.wrap .u64 ((x.toNat : Int) * (y.toNat : Int)) = ((m64 x y).toNat : Int) := by
  rw [wrap_u64, m64, UInt64.toNat_mul]; exact (castmul x.toNat y.toNat 18446744073709551616).symm
theorem b_x64 (x y : UInt64) : bits .xor .u64 (x.toNat : Int) (y.toNat : Int) = ((x64 x y).toNat : Int) := by
  rw [u64_xor_nat _ _ (lt64 x) (lt64 y), x64, UInt64.toNat_xor]
theorem b_n64 (x y : UInt64) : bits .and .u64 (x.toNat : Int) (y.toNat : Int) = ((n64 x y).toNat : Int) := by
  rw [u64_and_nat _ _ (lt64 x) (lt64 y), n64, UInt64.toNat_and]
theorem b_o64 (x y : UInt64) : bits .or .u64 (x.toNat : Int) (y.toNat : Int) = ((o64 x y).toNat : Int) := by
  rw [u64_or_nat _ _ (lt64 x) (lt64 y), o64, UInt64.toNat_or]
theorem toNat_l64 (x : UInt64) (k : Nat) : (l64 x k).toNat = x.toNat * 2 ^ k % 18446744073709551616 := by rw [l64, UInt64.toNat_ofNat']
theorem toNat_r64 (x : UInt64) (k : Nat) : (r64 x k).toNat = x.toNat / 2 ^ k := by
  have := lt64 x
  have h1 : x.toNat / 2 ^ k ≤ x.toNat := Nat.div_le_self _ _
  rw [r64, UInt64.toNat_ofNat', Nat.mod_eq_of_lt (by omega)]
theorem sh_r64 (x : UInt64) (yk : IntKind) (n : Int) (h : 0 ≤ n) : Op.shift .shr .u64 (x.toNat : Int) yk n = pure (.int .u64 ((r64 x n.toNat).toNat : Int)) := by
  unfold Op.shift; rw [if_neg (by omega), toNat_r64]
  show pure (Value.int .u64 (Int.fdiv _ (2 ^ min n.toNat 64))) = _
  rw [fdivN, div_cut _ _ _ x.toNat_lt]
theorem sh_l64 (x : UInt64) (yk : IntKind) (n : Int) (h : 0 ≤ n) : Op.shift .shl .u64 (x.toNat : Int) yk n = pure (.int .u64 ((l64 x n.toNat).toNat : Int)) := by
  unfold Op.shift; rw [if_neg (by omega), toNat_l64]
  show pure (Value.int .u64 (IntKind.wrap .u64 (_ * 2 ^ min n.toNat 64))) = _
  have e := powN x.toNat (min n.toNat 64) 18446744073709551616
  have e2 := pow_cut x.toNat n.toNat 64
  rw [wrap_u64]
  have e3 : ((x.toNat * 2 ^ min n.toNat 64 % 18446744073709551616 : Nat) : Int) = ((x.toNat * 2 ^ n.toNat % 18446744073709551616 : Nat) : Int) := congrArg Nat.cast e2
  exact congrArg (fun z => pure (Value.int .u64 z)) (e.trans e3)
theorem c_8_8 (x : UInt8) : IntKind.wrap .u8 (x.toNat : Int) = (x.toNat : Int) := by
  have := lt8 x; rw [IntKind.wrap_u8]; omega
def c8_16 (x : UInt8) : UInt16 := x.toUInt16
theorem c_8_16 (x : UInt8) : IntKind.wrap .u16 (x.toNat : Int) = ((c8_16 x).toNat : Int) := by
  have := lt8 x; rw [IntKind.wrap_u16, c8_16, UInt8.toNat_toUInt16]; omega
def c8_32 (x : UInt8) : UInt32 := x.toUInt32
theorem c_8_32 (x : UInt8) : IntKind.wrap .u32 (x.toNat : Int) = ((c8_32 x).toNat : Int) := by
  have := lt8 x; rw [IntKind.wrap_u32, c8_32, UInt8.toNat_toUInt32]; omega
def c8_64 (x : UInt8) : UInt64 := x.toUInt64
theorem c_8_64 (x : UInt8) : IntKind.wrap .u64 (x.toNat : Int) = ((c8_64 x).toNat : Int) := by
  have := lt8 x; rw [wrap_u64, c8_64, UInt8.toNat_toUInt64]; omega
def c16_8 (x : UInt16) : UInt8 := x.toUInt8
theorem c_16_8 (x : UInt16) : IntKind.wrap .u8 (x.toNat : Int) = ((c16_8 x).toNat : Int) := by
  have := lt16 x; rw [IntKind.wrap_u8, c16_8, UInt16.toNat_toUInt8]; omega
theorem c_16_16 (x : UInt16) : IntKind.wrap .u16 (x.toNat : Int) = (x.toNat : Int) := by
  have := lt16 x; rw [IntKind.wrap_u16]; omega
def c16_32 (x : UInt16) : UInt32 := x.toUInt32
theorem c_16_32 (x : UInt16) : IntKind.wrap .u32 (x.toNat : Int) = ((c16_32 x).toNat : Int) := by
  have := lt16 x; rw [IntKind.wrap_u32, c16_32, UInt16.toNat_toUInt32]; omega
def c16_64 (x : UInt16) : UInt64 := x.toUInt64
theorem c_16_64 (x : UInt16) : IntKind.wrap .u64 (x.toNat : Int) = ((c16_64 x).toNat : Int) := by
  have := lt16 x; rw [wrap_u64, c16_64, UInt16.toNat_toUInt64]; omega
def c32_8 (x : UInt32) : UInt8 := x.toUInt8
theorem c_32_8 (x : UInt32) : IntKind.wrap .u8 (x.toNat : Int) = ((c32_8 x).toNat : Int) := by
  have := lt32 x; rw [IntKind.wrap_u8, c32_8, UInt32.toNat_toUInt8]; omega
def c32_16 (x : UInt32) : UInt16 := x.toUInt16
theorem c_32_16 (x : UInt32) : IntKind.wrap .u16 (x.toNat : Int) = ((c32_16 x).toNat : Int) := by
  have := lt32 x; rw [IntKind.wrap_u16, c32_16, UInt32.toNat_toUInt16]; omega
theorem c_32_32 (x : UInt32) : IntKind.wrap .u32 (x.toNat : Int) = (x.toNat : Int) := by
  have := lt32 x; rw [IntKind.wrap_u32]; omega
def c32_64 (x : UInt32) : UInt64 := x.toUInt64
theorem c_32_64 (x : UInt32) : IntKind.wrap .u64 (x.toNat : Int) = ((c32_64 x).toNat : Int) := by
  have := lt32 x; rw [wrap_u64, c32_64, UInt32.toNat_toUInt64]; omega
def c64_8 (x : UInt64) : UInt8 := x.toUInt8
theorem c_64_8 (x : UInt64) : IntKind.wrap .u8 (x.toNat : Int) = ((c64_8 x).toNat : Int) := by
  have := lt64 x; rw [IntKind.wrap_u8, c64_8, UInt64.toNat_toUInt8]; omega
def c64_16 (x : UInt64) : UInt16 := x.toUInt16
theorem c_64_16 (x : UInt64) : IntKind.wrap .u16 (x.toNat : Int) = ((c64_16 x).toNat : Int) := by
  have := lt64 x; rw [IntKind.wrap_u16, c64_16, UInt64.toNat_toUInt16]; omega
def c64_32 (x : UInt64) : UInt32 := x.toUInt32
theorem c_64_32 (x : UInt64) : IntKind.wrap .u32 (x.toNat : Int) = ((c64_32 x).toNat : Int) := by
  have := lt64 x; rw [IntKind.wrap_u32, c64_32, UInt64.toNat_toUInt32]; omega
theorem c_64_64 (x : UInt64) : IntKind.wrap .u64 (x.toNat : Int) = (x.toNat : Int) := by
  have := lt64 x; rw [wrap_u64]; omega
theorem byte32 (x : UInt32) (n : Nat) : ((c32_8 (r32 x n)).toNat : Int) = (x.toNat : Int) / 2 ^ n % 256 := by
  rw [c32_8, UInt32.toNat_toUInt8, toNat_r32]; rfl
theorem byte64 (x : UInt64) (n : Nat) : ((c64_8 (r64 x n)).toNat : Int) = (x.toNat : Int) / 2 ^ n % 256 := by
  rw [c64_8, UInt64.toNat_toUInt8, toNat_r64]; rfl
end U
attribute [go_sem] U.w_a8 U.w_s8 U.w_m8 U.b_x8 U.b_n8 U.b_o8 U.w_a16 U.w_s16 U.w_m16 U.b_x16 U.b_n16 U.b_o16 U.w_a32 U.w_s32 U.w_m32 U.b_x32 U.b_n32 U.b_o32 U.w_a64 U.w_s64 U.w_m64 U.b_x64 U.b_n64 U.b_o64 U.c_8_8 U.c_8_16 U.c_8_32 U.c_8_64 U.c_16_8 U.c_16_16 U.c_16_32 U.c_16_64 U.c_32_8 U.c_32_16 U.c_32_32 U.c_32_64 U.c_64_8 U.c_64_16 U.c_64_32 U.c_64_64
attribute [go_sem ↓] U.sh_l8 U.sh_r8 U.sh_l16 U.sh_r16 U.sh_l32 U.sh_r32 U.sh_l64 U.sh_r64
end Go.Proofs.YtdnigbbfiklaoaaDoor
