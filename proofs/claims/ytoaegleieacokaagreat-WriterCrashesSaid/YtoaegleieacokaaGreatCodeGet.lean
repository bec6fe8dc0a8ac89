/- code.Get and the reference's Get: one and the same. -/
import Derived.Test.YtoaegleieacokaaGreatCrc
namespace Go.Proofs.YtoaegleieacokaaGreat
open Go.RowKit Go.Shelf

/-- A number at the beginning, i sevens being read: the number, how many bytes, 0 · 10 · 11. -/
def getGo : List UInt8 → Nat → Nat → Int × Int × Int
  | [], _, _ => (0, 0, 10)
  | b :: l, i, acc => if 128 ≤ b.toNat then (if i = 8 then (0, 0, 11) else getGo l (i + 1) (acc + (b.toNat - 128) * 128 ^ i)) else
      if b.toNat = 0 ∧ 0 < i then (0, 0, 11) else (acc + b.toNat * 128 ^ i, i + 1, 0)
def getL (l : List UInt8) : Int × Int × Int := getGo l 0 0

theorem i64_or_nat (a b : Nat) (ha : a < 9223372036854775808) (hb : b < 9223372036854775808) : bits .or .i64 (a : Int) (b : Int) = ((a ||| b : Nat) : Int) := by
  have hx : a ||| b < 2 ^ 63 := Nat.or_lt_two_pow (by omega) (by omega)
  show IntKind.i64.wrap ((BitVec.ofInt 64 (a : Int) ||| BitVec.ofInt 64 (b : Int)).toNat : Int) = _
  rw [BitVec.toNat_or, ofInt_u64 a (by omega), ofInt_u64 b (by omega), IntKind.wrap_i64]
  omega
theorem pow128 (k : Nat) : 2 ^ (7 * k) = 128 ^ k := by rw [Nat.pow_mul]
theorem pow128_le {k : Nat} (hk : k ≤ 9) : 128 ^ k ≤ 9223372036854775808 := Nat.le_trans (Nat.pow_le_pow_right (by decide) hk) (by decide)
theorem sept_lt {k acc y : Nat} (ha : acc < 128 ^ k) (hy : y < 128) : acc + y * 128 ^ k < 128 ^ (k + 1) := by
  rw [Nat.pow_succ, Nat.mul_comm (128 ^ k) 128]
  have : y * 128 ^ k ≤ 127 * 128 ^ k := Nat.mul_le_mul_right _ (by omega)
  omega
theorem sept_join (k acc y : Nat) (hk : k ≤ 8) (ha : acc < 128 ^ k) (hy : y < 128) : bits .or .i64 (acc : Int) (wrap64 ((y : Int) * 2 ^ (7 * k))) = ((acc + y * 128 ^ k : Nat) : Int) := by
  have h1 := sept_lt ha hy
  have h2 := pow128_le (show k + 1 ≤ 9 by omega)
  have e : ((y : Int) * 2 ^ (7 * k)) = ((y * 2 ^ (7 * k) : Nat) : Int) := by push_cast; rfl
  rw [e, pow128, show wrap64 ((y * 128 ^ k : Nat) : Int) = ((y * 128 ^ k : Nat) : Int) from by unfold wrap64; omega, i64_or_nat _ _ (by omega) (by omega), Nat.or_comm]
  rw [nat_join (7 * k) (y * 128 ^ k) acc (by rw [pow128]; exact Nat.mul_mod_left _ _) (by rw [pow128]; exact ha), Nat.add_comm]
theorem andNot128 (x : UInt8) (h : 128 ≤ x.toNat) : bits .andNot .u8 (x.toNat : Int) 128 = ((x.toNat - 128 : Nat) : Int) := by
  have := x.toNat_lt
  rw [u8_andNot _ _ (by omega) (by omega) (by omega) (by omega)]
  have e1 : ((x.toNat : Int)).toNat = x.toNat := by omega
  rw [e1, show (255 - (128 : Int).toNat : Nat) = 127 from rfl, nat_mask7]
  omega

end Go.Proofs.YtoaegleieacokaaGreat
