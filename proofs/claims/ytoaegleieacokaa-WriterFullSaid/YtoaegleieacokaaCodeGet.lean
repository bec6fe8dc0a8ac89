/- code.Get and the reference's Get: one and the same. -/
import Derived.Test.YtoaegleieacokaaCrc
namespace Go.Proofs.Ytoaegleieacokaa
open Go.RowKit Go.Shelf

/-- A number at the beginning, i sevens being read: the number, how many bytes, 0 · 10 · 11. -/
def getGo : List UInt8 → Nat → Nat → Int × Int × Int
  | [], _, _ => (0, 0, 10)
  | b :: l, i, acc => if 128 ≤ b.toNat then (if i = 8 then (0, 0, 11) else getGo l (i + 1) (acc + (b.toNat - 128) * 128 ^ i)) else
      if b.toNat = 0 ∧ 0 < i then (0, 0, 11) else (acc + b.toNat * 128 ^ i, i + 1, 0)
def getL (l : List UInt8) : Int × Int × Int := getGo l 0 0

theorem i64_or_nat (a b : Nat) (ha : a < 9223372036854775808) (hb : b < 9223372036854775808) : bits .or .i64 (a : Int) (b : Int) = ((a ||| b : Nat) : Int) := by
  have hx : a ||| b < 2 ^ 63 := Nat.or_lt_two_pow (by omega) (by omega)
  show IntKind.i64.wrap ((BitVec.ofInt 64 (a : Int) ||| BitVec.ofInt 64 (b : Int)).toNat : Int) = _
  rw [BitVec.toNat_or, ofInt_u64 a (by omega), ofInt_u64 b (by omega), IntKind.wrap_i64]
  omega
theorem pow128 (k : Nat) : 2 ^ (7 * k) = 128 ^ k := by rw [Nat.pow_mul]
theorem pow128_le {k : Nat} (hk : k ≤ 9) : 128 ^ k ≤ 9223372036854775808 := Nat.le_trans (Nat.pow_le_pow_right (by decide) hk) (by decide)
theorem sept_lt {k acc y : Nat} (ha : acc < 128 ^ k) (hy : y < 128) : acc + y * 128 ^ k < 128 ^ (k + 1) := by
  rw [Nat.pow_succ, Nat.mul_comm (128 ^ k) 128]
  have : y * 128 ^ k ≤ 127 * 128 ^ k := Nat.mul_le_mul_right _ (by omega)
  omega
theorem sept_join (k acc y : Nat) (hk : k ≤ 8) (ha : acc < 128 ^ k) (hy : y < 128) : bits .or .i64 (acc : Int) (wrap64 ((y : Int) * 2 ^ (7 * k))) = ((acc + y * 128 ^ k : Nat) : Int) := by
  have h1 := sept_lt ha hy
  have h2 := pow128_le (show k + 1 ≤ 9 by omega)
  have e : ((y : Int) * 2 ^ (7 * k)) = ((y * 2 ^ (7 * k) : Nat) : Int) := by push_cast; rfl
  rw [e, pow128, show wrap64 ((y * 128 ^ k : Nat) : Int) = ((y * 128 ^ k : Nat) : Int) from by unfold wrap64; omega, i64_or_nat _ _ (by omega) (by omega), Nat.or_comm]
  rw [nat_join (7 * k) (y * 128 ^ k) acc (by rw [pow128]; exact Nat.mul_mod_left _ _) (by rw [pow128]; exact ha), Nat.add_comm]
theorem andNot128 (x : UInt8) (h : 128 ≤ x.toNat) : bits .andNot .u8 (x.toNat : Int) 128 = ((x.toNat - 128 : Nat) : Int) := by
  have := x.toNat_lt
  rw [u8_andNot _ _ (by omega) (by omega) (by omega) (by omega)]
  have e1 : ((x.toNat : Int)).toNat = x.toNat := by omega
  rw [e1, show (255 - (128 : Int).toNat : Nat) = 127 from rfl, nat_mask7]
  omega

set_option maxRecDepth 100000 in
set_option maxHeartbeats 2000000 in
theorem get_calls (b : ByteArray) (hb : b.size ≤ 1099511627776) (w : World) :
    Calls Try.prog 72 #[.string b] w fun e w' => e = .returned (.tuple #[.int .i64 (getL b.data.toList).1, .int .i64 (getL b.data.toList).2.1, .int .i64 (getL b.data.toList).2.2]) ∧ Below w.heap.size w w' := by
  obtain ⟨W1, cap, hcv, hB1, hs1, hcells⟩ := str_bytes w b
  go_enter Try.func72, Try.ntmps72
  go_wp2
  go_loopw [5, 11] (fun o i wr => ∃ (k acc : Nat), k ≤ 8 ∧ k ≤ b.size ∧ i = .int .i64 k ∧ o = .int .i64 acc ∧ acc < 128 ^ k ∧ getL b.data.toList = getGo (b.data.toList.drop k) k acc ∧ wr = W1) (fun _ i _ => b.size - (intOf i).toNat)
  case atStart => exact ⟨0, 0, by omega, by omega, rfl, rfl, by decide, rfl, rfl⟩
  case round =>
    obtain ⟨k, acc, hk8, hk, rfl, rfl, hacc, hget, rfl⟩ := hrel
    by_cases hlt : k < b.size
    · have hcc := hcells k hlt
      have hlk : k < b.data.toList.length := by simpa using hlt
      have hdr : b.data.toList.drop k = b.data.toList[k] :: b.data.toList.drop (k + 1) := List.drop_eq_getElem_cons hlk
      rw [show b.data.toList[k] = b.data[k] by simp] at hdr
      rw [hdr] at hget
      generalize b.data[k] = x at *
      clear hcells hdr hlk
      have hx8 := x.toNat_lt
      by_cases hx : 128 ≤ x.toNat
      · rw [getGo, if_pos hx] at hget
        by_cases h8 : k = 8
        · subst h8
          rw [if_pos rfl] at hget
          have HG := Lib.hid hget
          clear hget
          go_wp2
          go_ret3
          exact ⟨by rw [HG.out]; rfl, hB1⟩
        · rw [if_neg h8] at hget
          have hj := sept_join k acc (x.toNat - 128) hk8 hacc (by omega)
          have hA := andNot128 x hx
          have hl := sept_lt hacc (show x.toNat - 128 < 128 by omega)
          have HG := Lib.hid hget
          have hy : x.toNat - 128 < 128 := by omega
          clear hget
          generalize x.toNat - 128 = y at *
          have hwy : wrap64 (y : Int) = y := by unfold wrap64; omega
          have HL := Lib.hid hl
          have HJ := Lib.hid hj
          clear hl hj
          go_wp2
          all_goals
            go_roundw
            case rel => exact ⟨k + 1, _, by omega, by omega, by simp, by rw [HJ.out], HL.out, HG.out, trivial⟩
            case measure => simp [intOf]; omega
      · rw [getGo, if_neg hx] at hget
        have hj := sept_join k acc x.toNat hk8 hacc (by omega)
        have hwy : wrap64 (x.toNat : Int) = x.toNat := by unfold wrap64; omega
        by_cases h0 : x.toNat = 0 ∧ 0 < k
        · rw [if_pos h0] at hget
          obtain ⟨h00, h01⟩ := h0
          have HG := Lib.hid hget
          clear hget hj hwy
          rw [h00] at hcc
          go_wp2
          all_goals
            go_ret3
            exact ⟨by rw [HG.out]; rfl, hB1⟩
        · rw [if_neg h0] at hget
          have HG := Lib.hid hget
          rw [Int.natCast_add, Int.natCast_mul, Int.natCast_pow] at hj
          have HJ := Lib.hid hj
          clear hget
          by_cases h8 : k = 8
          · subst h8
            have hxz : ¬ x.toNat = 0 := fun e => h0 ⟨e, by omega⟩
            have hj8 : bits .or .i64 (acc : Int) ((x.toNat : Int) * 72057594037927936) = (acc : Int) + (x.toNat : Int) * 128 ^ 8 := by
              rw [show ((x.toNat : Int) * 72057594037927936) = wrap64 ((x.toNat : Int) * 2 ^ (7 * 8)) from by rw [show (2 : Int) ^ (7 * 8) = 72057594037927936 from by decide]; unfold wrap64; omega, HJ.out]
              rfl
            have H8 := Lib.hid hj8
            clear hj8 hj h0
            go_wp2
            go_ret3
            refine ⟨?_, hB1⟩
            rw [HG.out, H8.out]
            rfl
          · by_cases hk0 : 0 < k
            · have hxz : ¬ x.toNat = 0 := fun e => h0 ⟨e, hk0⟩
              clear h0 hj
              go_wp2
              go_ret3
              refine ⟨?_, hB1⟩
              rw [HG.out, HJ.out]
              rfl
            · obtain rfl : k = 0 := by omega
              have H0 : Hid (bits .or .i64 (acc : Int) (x.toNat : Int) = (acc : Int) + (x.toNat : Int) * 128 ^ 0) := by
                have h1 := HJ.out
                rw [show wrap64 ((x.toNat : Int) * 2 ^ (7 * 0)) = x.toNat from by rw [show (2 : Int) ^ (7 * 0) = 1 from rfl, Int.mul_one]; exact hwy] at h1
                exact Lib.hid h1
              clear h0 hj
              go_wp2
              go_ret3
              refine ⟨?_, hB1⟩
              rw [HG.out, H0.out]
              rfl
    · obtain rfl : k = b.size := by omega
      rw [List.drop_of_length_le (by simp), getGo] at hget
      have HG := Lib.hid hget
      clear hget hcells
      go_wp2
      go_ret3
      exact ⟨by rw [HG.out]; rfl, hB1⟩
end Go.Proofs.Ytoaegleieacokaa
