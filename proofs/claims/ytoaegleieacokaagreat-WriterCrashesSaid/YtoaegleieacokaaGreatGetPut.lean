/- What is put is got. Plain: no program. -/
import Derived.Test.YtoaegleieacokaaGreatSheetBytes
namespace Go.Proofs.YtoaegleieacokaaGreat
open Go.RowKit Go.Shelf

theorem getGo_put : ∀ (k n i acc : Nat) (t : List UInt8), n < 128 ^ (k + 1) → i + k + 1 ≤ 9 → (i = 0 ∨ 0 < n) →
    getGo (putL n ++ t) i acc = ((acc : Int) + (n : Int) * 128 ^ i, ((i + (putL n).length : Nat) : Int), 0)
  | k, n, i, acc, t, hn, hi, h0 => by
    by_cases hs : n < 128
    · rw [putL_small hs]
      have hb : (UInt8.ofNat n).toNat = n := by rw [UInt8.toNat_ofNat']; omega
      simp only [List.cons_append, List.nil_append, getGo, hb]
      rw [if_neg (by omega), if_neg (by omega)]
      simp
    · cases k with
      | zero => simp at hn; omega
      | succ k =>
        rw [putL_big hs]
        have hb : (UInt8.ofNat (n % 128) ||| 128).toNat = n % 128 + 128 := by
          have h1 := sepB_or (UInt8.ofNat (n % 128))
          rw [u8_toNat (by omega)] at h1
          have h2 := u8_or128_right ((n % 128 : Nat) : Int) (by omega) (by omega)
          rw [h2] at h1
          omega
        simp only [List.cons_append, getGo, hb]
        rw [if_pos (by omega), if_neg (by omega), getGo_put k (n / 128) (i + 1) _ t (Nat.div_lt_of_lt_mul (by rw [Nat.pow_succ] at hn; omega)) (by omega) (.inr (by omega))]
        refine Prod.ext ?_ (Prod.ext ?_ rfl)
        · simp only
          rw [show n % 128 + 128 - 128 = n % 128 from by omega, Int.natCast_add, Int.natCast_mul, Int.natCast_pow, Int.pow_succ]
          have hd : (n : Int) = ((n % 128 : Nat) : Int) + ((n / 128 : Nat) : Int) * 128 := by omega
          generalize ((n % 128 : Nat) : Int) = x at *
          generalize ((n / 128 : Nat) : Int) = y at *
          rw [hd, Int.add_mul]
          have e1 : y * ((128 : Int) ^ i * 128) = y * 128 * 128 ^ i := by rw [Int.mul_comm (128 ^ i) 128, ← Int.mul_assoc]
          rw [e1]
          have e2 : ((128 : Nat) : Int) = 128 := rfl
          rw [e2]
          omega
        · simp only [List.length_cons]
          omega
theorem get_put (n : Nat) (t : List UInt8) (hn : n < 9223372036854775808) : getL (putL n ++ t) = ((n : Int), ((putL n).length : Int), 0) := by
  have h := getGo_put 8 n 0 0 t (Nat.lt_of_lt_of_le hn (by decide)) (by omega) (.inl rfl)
  rw [getL, h]
  simp
theorem getGo_ok : ∀ (l : List UInt8) (i acc : Nat), i ≤ 8 → acc < 128 ^ i → 0 ≤ (getGo l i acc).1 ∧ (getGo l i acc).1 < 9223372036854775808 ∧ 0 ≤ (getGo l i acc).2.1 ∧ (getGo l i acc).2.1 ≤ i + l.length ∧ ((getGo l i acc).2.2 = 0 ∨ (getGo l i acc).2.2 = 10 ∨ (getGo l i acc).2.2 = 11)
  | [], i, acc, _, _ => by simp [getGo]
  | b :: l, i, acc, hi, ha => by
    have hb := b.toNat_lt
    rw [getGo]
    by_cases h1 : 128 ≤ b.toNat
    · rw [if_pos h1]
      by_cases h8 : i = 8
      · rw [if_pos h8]; simp; omega
      · rw [if_neg h8]
        have := getGo_ok l (i + 1) (acc + (b.toNat - 128) * 128 ^ i) (by omega) (sept_lt ha (by omega))
        simp only [List.length_cons]
        refine ⟨this.1, this.2.1, this.2.2.1, ?_, this.2.2.2.2⟩
        have := this.2.2.2.1
        omega
    · rw [if_neg h1]
      split
      · simp; omega
      · have h2 := sept_lt (y := b.toNat) ha (by omega)
        have h3 := pow128_le (show i + 1 ≤ 9 by omega)
        have e : ((acc : Int) + (b.toNat : Int) * 128 ^ i) = ((acc + b.toNat * 128 ^ i : Nat) : Int) := by rw [Int.natCast_add, Int.natCast_mul, Int.natCast_pow]; rfl
        simp only [List.length_cons]
        rw [e]
        refine ⟨by omega, by omega, by omega, by omega, by simp⟩
theorem getL_ok (l : List UInt8) : 0 ≤ (getL l).1 ∧ (getL l).1 < 9223372036854775808 ∧ 0 ≤ (getL l).2.1 ∧ (getL l).2.1 ≤ l.length ∧ ((getL l).2.2 = 0 ∨ (getL l).2.2 = 10 ∨ (getL l).2.2 = 11) := by
  have := getGo_ok l 0 0 (by omega) (by decide)
  simpa [getL] using this
theorem ba_drop (l : List UInt8) (k : Nat) : (⟨l.toArray⟩ : ByteArray).extract k l.length = ⟨(l.drop k).toArray⟩ := by
  apply ByteArray.ext
  simp
  exact List.take_of_length_le (by simp)
theorem ba_take (l : List UInt8) (k : Nat) : (⟨l.toArray⟩ : ByteArray).extract 0 k = ⟨(l.take k).toArray⟩ := by
  apply ByteArray.ext
  simp
theorem ba_size (l : List UInt8) : (⟨l.toArray⟩ : ByteArray).size = l.length := by simp [ByteArray.size]
theorem ba_ofList (b : ByteArray) : ∃ l : List UInt8, b = ⟨l.toArray⟩ := ⟨b.data.toList, by simp⟩
theorem ba_inj {l m : List UInt8} (h : (⟨l.toArray⟩ : ByteArray) = ⟨m.toArray⟩) : l = m := by
  have := congrArg (fun b : ByteArray => b.data.toList) h
  simpa using this
theorem fixedL_len (n : Nat) : (fixedL n).length = 4 := rfl
theorem bytesL_drop (l : List Int) : (bytesL l).drop 4 = bodyL l := by
  rw [bytesL, List.drop_append_of_le_length (by simp [fixedL_len])]
  rfl
end Go.Proofs.YtoaegleieacokaaGreat
