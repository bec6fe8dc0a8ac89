/- laderef1.Get: as code.Get. -/
import Derived.Test.YtoaegleieacokaaGreatCodeGet
namespace Go.Proofs.YtoaegleieacokaaGreat
open Go.RowKit Go.Shelf

theorem and127 (x : UInt8) : bits .and .u8 (x.toNat : Int) 127 = ((x.toNat % 128 : Nat) : Int) := by
  have := x.toNat_lt
  rw [u8_and _ _ (by omega) (by omega) (by omega) (by omega)]
  have e1 : ((x.toNat : Int)).toNat = x.toNat := by omega
  rw [e1, show ((127 : Int).toNat : Nat) = 127 from rfl, nat_mask7]

set_option maxRecDepth 100000 in
set_option maxHeartbeats 2000000 in
theorem refget_calls (b : ByteArray) (hb : b.size ≤ 1099511627776) (w : World) :
    Calls Tryz.prog 45 #[.string b] w fun e w' => e = .returned (.tuple #[.int .i64 (getL b.data.toList).1, .int .i64 (getL b.data.toList).2.1, .int .i64 (getL b.data.toList).2.2]) ∧ Below w.heap.size w w' := by
  go_enter Tryz.func45, Tryz.ntmps45
  go_wp2
  go_loop [5, 6] (fun o i => ∃ (k acc : Nat), k ≤ 8 ∧ k ≤ b.size ∧ i = .int .i64 k ∧ o = .int .i64 acc ∧ acc < 128 ^ k ∧ getL b.data.toList = getGo (b.data.toList.drop k) k acc) (fun _ i => b.size - (intOf i).toNat)
  case atStart => exact ⟨0, 0, by omega, by omega, rfl, rfl, by decide, rfl⟩
  case round =>
    obtain ⟨k, acc, hk8, hk, rfl, rfl, hacc, hget⟩ := hrel
    by_cases hlt : k < b.size
    · have hlk : k < b.data.toList.length := by simpa using hlt
      have hdr : b.data.toList.drop k = b.data.toList[k] :: b.data.toList.drop (k + 1) := List.drop_eq_getElem_cons hlk
      obtain ⟨x, hbx⟩ : ∃ x, b[k]'hlt = x := ⟨_, rfl⟩
      rw [show b.data.toList[k] = b[k]'hlt by simp; rfl, hbx] at hdr
      rw [hdr] at hget
      clear hdr
      have hx8 := x.toNat_lt
      by_cases hx : 128 ≤ x.toNat
      · rw [getGo, if_pos hx] at hget
        by_cases h8 : k = 8
        · subst h8
          rw [if_pos rfl] at hget
          have HG := Lib.hid hget
          clear hget
          go_wp2
          go_ret3
          exact ⟨by rw [HG.out]; rfl, Below.refl _ _⟩
        · rw [if_neg h8] at hget
          have hA := and127 x
          rw [show x.toNat % 128 = x.toNat - 128 from by omega] at hA
          have hj := sept_join k acc (x.toNat - 128) hk8 hacc (by omega)
          have hl := sept_lt hacc (show x.toNat - 128 < 128 by omega)
          have HG := Lib.hid hget
          have hy : x.toNat - 128 < 128 := by omega
          clear hget
          generalize x.toNat - 128 = y at *
          have hwy : wrap64 (y : Int) = y := by unfold wrap64; omega
          have HL := Lib.hid hl
          have HJ := Lib.hid hj
          clear hl hj
          go_wp2
          all_goals
            go_round
            case rel => exact ⟨k + 1, _, by omega, by omega, by simp, by rw [HJ.out], HL.out, HG.out⟩
            case measure => simp [intOf]; omega
      · rw [getGo, if_neg hx] at hget
        have hA := and127 x
        rw [show x.toNat % 128 = x.toNat from by omega] at hA
        have hj := sept_join k acc x.toNat hk8 hacc (by omega)
        have hwy : wrap64 (x.toNat : Int) = x.toNat := by unfold wrap64; omega
        rw [Int.natCast_add, Int.natCast_mul, Int.natCast_pow] at hj
        have HJ := Lib.hid hj
        by_cases h0 : x.toNat = 0 ∧ 0 < k
        · rw [if_pos h0] at hget
          obtain ⟨h00, h01⟩ := h0
          have HG := Lib.hid hget
          clear hget hj hwy
          have hz : (x.toNat : Int) = 0 := by omega
          go_wp2
          all_goals
            go_ret3
            exact ⟨by rw [HG.out]; rfl, Below.refl _ _⟩
        · rw [if_neg h0] at hget
          have HG := Lib.hid hget
          clear hget
          by_cases h8 : k = 8
          · subst h8
            have hxz : ¬ x.toNat = 0 := fun e => h0 ⟨e, by omega⟩
            have hj8 : bits .or .i64 (acc : Int) ((x.toNat : Int) * 72057594037927936) = (acc : Int) + (x.toNat : Int) * 128 ^ 8 := by
              rw [show ((x.toNat : Int) * 72057594037927936) = wrap64 ((x.toNat : Int) * 2 ^ (7 * 8)) from by rw [show (2 : Int) ^ (7 * 8) = 72057594037927936 from by decide]; unfold wrap64; omega, HJ.out]
              rfl
            have H8 := Lib.hid hj8
            clear hj8 hj h0
            go_wp2
            go_ret3
            refine ⟨?_, Below.refl _ _⟩
            rw [HG.out, H8.out]
            rfl
          · by_cases hk0 : 0 < k
            · have hxz : ¬ x.toNat = 0 := fun e => h0 ⟨e, hk0⟩
              clear h0 hj
              go_wp2
              all_goals
                go_ret3
                refine ⟨?_, Below.refl _ _⟩
                rw [HG.out, HJ.out]
                rfl
            · obtain rfl : k = 0 := by omega
              have H0 : Hid (bits .or .i64 (acc : Int) (x.toNat : Int) = (acc : Int) + (x.toNat : Int) * 128 ^ 0) := by
                have h1 := HJ.out
                rw [show wrap64 ((x.toNat : Int) * 2 ^ (7 * 0)) = x.toNat from by rw [show (2 : Int) ^ (7 * 0) = 1 from rfl, Int.mul_one]; exact hwy] at h1
                exact Lib.hid h1
              clear h0 hj
              go_wp2
              all_goals
                go_ret3
                refine ⟨?_, Below.refl _ _⟩
                first
                  | (rw [HG.out, H0.out]; rfl)
                  | (have hx0 : (x.toNat : Int) = 0 := by omega
                     have h1 := H0.out
                     have h2 := HG.out
                     rw [hx0] at h1 h2
                     rw [h2, h1]
                     rfl)
    · obtain rfl : k = b.size := by omega
      rw [List.drop_of_length_le (by simp), getGo] at hget
      have HG := Lib.hid hget
      clear hget
      go_wp2
      go_ret3
      exact ⟨by rw [HG.out]; rfl, Below.refl _ _⟩
end Go.Proofs.YtoaegleieacokaaGreat
