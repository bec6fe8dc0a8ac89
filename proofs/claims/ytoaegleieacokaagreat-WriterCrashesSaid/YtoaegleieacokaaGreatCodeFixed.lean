/- code.Fixed; the reference's Fixed, Put, More. -/
import Derived.Test.YtoaegleieacokaaGreatCodeGet
import Derived.Laws.Bits128
namespace Go.Proofs.YtoaegleieacokaaGreat
open Go.RowKit Go.Shelf

def fixedL (n : Nat) : List UInt8 := [UInt8.ofNat (n % 256), UInt8.ofNat (n / 256 % 256), UInt8.ofNat (n / 65536 % 256), UInt8.ofNat (n / 16777216 % 256)]

/-- string([]byte{..}). -/
theorem lit_str (w : World) (l : List UInt8) (cs : Array Value) (c : Nat) (h : cs = (byteVals l).toArray) :
    (convert 55 9 (.slice (some ⟨w.heap.size, 0, none⟩) l.length c)).run Tryz.prog (w.alloc (.cells cs 5)) = .ok (.string ⟨l.toArray⟩) (w.alloc (.cells cs 5)) := by
  subst h
  refine run_convert_bytes_back (P := Tryz.prog) _ 55 9 5 ⟨w.heap.size, 0, none⟩ c l Tryz.underlying55 Tryz.underlying5 Tryz.underlying9 fun j hj => ?_
  rw [Go.WideShapes.add_plain, Nat.zero_add, (Blk.new w 5 (byteVals l).toArray).cell j]
  simp [byteVals, hj]
theorem byteVals_fixed (n : Nat) : byteVals (fixedL n) = [.int .u8 ((n : Int) % 256), .int .u8 ((n : Int) / 256 % 256), .int .u8 ((n : Int) / 65536 % 256), .int .u8 ((n : Int) / 16777216 % 256)] := by
  unfold byteVals fixedL
  simp only [List.map_cons, List.map_nil]
  rw [u8_toNat (by omega), u8_toNat (by omega), u8_toNat (by omega), u8_toNat (by omega)]
  simp only [Int.natCast_emod, Int.natCast_ediv]
  rfl

set_option maxRecDepth 100000 in
set_option maxHeartbeats 2000000 in
theorem reffixed_calls (n : Nat) (hn : n < 4294967296) (w : World) :
    Calls Tryz.prog 31 #[.int .u32 n] w fun e w' => e = .returned (.string ⟨(fixedL n).toArray⟩) ∧ Below w.heap.size w w' := by
  have hst := lit_str w (fixedL n) #[.int .u8 ((n : Int) % 256), .int .u8 ((n : Int) / 256 % 256), .int .u8 ((n : Int) / 65536 % 256), .int .u8 ((n : Int) / 16777216)] 4 (by
    rw [byteVals_fixed, show (n : Int) / 16777216 % 256 = (n : Int) / 16777216 from by omega])
  rw [show (fixedL n).length = 4 from rfl] at hst
  go_enter Tryz.func31, Tryz.ntmps31
  go_wp2
  go_ret
  exact ⟨rfl, (Below.refl _ w).alloc (Nat.le_refl _) _⟩
/-- What is written of a number's four bytes. -/
def fxRow (n k : Nat) : List Value := [if 0 < k then .int .u8 ((n : Int) % 256) else .int .u8 0, if 1 < k then .int .u8 ((n : Int) / 256 % 256) else .int .u8 0, if 2 < k then .int .u8 ((n : Int) / 65536 % 256) else .int .u8 0, if 3 < k then .int .u8 ((n : Int) / 16777216 % 256) else .int .u8 0]
set_option maxRecDepth 100000 in
set_option maxHeartbeats 2000000 in
theorem fixed_calls (n : Nat) (hn : n < 4294967296) (w : World) :
    Calls Tryz.prog 75 #[.int .u32 n] w fun e w' => e = .returned (.string ⟨(fixedL n).toArray⟩) ∧ Below w.heap.size w w' := by
  obtain ⟨i0, hi0, hz0, hz1, hz2⟩ := info_parts infoU8
  go_enter Tryz.func75, Tryz.ntmps75
  go_wp2_with (at_make; refine wpList_make_full _ rfl _ _ 55 rfl w.heap.size 5 i0 _ 1 Tryz.underlying55 hi0 hz0 hz1 _ _ _ _ 4 rfl rfl rfl rfl (by rw [hz2]; omega) (by unfold maxLen; omega) (Nat.le_refl _) ?_; intro w5 hown hgrow)
  have hB0 : Below w.heap.size w w5 := (Below.refl _ w).grown hgrow (Nat.le_refl _) (fun k e => by cases e)
  go_loopw [8] (fun i wr => ∃ k : Nat, k ≤ 4 ∧ i = .int .i64 k ∧ wr.ownsRow w.heap.size 5 1 (.slice (some ⟨w.heap.size, 0, none⟩) 4 4) 4 (fxRow n k) ∧ Below w.heap.size w wr) (fun i _ => 4 - (intOf i).toNat)
  case atStart => exact ⟨0, by omega, rfl, by rw [show fxRow n 0 = (madeCells (Value.int .u8 0).cells (4 * 1)).toList from by (simp [madeCells, Value.cells, fxRow, Nat.mod_one]; rfl)]; exact hown, hB0⟩
  case round =>
    obtain ⟨k, hk, rfl, ho, hB⟩ := hrel
    by_cases hlt : k < 4
    · have hc := ho.cellAt k (by omega)
      have hf := ho.frozenAt k
      have hg := (ho.lt w.heap.size rfl)
      have HO := Lib.hid ho
      clear ho
      rcases (show k = 0 ∨ k = 1 ∨ k = 2 ∨ k = 3 by omega) with rfl | rfl | rfl | rfl
      · simp [fxRow] at hc
        go_wp2
        go_roundw
        case rel => exact ⟨1, by omega, rfl, (HO.out.stored 0 (.int .u8 ((n : Int) % 256))).1, hB.setCell (p := ⟨w.heap.size, 0, none⟩) (by simp) _⟩
        case measure => simp [intOf]
      · simp [fxRow] at hc
        go_wp2
        go_roundw
        case rel => exact ⟨2, by omega, rfl, (HO.out.stored 1 (.int .u8 ((n : Int) / 256 % 256))).1, hB.setCell (p := ⟨w.heap.size, 1, none⟩) (by simp) _⟩
        case measure => simp [intOf]
      · simp [fxRow] at hc
        go_wp2
        go_roundw
        case rel => exact ⟨3, by omega, rfl, (HO.out.stored 2 (.int .u8 ((n : Int) / 65536 % 256))).1, hB.setCell (p := ⟨w.heap.size, 2, none⟩) (by simp) _⟩
        case measure => simp [intOf]
      · simp [fxRow] at hc
        go_wp2
        go_roundw
        case rel =>
          have h1 := (HO.out.stored 3 (.int .u8 ((n : Int) / 16777216))).1
          have e : (fxRow n 3).set 3 (.int .u8 ((n : Int) / 16777216)) = fxRow n 4 := by
            simp only [fxRow]
            rw [show (n : Int) / 16777216 % 256 = (n : Int) / 16777216 from by omega]
            rfl
          rw [e] at h1
          exact ⟨4, by omega, rfl, h1, hB.setCell (p := ⟨w.heap.size, 3, none⟩) (by simp) _⟩
        case measure => simp [intOf]
    · obtain rfl : k = 4 := by omega
      have hst := bytes_str (l := fixedL n) (by rw [byteVals_fixed]; exact ho)
      rw [show (fixedL n).length = 4 from rfl] at hst
      go_wp2
      go_ret
      exact ⟨rfl, hB⟩

theorem putL_small {n : Nat} (h : n < 128) : putL n = [UInt8.ofNat n] := by rw [putL, septs_small h]; rfl
theorem putL_big {n : Nat} (h : ¬ n < 128) : putL n = (UInt8.ofNat (n % 128) ||| 128) :: putL (n / 128) := by rw [putL, septs_big h]; rfl
theorem ba_snoc (l m : List UInt8) : (⟨l.toArray⟩ : ByteArray) ++ ⟨m.toArray⟩ = ⟨(l ++ m).toArray⟩ := by
  apply ByteArray.ext
  simp
set_option maxRecDepth 100000 in
set_option maxHeartbeats 2000000 in
theorem refput_calls (k : Int) (hk0 : -9223372036854775808 ≤ k) (hk1 : k < 9223372036854775808) (w : World) :
    Calls Tryz.prog 70 #[.int .i64 k] w fun e w' => e = .returned (.string ⟨(putL k.toNat).toArray⟩) ∧ Below w.heap.size w w' := by
  have hmax : max 0 k = ((k.toNat : Nat) : Int) := by omega
  have hm : k.toNat < 9223372036854775808 := by omega
  generalize hkk : k.toNat = m at *
  have sB : ∀ (w : World) (c : Nat) (hc : c < 128), (convert 55 9 (.slice (some ⟨w.heap.size, 0, none⟩) 1 1)).run Tryz.prog (w.alloc (.cells #[.int .u8 (c : Int)] 5)) = .ok (.string ⟨[UInt8.ofNat c].toArray⟩) (w.alloc (.cells #[.int .u8 (c : Int)] 5)) := fun w c hc =>
    lit_str w [UInt8.ofNat c] _ 1 (by simp [byteVals]; omega)
  have sC : ∀ (w : World) (c : Nat), (convert 55 9 (.slice (some ⟨w.heap.size, 0, none⟩) 1 1)).run Tryz.prog (w.alloc (.cells #[.int .u8 (bits .or .u8 ((c : Int) % 128) 128)] 5)) = .ok (.string ⟨[UInt8.ofNat (c % 128) ||| 128].toArray⟩) (w.alloc (.cells #[.int .u8 (bits .or .u8 ((c : Int) % 128) 128)] 5)) := fun w c => by
    refine lit_str w [UInt8.ofNat (c % 128) ||| 128] _ 1 ?_
    unfold byteVals
    simp only [List.map_cons, List.map_nil]
    rw [sepB_or, u8_toNat (show c % 128 < 256 by omega)]
    rfl
  have h127 := i64_and127
  have hml : (putL m).length ≤ 10 := by rw [putL, List.length_map]; exact septs_len 9 m (by omega)
  go_enter Tryz.func70, Tryz.ntmps70
  go_wp2
  all_goals
    go_loopw [3, 4] (fun kv s wr => ∃ (c : Nat) (pre : List UInt8), kv = .int .i64 c ∧ c < 9223372036854775808 ∧ s = .string ⟨pre.toArray⟩ ∧ putL m = pre ++ putL c ∧ Below w.heap.size w wr) (fun kv _ _ => (intOf kv).toNat)
    case atStart => exact ⟨m, [], by congr 1; omega, hm, rfl, rfl, Below.refl _ _⟩
    case round =>
      obtain ⟨c, pre, rfl, hc, rfl, hp, hB⟩ := hrel
      have hpl : pre.length ≤ 10 := by
        have h1 := congrArg List.length hp
        rw [List.length_append] at h1
        omega
      by_cases hlt : c < 128
      · rw [putL_small hlt] at hp
        have hst := sB wr c hlt
        have hba := ba_snoc pre [UInt8.ofNat c]
        have HP := Lib.hid hp
        have HA := Lib.hid hba
        clear sB sC hp hba
        go_wp2
        go_ret
        exact ⟨by rw [HP.out, ← HA.out]; rfl, hB.alloc hB.size _⟩
      · rw [putL_big hlt] at hp
        have hst := sC wr c
        have hba := ba_snoc pre [UInt8.ofNat (c % 128) ||| 128]
        have HP := Lib.hid hp
        have HA := Lib.hid hba
        clear sB sC hp hba
        go_wp2
        go_roundw
        case rel => exact ⟨c / 128, pre ++ [UInt8.ofNat (c % 128) ||| 128], by simp, by omega, by rw [HA.out], by rw [HP.out]; simp, hB.alloc hB.size _⟩
        case measure => simp [intOf]; omega
set_option maxRecDepth 100000 in
set_option maxHeartbeats 2000000 in
theorem refmore_calls (c : Nat) (hc : c < 4294967296) (b : ByteArray) (hb : b.size ≤ 1099511627776) (w : World) :
    Calls Tryz.prog 32 #[.int .u32 c, .string b] w fun e w' => e = .returned (.int .u32 (crcMore c b : Int)) ∧ Below w.heap.size w w' := by
  obtain ⟨c0, hc0⟩ : ∃ c0 : Nat, c0 = 4294967295 - c := ⟨_, rfl⟩
  have hn : bits .xor .u32 IntKind.u32.max (c : Int) = (c0 : Int) := by rw [hc0]; exact not32 c hc
  have HC := Lib.hid hc0
  have hc0l : c0 < 4294967296 := by omega
  clear hc0
  go_enter Tryz.func32, Tryz.ntmps32
  go_wp2
  go_loop [5, 6] (fun o i => ∃ k : Nat, k ≤ b.size ∧ i = .int .i64 k ∧ o = .int .u32 (crcL c0 (b.data.toList.take k) : Int)) (fun _ i => b.size - (intOf i).toNat)
  case atStart => exact ⟨0, Nat.zero_le _, rfl, rfl⟩
  case round =>
    obtain ⟨k, hk, rfl, rfl⟩ := hrel
    by_cases hlt : k < b.size
    · have hlk : k < b.data.toList.length := by simpa using hlt
      have hsn := crcL_snoc c0 (b.data.toList.take k) b.data.toList[k]
      rw [← List.take_succ_eq_append_getElem hlk] at hsn
      obtain ⟨x, hbx⟩ : ∃ x, b[k]'hlt = x := ⟨_, rfl⟩
      rw [show b.data.toList[k] = b[k]'hlt by simp; rfl, hbx] at hsn
      have hcl := crcL_lt (b.data.toList.take k) hc0l
      have HS := Lib.hid hsn
      clear hsn
      generalize crcL c0 (b.data.toList.take k) = cc at *
      have hx8 := x.toNat_lt
      have hxor : bits .xor .u32 (cc : Int) (x.toNat : Int) = ((cc ^^^ x.toNat : Nat) : Int) := by
        rw [u32_xor _ _ (by omega) (by omega) (by omega) (by omega)]
        rfl
      have hxl : cc ^^^ x.toNat < 4294967296 := Nat.xor_lt_two_pow (n := 32) (by omega) (by omega)
      go_wp2
      go_loop [5, 7] (fun o j => ∃ i : Nat, i ≤ 8 ∧ j = .int .i64 i ∧ o = .int .u32 (stN i (cc ^^^ x.toNat) : Int)) (fun _ j => 8 - (intOf j).toNat)
      case atStart => exact ⟨0, by omega, rfl, rfl⟩
      case round =>
        obtain ⟨i, hi, rfl, rfl⟩ := hrel
        by_cases hi8 : i < 8
        · have hcl2 := stN_lt hxl i
          have hnx : stN (i + 1) (cc ^^^ x.toNat) = st1 (stN i (cc ^^^ x.toNat)) := rfl
          have HN := Lib.hid hnx
          have hlb := low_bit _ hcl2
          clear hnx
          generalize stN i (cc ^^^ x.toNat) = d at *
          by_cases hodd : d % 2 = 1
          · have hs1 : st1 d = (d / 2) ^^^ 2197175160 := by unfold st1; rw [if_pos hodd]
            have hx := poly_xor (d / 2) (by omega)
            rw [Int.natCast_ediv, show ((2 : Nat) : Int) = 2 from rfl] at hx
            rw [hodd] at hlb
            have H1 := Lib.hid hs1
            clear hs1
            go_wp2
            go_round
            case rel => exact ⟨i + 1, by omega, by simp, by rw [HN.out, H1.out]⟩
            case measure => simp [intOf]; omega
          · have hs1 : st1 d = d / 2 := by unfold st1; rw [if_neg hodd]
            rw [show d % 2 = 0 from by omega] at hlb
            have H1 := Lib.hid hs1
            clear hs1
            go_wp2
            go_round
            case rel => exact ⟨i + 1, by omega, by simp, by rw [HN.out, H1.out]; simp⟩
            case measure => simp [intOf]; omega
        · obtain rfl : i = 8 := by omega
          go_wp2
          go_round
          case rel => exact ⟨k + 1, by omega, by simp, by rw [HS.out]; rfl⟩
          case measure => simp [intOf]; omega
    · obtain rfl : k = b.size := by omega
      go_wp2
      go_ret
      refine ⟨?_, Below.refl _ _⟩
      rw [not32 _ (crcL_lt _ hc0l), List.take_of_length_le (by simp), HC.out]
      rfl
end Go.Proofs.YtoaegleieacokaaGreat
