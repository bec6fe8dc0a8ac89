/- head.Bytes; the reference's Name and Head. -/
import Derived.Test.YtoaegleieacokaaGreatHead
namespace Go.Proofs.YtoaegleieacokaaGreat
open Go.RowKit Go.Shelf

def headBody (m : Nat) : List UInt8 := [76, 65, 68, 69] ++ fixedL m ++ [0, 0, 0, 0]
def headL (m : Nat) : List UInt8 := headBody m ++ fixedL (crcMore 0 ⟨(headBody m).toArray⟩)
def headB (m : Nat) : ByteArray := ⟨(headL m).toArray⟩
theorem headL_len (m : Nat) : (headL m).length = 16 := rfl
theorem headBody_eq (m : Nat) : (⟨#[76, 65, 68, 69]⟩ : ByteArray) ++ ⟨(fixedL m).toArray⟩ ++ ⟨#[0, 0, 0, 0]⟩ = ⟨(headBody m).toArray⟩ := by
  apply WideShapes.bytes_inj
  simp only [ByteArray.data_append]
  simp [headBody]
theorem headB_eq (m : Nat) : (⟨(headBody m).toArray⟩ : ByteArray) ++ ⟨(fixedL (crcMore 0 ⟨(headBody m).toArray⟩)).toArray⟩ = headB m := by
  apply WideShapes.bytes_inj
  simp only [ByteArray.data_append]
  simp [headB, headL]
theorem crcMore_lt (b : ByteArray) : crcMore 0 b < 4294967296 := by unfold crcMore; omega
theorem ba_len (l : List UInt8) : (⟨l.toArray⟩ : ByteArray).size = l.length := by simp [ByteArray.size]
set_option maxRecDepth 100000 in
set_option maxHeartbeats 1000000 in
theorem hbytes_calls (id : Int) (w : World) :
    Calls Tryz.prog 52 #[.int .i64 id] w fun e w' => e = .returned (.string (headB (idN id))) ∧ Below w.heap.size w w' := by
  have hm : idN id < 4294967296 := by unfold idN; omega
  have hheld := held_calls id w
  have hz : fixedL 0 = [0, 0, 0, 0] := rfl
  have hbe := headBody_eq (idN id)
  have hBe := headB_eq (idN id)
  have hbl : (⟨(headBody (idN id)).toArray⟩ : ByteArray).size ≤ 1099511627776 := by rw [ba_len]; simp [headBody, fixedL]
  have hbl2 : Hid ((⟨(headBody (idN id)).toArray⟩ : ByteArray).size ≤ 1099511627776) := Lib.hid hbl
  have hfl : ((fixedL (idN id)).length : Int) ≤ 4 := by simp [fixedL]
  generalize idN id = m at *
  have hcrc := fun w' => of_crc_calls ⟨(headBody m).toArray⟩ hbl w'
  have HC := Lib.hid hcrc
  have HE := Lib.hid hbe
  have HB := Lib.hid hBe
  have hlt := crcMore_lt ⟨(headBody m).toArray⟩
  have hfm := fixed_calls m hm w
  have hf0 := fun w' => fixed_calls 0 (by decide) w'
  rw [hz] at hf0
  have HF0 := Lib.hid hf0
  have hfc := fun w' => fixed_calls _ hlt w'
  have HFC := Lib.hid hfc
  clear hcrc hbe hBe hz hf0 hfc hbl
  generalize crcMore 0 ⟨(headBody m).toArray⟩ = cc at *
  go_enter Tryz.func52, Tryz.ntmps52
  go_wp2_with fail
  refine hheld.mono ?_
  rintro e w' ⟨rfl, rfl⟩
  go_wp2_with fail
  refine hfm.mono ?_
  rintro e w1 ⟨rfl, hB1⟩
  go_wp2_with fail
  refine (HF0.out _).mono ?_
  rintro e w2 ⟨rfl, hB2⟩
  go_wp2_with fail
  rw [HE.out]
  have hbz := hbl2.out
  refine (HC.out w2).mono ?_
  rintro e w3 ⟨rfl, hB3⟩
  generalize (⟨(headBody m).toArray⟩ : ByteArray) = S at *
  go_wp2_with fail
  refine (HFC.out _).mono ?_
  rintro e w4 ⟨rfl, hB4⟩
  have hcl : ((fixedL cc).length : Int) ≤ 4 := by simp [fixedL]
  have hB := hB1.trans ((hB2.trans ((hB3.trans (hB4.mono hB3.size)).mono hB2.size)).mono hB1.size)
  clear HE HC HF0 HFC hB1 hB2 hB3 hB4
  go_wp2
  go_ret
  exact ⟨by rw [← HB.out]; rfl, hB⟩
/-- The last k digits. -/
def dgT (m k : Nat) : List UInt8 := (List.range k).reverse.map fun j => UInt8.ofNat (dg m j)
theorem dgT_succ (m k : Nat) : dgT m (k + 1) = UInt8.ofNat (dg m k) :: dgT m k := by simp [dgT, List.range_succ]
theorem dgT_8 (m : Nat) : dgT m 8 = digitsL m := rfl
theorem dgT_len (m k : Nat) : (dgT m k).length = k := by simp [dgT]
set_option maxRecDepth 100000 in
set_option maxHeartbeats 2000000 in
theorem rname_calls (id : Int) (w : World) :
    Calls Tryz.prog 24 #[.int .i64 id] w fun e w' => e = .returned (.string (nameB (idN id))) ∧ Below w.heap.size w w' := by
  have hm : idN id < 100000000 := by unfold idN; omega
  have hme : max 1 (min id 99999999) = (idN id : Int) := by unfold idN; omega
  have hN : (⟨#[115, 101, 103, 45]⟩ : ByteArray) ++ ⟨(dgT (idN id) 8).toArray⟩ = nameB (idN id) := by
    apply WideShapes.bytes_inj
    rw [ByteArray.data_append]
    simp [nameB, dgT_8]
  generalize idN id = m at *
  have HN := Lib.hid hN
  have HM := Lib.hid hme
  clear hN hme
  have hthree : id ≤ 1 ∨ 99999999 < id ∨ (1 < id ∧ id ≤ 99999999) := by omega
  rcases hthree with h1 | h1 | ⟨h1, h2⟩
  all_goals
    go_enter Tryz.func24, Tryz.ntmps24
    go_wp2
    go_loopw [3, 4, 5] (fun v s i wr => ∃ (k c : Nat), k ≤ 8 ∧ i = .int .i64 k ∧ c < 100000000 ∧ v = .int .i64 c ∧ Hid (c = m / 10 ^ k) ∧ s = .string ⟨(dgT m k).toArray⟩ ∧ Below w.heap.size w wr) (fun _ _ i _ => 8 - (intOf i).toNat)
    case atStart => exact ⟨0, m, by omega, rfl, hm, congrArg (Value.int .i64) (by have := HM.out; omega), Lib.hid (by simp), rfl, Below.refl _ _⟩
    case round =>
      obtain ⟨k, c, hk, rfl, hc, rfl, HC, rfl, hB⟩ := hrel
      by_cases hlt : k < 8
      · have hdg : 48 + (c : Int) % 10 = ((UInt8.ofNat (dg m k)).toNat : Int) := by
          have h3 := dg_lt m k
          rw [u8_toNat (by omega), HC.out]
          unfold dg
          omega
        have HD := Lib.hid hdg
        have hst := lit_str wr [UInt8.ofNat (dg m k)] #[.int .u8 (48 + (c : Int) % 10)] 1 (by rw [hdg]; simp [byteVals])
        have HC2 : Hid (c / 10 = m / 10 ^ (k + 1)) := Lib.hid (by rw [HC.out, Nat.div_div_eq_div_mul, Nat.pow_succ])
        have hcat : (⟨[UInt8.ofNat (dg m k)].toArray⟩ : ByteArray) ++ ⟨(dgT m k).toArray⟩ = ⟨(dgT m (k + 1)).toArray⟩ := by
          apply WideShapes.bytes_inj
          rw [ByteArray.data_append, dgT_succ]
          simp
        have HCAT := Lib.hid hcat
        have hlen : ((dgT m k).length : Int) ≤ 8 := by rw [dgT_len]; omega
        clear hdg hcat
        generalize UInt8.ofNat (dg m k) = x at *
        generalize dgT m k = T at *
        simp only [List.length_cons, List.length_nil, Nat.zero_add] at hst
        have hB2 := hB.alloc hB.size (.cells #[.int .u8 (48 + (c : Int) % 10)] 5)
        go_wp2
        go_roundw
        case rel => exact ⟨k + 1, c / 10, by omega, by simp, by omega, by simp, HC2, by rw [← HCAT.out], hB2⟩
        case measure => simp [intOf]; omega
      · obtain rfl : k = 8 := by omega
        have hl8 := dgT_len m 8
        have hlen : ((dgT m 8).length : Int) ≤ 8 := by rw [hl8]; omega
        clear hl8
        generalize dgT m 8 = T at *
        go_wp2
        go_ret
        exact ⟨by rw [← HN.out]; rfl, hB⟩
set_option maxRecDepth 100000 in
set_option maxHeartbeats 1000000 in
theorem rhead_calls (id : Int) (w : World) :
    Calls Tryz.prog 9 #[.int .i64 id] w fun e w' => e = .returned (.string (headB (idN id))) ∧ Below w.heap.size w w' := by
  have hm : idN id < 4294967296 := by unfold idN; omega
  have hme : max 1 (min id 99999999) = (idN id : Int) := by unfold idN; omega
  have hbe := headBody_eq (idN id)
  have hBe := headB_eq (idN id)
  have hbl : (⟨(headBody (idN id)).toArray⟩ : ByteArray).size ≤ 1099511627776 := by rw [ba_len]; simp [headBody, fixedL]
  have hbl2 : Hid ((⟨(headBody (idN id)).toArray⟩ : ByteArray).size ≤ 1099511627776) := Lib.hid hbl
  have hfl : ((fixedL (idN id)).length : Int) ≤ 4 := by simp [fixedL]
  generalize idN id = m at *
  have hcrc := fun w' => refmore_calls 0 (by decide) ⟨(headBody m).toArray⟩ hbl w'
  have HC := Lib.hid hcrc
  have HE := Lib.hid hbe
  have HB := Lib.hid hBe
  have hlt := crcMore_lt ⟨(headBody m).toArray⟩
  have hfm := reffixed_calls m hm w
  have hfc := fun w' => reffixed_calls _ hlt w'
  have HFC := Lib.hid hfc
  clear hcrc hbe hBe hfc hbl
  generalize crcMore 0 ⟨(headBody m).toArray⟩ = cc at *
  have hcl : ((fixedL cc).length : Int) ≤ 4 := by simp [fixedL]
  have hthree : id ≤ 1 ∨ 99999999 < id ∨ (1 < id ∧ id ≤ 99999999) := by omega
  rcases hthree with h1 | h1 | ⟨h1, h2⟩
  · obtain rfl : m = 1 := by omega
    rw [show ((1 : Nat) : Int) = 1 from rfl] at hfm
    clear hme
    go_enter Tryz.func9, Tryz.ntmps9
    go_wp2_with fail
    refine hfm.mono ?_
    clear hfm
    rintro e w1 ⟨rfl, hB1⟩
    go_wp2_with fail
    rw [HE.out]
    have hbz := hbl2.out
    have hc2 := HC.out w1
    refine hc2.mono ?_
    clear hc2
    rintro e w3 ⟨rfl, hB3⟩
    generalize (⟨(headBody 1).toArray⟩ : ByteArray) = S at *
    go_wp2_with fail
    refine (HFC.out _).mono ?_
    rintro e w4 ⟨rfl, hB4⟩
    have hB := hB1.trans ((hB3.trans (hB4.mono hB3.size)).mono hB1.size)
    clear HE HC HFC hB1 hB3 hB4
    go_wp2
    go_ret
    exact ⟨by rw [← HB.out]; rfl, hB⟩
  · obtain rfl : m = 99999999 := by omega
    rw [show ((99999999 : Nat) : Int) = 99999999 from rfl] at hfm
    clear hme
    go_enter Tryz.func9, Tryz.ntmps9
    go_wp2_with fail
    refine hfm.mono ?_
    clear hfm
    rintro e w1 ⟨rfl, hB1⟩
    go_wp2_with fail
    rw [HE.out]
    have hbz := hbl2.out
    have hc2 := HC.out w1
    refine hc2.mono ?_
    clear hc2
    rintro e w3 ⟨rfl, hB3⟩
    generalize (⟨(headBody 99999999).toArray⟩ : ByteArray) = S at *
    go_wp2_with fail
    refine (HFC.out _).mono ?_
    rintro e w4 ⟨rfl, hB4⟩
    have hB := hB1.trans ((hB3.trans (hB4.mono hB3.size)).mono hB1.size)
    clear HE HC HFC hB1 hB3 hB4
    go_wp2
    go_ret
    exact ⟨by rw [← HB.out]; rfl, hB⟩
  · obtain rfl : id = (m : Int) := by omega
    clear hme
    go_enter Tryz.func9, Tryz.ntmps9
    go_wp2_with fail
    refine hfm.mono ?_
    clear hfm
    rintro e w1 ⟨rfl, hB1⟩
    go_wp2_with fail
    rw [HE.out]
    have hbz := hbl2.out
    have hc2 := HC.out w1
    refine hc2.mono ?_
    clear hc2
    rintro e w3 ⟨rfl, hB3⟩
    generalize (⟨(headBody m).toArray⟩ : ByteArray) = S at *
    go_wp2_with fail
    refine (HFC.out _).mono ?_
    rintro e w4 ⟨rfl, hB4⟩
    have hB := hB1.trans ((hB3.trans (hB4.mono hB3.size)).mono hB1.size)
    clear HE HC HFC hB1 hB3 hB4
    go_wp2
    go_ret
    exact ⟨by rw [← HB.out]; rfl, hB⟩
end Go.Proofs.YtoaegleieacokaaGreat
