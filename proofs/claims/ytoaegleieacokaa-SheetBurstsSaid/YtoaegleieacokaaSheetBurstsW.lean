/- SheetBursts: the walk. -/
import Derived.Test.YtoaegleieacokaaBurst
import Derived.Test.YtoaegleieacokaaSheetTellsW
namespace Go.Proofs.Ytoaegleieacokaa
open Go.RowKit Go.Shelf

theorem tail_at {F B : List UInt8} (hF : F.length = 4) (k : Nat) (hk : k < B.length) : ∃ h : k + 4 < (F ++ B).length, (F ++ B)[k + 4] = B[k] := by
  refine ⟨by rw [List.length_append, hF]; omega, ?_⟩
  rw [List.getElem_append_right (by omega)]
  simp [hF]
theorem tail_set {F B : List UInt8} (hF : F.length = 4) (k : Nat) (y : UInt8) : (F ++ B).set (k + 4) y = F ++ B.set k y := by
  rw [List.set_append_right _ _ (by omega)]
  simp [hF]
theorem tail_cell {W : World} {g : Nat} {F B : List UInt8} (h : BytesAt W g (F ++ B)) (hF : F.length = 4) (k : Nat) (hk : k < B.length) : W.cell? ⟨g, k + 4, none⟩ = some (.int .u8 (B[k].toNat : Int)) ∧ W.frozen? ⟨g, k + 4, none⟩ = false := by
  obtain ⟨h1, h2⟩ := tail_at (B := B) hF k hk
  have := h.cell (k + 4) h1
  rw [h2] at this
  exact ⟨this, h.free _ h1⟩
theorem tail_store {W : World} {g : Nat} {F B : List UInt8} (h : BytesAt W g (F ++ B)) (hF : F.length = 4) (k : Nat) (hk : k < B.length) (y : UInt8) : BytesAt (W.setCell ⟨g, k + 4, none⟩ (.int .u8 (y.toNat : Int))) g (F ++ B.set k y) := by
  have := h.set (k + 4) (tail_at hF k hk).1 y
  rwa [tail_set hF] at this
theorem flip8 (b : UInt8) (r : Nat) (hr : r < 8) : bits .xor .u8 (b.toNat : Int) (2 ^ r % 256) = ((b ^^^ UInt8.ofNat (2 ^ r)).toNat : Int) ∧ (UInt8.ofNat (2 ^ r)).toNat = 1 <<< r := by
  have h : ((2 : Int) ^ r % 256) = ((UInt8.ofNat (2 ^ r)).toNat : Int) ∧ (UInt8.ofNat (2 ^ r)).toNat = 1 <<< r := by
    rcases (show r = 0 ∨ r = 1 ∨ r = 2 ∨ r = 3 ∨ r = 4 ∨ r = 5 ∨ r = 6 ∨ r = 7 by omega) with rfl | rfl | rfl | rfl | rfl | rfl | rfl | rfl <;> exact ⟨by decide, by decide⟩
  rw [h.1]
  exact ⟨xor8 b _, h.2⟩
set_option maxRecDepth 100000 in
set_option maxHeartbeats 1000000 in
theorem walk_SheetBursts {W : World} (a0 : Option Addr) (c0 : Nat) (l0 : List Int) (r0 : Rd W W.heap.size 1 (.slice a0 l0.length c0) l0.length (l0.map (Value.int .i64))) (_ : c0 ≤ maxLen) (_ : ∀ x ∈ l0, (Lit.int .i64 x).wf = true)
    (a1 : Int) (w1 : (Lit.int .u16 a1).wf = true) (a2 : Int) (w2 : (Lit.int .u32 a2).wf = true) :
    Calls Try.prog 6 #[.slice a0 l0.length c0, .int .u16 a1, .int .u32 a2] W fun e w' => e = .returned (.bool true) ∧ Below W.heap.size W w' := by
  obtain ⟨x1, y1⟩ := wf_u16 w1
  obtain ⟨x2, y2⟩ := wf_u32 w2
  have hI : Ints W W.heap.size (.slice a0 l0.length c0) l0 := r0
  go_enter Try.func6, Try.ntmps6
  go_wp2_with fail
  refine (known9_calls W).mono ?_
  rintro e W1 ⟨rfl, hB1⟩
  by_cases hlen : 250 < l0.length
  · go_wp2
    go_ret
    exact ⟨rfl, hB1⟩
  replace hI := (hI.below hB1 (Nat.le_refl _)).up hB1.size
  have hbc := fun W' (hb : Below W1.heap.size W1 W') => bytes_calls a0 c0 l0 (by omega) W' ((hI.below hb (Nat.le_refl _)).up hb.size)
  have hic := is_calls a0 c0 l0 (by omega) W1 hI
  cases hL : isL l0 with
  | false =>
    simp only [hL] at hic
    go_wp2_with fail
    refine hic.mono ?_
    rintro x W2 ⟨rfl, hB2⟩
    go_wp2
    go_ret
    exact ⟨rfl, hB1.trans (hB2.mono hB1.size)⟩
  | true =>
    simp only [hL, if_true] at hbc hic
    go_wp2_with fail
    refine hic.mono ?_
    rintro x W2 ⟨rfl, hB2⟩
    by_cases hz : a2 = 0
    · go_wp2
      go_ret
      exact ⟨rfl, hB1.trans (hB2.mono hB1.size)⟩
    have hzb : (a2 == 0) = false := by simpa using hz
    have hle := bytesL_len (isL_sheet hL)
    have hge := bytesL_ge hL
    have hro := read_ok l0 hL
    have hbad := fun (B : List UInt8) (j i : Nat) (h : Burst (bodyL l0) B j i true) (hi : i ≤ 32) (hj : j ≤ 8 * (bodyL l0).length) => burst_bad h hi hj
    have hN0 : (bytesL l0).length = (bodyL l0).length + 4 := by rw [bytesL, List.length_append, fixedL_len]; omega
    have hS : bytesL l0 = fixedL (crcMore 0 ⟨(bodyL l0).toArray⟩) ++ bodyL l0 := rfl
    have hF := fixedL_len (crcMore 0 ⟨(bodyL l0).toArray⟩)
    generalize fixedL (crcMore 0 ⟨(bodyL l0).toArray⟩) = F at *
    generalize bodyL l0 = B0 at *
    have hbsz := ba_size (bytesL l0)
    have hnb := fun W' => new_bytes W' (bytesL l0)
    have HS := Lib.hid hS
    clear hS
    generalize bytesL l0 = S at *
    generalize hN : S.length = N at *
    generalize hM : B0.length = M at *
    have n1 : N ≤ M + 4 := by omega
    have n2 : M + 4 ≤ N := by omega
    clear hN0
    obtain ⟨j, hj, hjt⟩ : ∃ j : Nat, j < 8 * M ∧ a1.tmod (8 * (N : Int) - 32) = (j : Int) := by
      have h0 : (0 : Int) < 8 * (N : Int) - 32 := by omega
      have h1 := Int.emod_nonneg a1 (Int.ne_of_gt h0)
      have h2 := Int.emod_lt_of_pos a1 h0
      rw [Int.tmod_eq_emod_of_nonneg x1]
      exact ⟨(a1 % (8 * (N : Int) - 32)).toNat, by omega, by omega⟩
    go_wp2_with fail
    refine (hbc W2 hB2).mono ?_
    clear hbc hic
    rintro x W3 ⟨rfl, hB3⟩
    replace hB3 := hB2.trans (hB3.mono hB2.size)
    obtain ⟨W4, cap, hcv, hB4, hat⟩ := hnb W3
    have hg := hB3.size
    replace hB4 := hB3.trans (hB4.mono hB3.size)
    clear hnb hB2 hB3
    generalize hgg : W3.heap.size = g at *
    have h32 : (32 : Int) + (j : Int) = ((j + 32 : Nat) : Int) := by omega
    rw [HS.out] at hat
    go_wp2_with fail
    go_loopw [11, 12] (fun ch i wr => ∃ (k : Nat) (c : Bool) (B : List UInt8), k ≤ 32 ∧ j + k ≤ 8 * M ∧ i = .int .i64 k ∧ ch = .bool c ∧ Burst B0 B j k c ∧ BytesAt wr g (F ++ B) ∧ Below W1.heap.size W1 wr) (fun _ i _ => 32 - (intOf i).toNat)
    case atStart => exact ⟨0, false, B0, by omega, by omega, rfl, rfl, burst_0 B0 j, hat, hB4⟩
    case round =>
      obtain ⟨k, ch, B, hk, hjk, rfl, rfl, hbu, hat2, hB⟩ := hrel
      by_cases hlt : k < 32 ∧ j + k < 8 * M
      · obtain ⟨hl1, hl2⟩ := hlt
        have hbl := hbu.1
        obtain ⟨q, r, hqB, hr8, hqr, hidx, hrem⟩ : ∃ q r : Nat, q < B.length ∧ r < 8 ∧ 8 * q + r = j + k ∧ (j + 32 + k) / 8 = q + 4 ∧ (j + 32 + k) % 8 = r := ⟨(j + k) / 8, (j + k) % 8, by omega, by omega, by omega, by omega, by omega⟩
        obtain ⟨hc, hf⟩ := tail_cell hat2 hF q hqB
        have hbk := burst_keep hbu
        by_cases hbit : bits .and .u32 (a2 / 2 ^ k) 1 = 1
        · have hbb : (bits .and .u32 (a2 / 2 ^ k) 1 == 1) = true := by rw [hbit]; rfl
          clear hbit
          have hfl := flip8 B[q] r hr8
          have hbf := burst_flip hbu q r hqB hqr (UInt8.ofNat (2 ^ r)) hfl.2
          have hst := tail_store hat2 hF q hqB (B[q] ^^^ UInt8.ofNat (2 ^ r))
          rw [← hfl.1] at hst
          have HST := Lib.hid hst
          have HBF := Lib.hid hbf
          clear hfl hst hbf
          go_wp2
          go_roundw
          case rel => exact ⟨k + 1, true, _, by omega, by omega, by simp, rfl, HBF.out, HST.out, hB.setCell (p := ⟨g, q + 4, none⟩) hg _⟩
          case measure => simp [intOf]; omega
        · have hbb : (bits .and .u32 (a2 / 2 ^ k) 1 == 1) = false := by simpa using hbit
          clear hbit hc hf
          go_wp2
          go_roundw
          case rel => exact ⟨k + 1, ch, B, by omega, by omega, by simp, rfl, hbk, hat2, hB⟩
          case measure => simp [intOf]; omega
      · have hbl := hbu.1
        by_cases hk32 : k < 32
        · have hjk2 : j + k = 8 * M := by omega
          clear hlt
          have hbk2 := back_bytes hat2 cap
          have hFB : (F ++ B).length = N := by rw [List.length_append, hF]; omega
          rw [hFB] at hbk2
          have hrb := fun (h : ch = true) => read_bad (F ++ B) (by rw [hFB]; omega) (fun m _ e => hbad B j k (by rw [← h]; exact hbu) (by omega) (by omega) m e)
          have hre := fun (h : ch = false) => (hbu.2.1 h)
          clear hbu hbad hFB
          cases ch with
          | true =>
            replace hrb := hrb rfl wr
            clear hre
            generalize F ++ B = T at *
            go_wp2_with fail
            refine hrb.mono ?_
            rintro x W5 ⟨rfl, hB5⟩
            go_wp2
            go_ret
            exact ⟨rfl, hB1.trans ((hB.trans (hB5.mono hB.size)).mono hB1.size)⟩
          | false =>
            rw [hre rfl, ← HS.out] at hbk2
            clear hrb hre
            replace hro := hro wr
            go_wp2_with fail
            refine hro.mono ?_
            rintro x W5 ⟨v5, rfl, ho5, hB5⟩
            go_wp2
            go_ret
            exact ⟨rfl, hB1.trans ((hB.trans (hB5.mono hB.size)).mono hB1.size)⟩
        · have hk33 : k = 32 := by omega
          clear hlt
          have hbk2 := back_bytes hat2 cap
          have hFB : (F ++ B).length = N := by rw [List.length_append, hF]; omega
          rw [hFB] at hbk2
          have hrb := fun (h : ch = true) => read_bad (F ++ B) (by rw [hFB]; omega) (fun m _ e => hbad B j k (by rw [← h]; exact hbu) (by omega) (by omega) m e)
          have hre := fun (h : ch = false) => (hbu.2.1 h)
          clear hbu hbad hFB
          cases ch with
          | true =>
            replace hrb := hrb rfl wr
            clear hre
            generalize F ++ B = T at *
            go_wp2_with fail
            refine hrb.mono ?_
            rintro x W5 ⟨rfl, hB5⟩
            go_wp2
            go_ret
            exact ⟨rfl, hB1.trans ((hB.trans (hB5.mono hB.size)).mono hB1.size)⟩
          | false =>
            rw [hre rfl, ← HS.out] at hbk2
            clear hrb hre
            replace hro := hro wr
            go_wp2_with fail
            refine hro.mono ?_
            rintro x W5 ⟨v5, rfl, ho5, hB5⟩
            go_wp2
            go_ret
            exact ⟨rfl, hB1.trans ((hB.trans (hB5.mono hB.size)).mono hB1.size)⟩
end Go.Proofs.Ytoaegleieacokaa
