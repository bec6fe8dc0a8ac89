/- LiveTells: the walk. -/
import Derived.Test.YtnbnkmpmkpillaaKnown15
import Derived.Test.YtnbnkmpmkpillaaRefRec
import Derived.Deep.RegionHeld3
namespace Go.Proofs.Ytnbnkmpmkpillaa
open Go.RowKit Go.Shelf

set_option maxRecDepth 100000 in
set_option maxHeartbeats 4000000 in
theorem walk_LiveTells {W : World} (a0 : Option Addr) (c0 : Nat) (l0 : List Spot) (r0 : Rd W W.heap.size 4 (.slice a0 l0.length c0) l0.length (cellsOf l0)) (_ : c0 ≤ maxLen) (_ : ∀ x ∈ l0, True)
    (a1 : Int) (_ : (Lit.int .i64 a1).wf = true) (a2 : Option Addr) (c2 : Nat) (l2 : List Int) (r2 : Rd W W.heap.size 1 (.slice a2 l2.length c2) l2.length (l2.map (Value.int .i64))) (b2 : c2 ≤ maxLen) (_ : ∀ x ∈ l2, (Lit.int .i64 x).wf = true) :
    Calls Try.prog 3 #[.slice a0 l0.length c0, .int .i64 a1, .slice a2 l2.length c2] W fun e w' => e = .returned (.bool true) ∧ Below W.heap.size W w' := by
  have hS : Spots W W.heap.size (.slice a0 l0.length c0) l0 := r0
  have hI : Ints W W.heap.size (.slice a2 l2.length c2) l2 := r2
  clear r0 r2
  by_cases h1 : 60 < l0.length ∨ 20 < l2.length
  · go_enter Try.func3, Try.ntmps3
    go_wp2_with fail
    refine (known15_calls W).mono ?_
    rintro e w1 ⟨rfl, hB1⟩
    rcases h1 with h1 | h1
    · go_wp2
      go_ret
      exact ⟨rfl, hB1⟩
    · by_cases h2 : 60 < l0.length
      · go_wp2
        go_ret
        exact ⟨rfl, hB1⟩
      · go_wp2
        go_ret
        exact ⟨rfl, hB1⟩
  · have h2 : l0.length ≤ 60 := by omega
    have h3 : l2.length ≤ 20 := by omega
    clear h1
    have e1 : decide (60 < (l0.length : Int)) = false := by simp; omega
    have e2 : decide (20 < (l2.length : Int)) = false := by simp; omega
    go_enter Try.func3, Try.ntmps3
    go_wp2_with fail
    refine (known15_calls W).mono ?_
    rintro e w1 ⟨rfl, hB1⟩
    have hS1 := (hS.below hB1 (Nat.le_refl _)).up hB1.size
    have hI1 := (hI.below hB1 (Nat.le_refl _)).up hB1.size
    go_wp2_with fail
    refine (counts_calls c0 c2 a0 a2 l0 l2 (by omega) (by omega) w1 hS1 hI1).mono ?_
    rintro e w2 ⟨v, rfl, ho, hB2⟩
    have hR : Ints w2 w2.heap.size v (l2.map (cnt l0)) := by have := Rd.of_owns ho; unfold Ints; simpa using this
    obtain ⟨a3, c3, rfl⟩ := Rd.val hR
    have hS2 := (hS1.below hB2 (Nat.le_refl _)).up hB2.size
    have hI2 := (hI1.below hB2 (Nat.le_refl _)).up hB2.size
    have hB := hB1.trans (hB2.mono hB1.size)
    clear ho hS1 hI1 hB1 hB2 hS hI
    rw [List.length_map] at *
    go_wp2_with fail
    go_loopw [8] (fun i wr => ∃ k : Nat, k ≤ l2.length ∧ i = .int .i64 k ∧ Below w2.heap.size w2 wr) (fun i _ => l2.length - (intOf i).toNat)
    case atStart => exact ⟨0, Nat.zero_le _, rfl, Below.refl _ _⟩
    case round =>
      obtain ⟨k, hk, rfl, hBr⟩ := hrel
      by_cases hlt : k < l2.length
      · have hSr := (hS2.below hBr (Nat.le_refl _)).up hBr.size
        obtain ⟨b3, o3, rfl, hb3, hc3⟩ := Ints.cell (l := l2.map (cnt l0)) (by rw [List.length_map]; exact Ints.below hR hBr (Nat.le_refl _)) (by simp; omega)
        obtain ⟨b4, o4, rfl, hb4, hc4⟩ := (hI2.below hBr (Nat.le_refl _)).cell (by omega)
        have q3 := hc3 k (by simpa using hlt)
        have q4 := hc4 k hlt
        rw [List.getElem_map] at q3
        have hsz := hBr.size
        clear hc3 hc4 hR hI2 hSr
        generalize l2[k] = s at *
        go_wp2_with fail
        go_region_held3 (fun w' => w'.cell? ⟨b3, o3 + k, none⟩ = some (.int .i64 (cnt l0 s)) ∧ w'.cell? ⟨b4, o4 + k, none⟩ = some (.int .i64 s) ∧ Bx (Below w2.heap.size w2 w'))
          (first | exact ⟨q3, q4, ⟨hBr.drew⟩⟩ | exact ⟨kept_cell (w := wr.drew) hB5 ⟨hBr.drew⟩ (Nat.le_refl _) hb3 q3, kept_cell (w := wr.drew) hB5 ⟨hBr.drew⟩ (Nat.le_refl _) hb4 q4, kept_below (w := wr.drew) hB5 ⟨hBr.drew⟩ (Nat.le_refl _)⟩ | go_keep)
          (first | (go_at_call 11; refine (refIn_calls c0 a0 s l0 (by omega) _ ?_).mono ?_; exact Rd.now hS2 ⟨hBr.drew⟩ (Nat.le_refl _); rintro e w5 ⟨v, rfl, ho, hB5⟩; obtain ⟨a5, c5, rfl⟩ := Rd.val (Rd.of_owns ho); clear ho))
        have hz : (cnt l0 s != ((flt s l0).length : Int)) = false := by simp [cnt]
        go_wp2
        go_roundw
        case rel => exact ⟨k + 1, by omega, by simp, (kept_below (w := wr.drew) hB5 ⟨hBr.drew⟩ (Nat.le_refl _)).h⟩
        case measure => simp [intOf]; omega
      · obtain rfl : k = l2.length := by omega
        have hS3 := (hS2.below hBr (Nat.le_refl _)).up hBr.size
        have hB3 := hB.trans (hBr.mono hB.size)
        have Hfl : (flt a1 l0).length ≤ l0.length := List.length_filter_le _ _
        clear hS2 hI2 hR hB hBr
        go_wp2_with fail
        refine (In_calls c0 a0 a1 l0 (by omega) wr hS3).mono ?_
        rintro e w4 ⟨v4, rfl, h4, hB4⟩
        have hT4 := Spots.of_owns h4
        obtain ⟨a4, c4, rfl⟩ := Rd.val hT4
        have hS4 := (hS3.below hB4 (Nat.le_refl _)).up hB4.size
        clear h4
        go_wp2_with fail
        refine (refIn_calls c0 a0 a1 l0 (by omega) w4 hS4).mono ?_
        rintro e w5 ⟨v5, rfl, h5, hB5⟩
        have hT5 := Spots.of_owns h5
        obtain ⟨a5, c5, rfl⟩ := Rd.val hT5
        have hS5 := (hS4.below hB5 (Nat.le_refl _)).up hB5.size
        have hT4' := (hT4.below hB5 (Nat.le_refl _)).up hB5.size
        clear h5 hT4
        go_wp2_with fail
        refine (same_calls c4 c5 a4 a5 (flt a1 l0) (flt a1 l0) (by omega) (by omega) w5 hT4' hT5).mono ?_
        rintro e w6 ⟨rfl, hB6⟩
        rw [show decide (flt a1 l0 = flt a1 l0) = true from by simp]
        have hS6 := (hS5.below hB6 (Nat.le_refl _)).up hB6.size
        go_wp2_with fail
        refine (count_calls c0 a0 a1 l0 (by omega) w6 hS6).mono ?_
        rintro e w7 ⟨rfl, hB7⟩
        have hS7 := (hS6.below hB7 (Nat.le_refl _)).up hB7.size
        go_wp2_with fail
        refine (refIn_calls c0 a0 a1 l0 (by omega) w7 hS7).mono ?_
        rintro e w8 ⟨v8, rfl, h8, hB8⟩
        obtain ⟨a8, c8, rfl⟩ := Rd.val (Rd.of_owns h8)
        have hS8 := (hS7.below hB8 (Nat.le_refl _)).up hB8.size
        go_wp2_with fail
        refine (records_calls c0 a0 a1 l0 (by omega) w8 hS8).mono ?_
        rintro e w9 ⟨rfl, hB9⟩
        have hS9 := (hS8.below hB9 (Nat.le_refl _)).up hB9.size
        go_wp2_with fail
        refine (refRecords_calls c0 a0 a1 l0 (by omega) w9 hS9).mono ?_
        rintro e w10 ⟨rfl, hB10⟩
        go_wp2
        go_ret
        refine ⟨by simp, ?_⟩
        have k9 := hB9.trans (hB10.mono hB9.size)
        have k8 := hB8.trans (k9.mono hB8.size)
        have k7 := hB7.trans (k8.mono hB7.size)
        have k6 := hB6.trans (k7.mono hB6.size)
        have k5 := hB5.trans (k6.mono hB5.size)
        have k4 := hB4.trans (k5.mono hB4.size)
        exact hB3.trans (k4.mono hB3.size)
end Go.Proofs.Ytnbnkmpmkpillaa
