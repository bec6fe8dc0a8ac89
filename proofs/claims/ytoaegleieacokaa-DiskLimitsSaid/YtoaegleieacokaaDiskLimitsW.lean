/- DiskLimits: the walk. -/
import Derived.Test.YtoaegleieacokaaKnown8
namespace Go.Proofs.Ytoaegleieacokaa
open Go.RowKit Go.Shelf

def li (b : ByteArray) (c st l : Int) : DS := ⟨1000, [(⟨#[102]⟩, ⟨b, c⟩)], st, l⟩
def xB (j : Nat) : ByteArray := ⟨(List.replicate j (120 : UInt8)).toArray⟩
theorem xB_size (j : Nat) : (xB j).size = j := by simp [xB, ByteArray.size]
theorem size_one (x : UInt8) : (⟨#[x]⟩ : ByteArray).size = 1 := rfl
theorem xB_succ (j : Nat) : xB j ++ ⟨#[120]⟩ = xB (j + 1) := by
  apply ByteArray.ext
  simp [xB]
  exact (Array.replicate_succ).symm ▸ (by simp)
theorem li_0 : (newDS 1000).create ⟨#[102]⟩ = (0, li (xB 0) 0 1 (-1)) := by rfl
theorem li_1 (k : Int) (hk : 0 ≤ k) : ({ li (xB 0) 0 1 (-1) with left := max k 0 } : DS) = li (xB 0) 0 1 k := by
  rw [show max k 0 = k from by omega]
  rfl
theorem li_on (b : ByteArray) (c st l : Int) (hl : l ≠ 0) : onOf (li b c st l) ⟨#[102]⟩ true = 0 := by
  unfold onOf
  rw [if_neg (by simpa [li] using hl)]
  rfl
theorem li_add (b x : ByteArray) (c st l : Int) (hl : l ≠ 0) (hb : b.size + x.size ≤ 100) : (li b c st l).append ⟨#[102]⟩ x = (0, li (b ++ x) c (st + 1) (if 0 < l then l - 1 else l)) := by
  unfold DS.append
  rw [if_neg (by rw [li_on _ _ _ _ hl]; decide), if_neg (by rw [show used (li b c st l).l = b.size from rfl]; simp [li]; omega)]
  rfl
theorem li_off (b x : ByteArray) (c st : Int) : (li b c st 0).append ⟨#[102]⟩ x = (18, li b c st 0) := by rfl
theorem li_r (b : ByteArray) (c st : Int) : readOf (li b c st 0) ⟨#[102]⟩ = (⟨#[]⟩, 18) := by rfl
theorem li_crash (b : ByteArray) (st keep : Int) (hk0 : 0 ≤ keep) (hk1 : keep < 18446744073709551616) : ∃ b' c', b'.size ≤ b.size ∧ (li b 0 st 0).crash keep = li b' c' st (-1) := by
  refine ⟨(crashF keep 0 ⟨b, 0⟩).b, (crashF keep 0 ⟨b, 0⟩).k, ?_, ?_⟩
  · simp [crashF]
    omega
  · unfold DS.crash crashed li
    simp only [names_one, List.map_cons, List.map_nil]
    rw [show place [(⟨#[102]⟩ : ByteArray)] ⟨#[102]⟩ = 0 from rfl]
theorem ok_li {b : ByteArray} (hb : b.size ≤ 100) {c st l : Int} (h0 : 0 ≤ st) (h1 : st ≤ 100) (hl : l ≤ 100) : (li b c st l).Ok := ⟨by simpa [li] using h0, by simp [li]; omega, by simp [li]; omega, by simp [li], by simp [li], by simp [li, used]; omega⟩
/-- Behind i appends of which k are done. -/
def liAt (k i : Nat) : DS := li (xB (min i k)) 0 (1 + (min i k : Nat)) ((k : Int) - (min i k : Nat))
theorem liAt_lt {k i : Nat} (h : i < k) (hk : k ≤ 20) : (liAt k i).append ⟨#[102]⟩ ⟨#[120]⟩ = (0, liAt k (i + 1)) := by
  unfold liAt
  rw [Nat.min_eq_left (by omega), Nat.min_eq_left (by omega), li_add _ _ _ _ _ (by omega) (by rw [xB_size]; simp [ByteArray.size]; omega), xB_succ, if_pos (by omega)]
  congr 2 <;> omega
theorem liAt_ge {k i : Nat} (h : k ≤ i) : (liAt k i).append ⟨#[102]⟩ ⟨#[120]⟩ = (18, liAt k (i + 1)) := by
  unfold liAt
  rw [Nat.min_eq_right (by omega), Nat.min_eq_right (by omega), show ((k : Int) - (k : Nat)) = 0 from by omega, li_off]
theorem ok_liAt (k i : Nat) (hk : k ≤ 20) : (liAt k i).Ok := ok_li (by rw [xB_size]; omega) (by omega) (by omega) (by omega)
theorem liAt_zero (k : Nat) : liAt k 0 = li (xB 0) 0 1 k := by
  unfold liAt
  rw [Nat.min_eq_left (by omega)]
  congr 1
theorem liAt_end (k : Nat) (hk : k ≤ 20) : liAt k 22 = li (xB k) 0 (1 + k) 0 := by
  unfold liAt
  rw [Nat.min_eq_right (by omega), show ((k : Int) - (k : Nat)) = 0 from by omega]

set_option maxRecDepth 100000 in
set_option maxHeartbeats 2000000 in
theorem walk_DiskLimits {W : World} (a0 : Int) (w0 : (Lit.int .u8 a0).wf = true) (a1 : Int) (wa1 : (Lit.int .u64 a1).wf = true) :
    Calls Try.prog 15 #[.int .u8 a0, .int .u64 a1] W fun e w' => e = .returned (.bool true) ∧ Below W.heap.size W w' := by
  obtain ⟨hk0, hk1⟩ := wf_u64 wa1
  obtain ⟨x0, x1⟩ := wf_u8 w0
  go_enter Try.func15, Try.ntmps15
  go_wp2_with fail
  refine (known8_calls W).mono ?_
  rintro e w3 ⟨rfl, hB1⟩
  have z0 : 0 ≤ a0 % 20 ∧ a0 % 20 < 20 := by omega
  obtain ⟨z1, z2⟩ := z0
  go_wp2_with fail
  generalize a0 % 20 = q0 at *
  obtain ⟨k, rfl⟩ := Int.eq_ofNat_of_zero_le z1
  refine (new_dk 1000 hB1 hB1.size).mono ?_
  rintro e w4 ⟨D, rfl, M, h⟩
  clear hB1
  go_wp2_with (first
    | (go_at_call 24; refine (create_dk li_0 (ok_li (by decide) (by decide) (by decide) (by decide)) h).mono ?_; clear h; rintro e w4 ⟨rfl, h1, _⟩)
    | (go_at_call 51; refine (limit_dk (li_1 k (by omega)) (ok_li (by decide) (by decide) (by decide) (by omega)) h1).mono ?_; clear h1; rintro e w5 ⟨⟨v0, rfl⟩, h2, _⟩))
  go_loopw [7] (fun i wr => ∃ j : Nat, j ≤ 22 ∧ i = .int .i64 j ∧ Dk W.heap.size W D M (liAt k j) wr) (fun i _ => 22 - (intOf i).toNat)
  case atStart => exact ⟨0, by omega, rfl, by rw [liAt_zero]; exact h2⟩
  case round =>
    obtain ⟨j, hj, rfl, h3⟩ := hrel
    by_cases hlt : j < 22
    · by_cases hjk : j < k
      · go_wp2_with (first
          | (go_at_call 25; refine (append_dk (liAt_lt hjk (by omega)) (ok_liAt k (j + 1) (by omega)) h3).mono ?_; clear h3; rintro e w6 ⟨rfl, h4, _⟩))
        go_roundw
        case rel => exact ⟨j + 1, by omega, by simp, h4⟩
        case measure => simp [intOf]; omega
      · go_wp2_with (first
          | (go_at_call 25; refine (append_dk (liAt_ge (by omega)) (ok_liAt k (j + 1) (by omega)) h3).mono ?_; clear h3; rintro e w6 ⟨rfl, h4, _⟩))
        go_roundw
        case rel => exact ⟨j + 1, by omega, by simp, h4⟩
        case measure => simp [intOf]; omega
    · obtain rfl : j = 22 := by omega
      rw [liAt_end k (by omega)] at h3
      obtain ⟨b', c', hb', hcr⟩ := li_crash (xB k) (1 + k) a1 hk0 hk1
      rw [xB_size] at hb'
      have hxk := xB_size k
      go_wp2_with (first
        | (go_at_call 35; refine (read_dk (li_r _ _ _) h3).mono ?_; clear h3; rintro e w6 ⟨rfl, h4, _⟩)
        | (go_at_call 50; refine (all_dk (files_one ⟨#[102]⟩ ⟨xB k, 0⟩) (by simp [li]) h4).mono ?_; have h5a := h4; clear h4; rintro e w7 ⟨v7, rfl, hrow, h5, _⟩; obtain ⟨g7, c7, rfl⟩ := ownsRow_succ hrow; have hc7 := (hrow.lt g7 rfl); have hcell : w7.cell? ⟨g7, 1, none⟩ = some (.string (xB k)) := hrow.cellAt 1 (by decide); have hg7 : g7 ∉ [D, M] := by have := h5a.at'.blk.lt; have := h5a.at'.map.lt; simp; omega)
        | (go_at_call 37; refine (used_dk (u := k) (by rw [show used (li (xB k) 0 (1 + (k : Int)) 0).l = (xB k).size from rfl, xB_size]) h5).mono ?_; rintro e w8 ⟨rfl, h6, hC⟩; replace hcell := hC.cell hg7 (by omega) hcell; have hs8 := hC.size; clear h5 hC)
        | (go_at_call 46; refine (crash_dk hk0 hk1 (by simp [li]) (by intro p hp; simp [li] at hp; subst hp; exact ⟨by simp, by simp, by rw [xB_size]; omega⟩) hcr (ok_li (by omega) (by omega) (by omega) (by omega)) h6).mono ?_; clear h6; rintro e w9 ⟨⟨v9, rfl⟩, h7, hC⟩; replace hcell := hC.cell hg7 (by omega) hcell; have hs9 := hC.size; clear hC)
        | (go_at_call 25; refine (append_dk (li_add _ _ _ _ _ (by decide) (by rw [size_one]; omega)) (ok_li (by rw [ByteArray.size_append, size_one]; omega) (by omega) (by omega) (by decide)) h7).mono ?_; clear h7; rintro e w10 ⟨rfl, h8, hC⟩; replace hcell := hC.cell hg7 (by omega) hcell; clear hC)
        | (go_at_call 55; refine (steps_dk (u := k + 2) (by simp only [li]; omega) h8).mono ?_; clear h8; rintro e w11 ⟨rfl, h9, _⟩))
      go_ret
      exact ⟨rfl, h9.below⟩
end Go.Proofs.Ytoaegleieacokaa
