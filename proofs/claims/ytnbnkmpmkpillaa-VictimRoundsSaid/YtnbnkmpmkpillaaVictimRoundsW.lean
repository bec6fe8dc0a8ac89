/- VictimRounds: the plain law and the walk. -/
import Derived.Test.YtnbnkmpmkpillaaVictimTellsW
namespace Go.Proofs.Ytnbnkmpmkpillaa
open Go.RowKit Go.Shelf

theorem u8_bounds {a : Int} (h : (Lit.int .u8 a).wf = true) : 0 ≤ a ∧ a ≤ 255 := by
  simp [Lit.wf, IntKind.min, IntKind.max, IntKind.bits, IntKind.signed] at h
  omega
theorem u16_bounds {a : Int} (h : (Lit.int .u16 a).wf = true) : 0 ≤ a ∧ a ≤ 65535 := by
  simp [Lit.wf, IntKind.min, IntKind.max, IntKind.bits, IntKind.signed] at h
  omega
def mkSeg (k : Nat) : List Int := (List.range k).map fun (i : Nat) => 3 + 2 * (i : Int)
def spV (i : Nat) : Spot := ⟨1, (i : Int) + 1, 3 + 2 * (i : Int), 0⟩
def mkSp (bit : Nat → Bool) (k : Nat) : List Spot := ((List.range k).filter bit).map spV
def lastOf (bit : Nat → Bool) : Nat → Nat
  | 0 => 0
  | k + 1 => if bit k then k + 1 else lastOf bit k
theorem mkSeg_succ (k : Nat) : mkSeg (k + 1) = mkSeg k ++ [3 + 2 * (k : Int)] := by simp [mkSeg, List.range_succ]
theorem mkSp_succ (bit : Nat → Bool) (k : Nat) : mkSp bit (k + 1) = mkSp bit k ++ if bit k then [spV k] else [] := by
  unfold mkSp
  rw [List.range_succ, List.filter_append, List.map_append]
  cases h : bit k <;> simp [h]
theorem mkSp_le (bit : Nat → Bool) (k : Nat) : (mkSp bit k).length ≤ k := by
  unfold mkSp
  rw [List.length_map]
  exact Nat.le_trans (List.length_filter_le _ _) (by simp)
theorem lastOf_le (bit : Nat → Bool) : ∀ k, lastOf bit k ≤ k
  | 0 => by simp [lastOf]
  | k + 1 => by have := lastOf_le bit k; unfold lastOf; split <;> omega
theorem cnt_mk (bit : Nat → Bool) (k i : Nat) (hi : i < k) : cnt (mkSp bit k) (3 + 2 * (i : Int)) = 0 ↔ bit i = false := by
  unfold cnt
  have h1 : (flt (3 + 2 * (i : Int)) (mkSp bit k)).length = 0 ↔ flt (3 + 2 * (i : Int)) (mkSp bit k) = [] := List.length_eq_zero_iff
  have h2 : ((flt (3 + 2 * (i : Int)) (mkSp bit k)).length : Int) = 0 ↔ (flt (3 + 2 * (i : Int)) (mkSp bit k)).length = 0 := by omega
  rw [h2, h1]
  unfold flt mkSp
  rw [List.filter_eq_nil_iff]
  constructor
  · intro h
    cases hb : bit i with
    | false => rfl
    | true => exact absurd (by simp [spV]) (h (spV i) (List.mem_map.2 ⟨i, by simp [hi, hb], rfl⟩))
  · intro hb x hx
    obtain ⟨j, hj, rfl⟩ := List.mem_map.1 hx
    simp at hj
    simp only [spV, beq_iff_eq]
    intro e
    have : j = i := by omega
    subst this
    rw [hb] at hj
    simp at hj
theorem rounds_mk (bit : Nat → Bool) (k : Nat) : ∀ j, j ≤ k → roundsTo (mkSeg k) (mkSp bit k) j = lastOf bit j
  | 0, _ => rfl
  | j + 1, hj => by
    unfold roundsTo lastOf
    have hx : (mkSeg k)[j]?.getD 0 = 3 + 2 * (j : Int) := by simp [mkSeg, show j < k from hj]
    rw [hx, rounds_mk bit k j (by omega)]
    have hc := cnt_mk bit k j hj
    cases hb : bit j with
    | true => rw [if_neg (fun h => by rw [hc.1 h] at hb; cases hb)]; rfl
    | false => rw [if_pos (hc.2 hb)]; rfl

/-- Does round i bring a spot? In the code's own spelling. -/
def bitOf (c : Int) (i : Nat) : Bool := bits BinOp.and IntKind.u16 (c / 2 ^ i) 1 == 1
/-- The last round that counts, of the first k. -/
def lastAt (c : Int) (q k : Nat) : Nat := lastOf (bitOf c) (min k q)
theorem lastAt_step (c : Int) (q k : Nat) (hk : k < q) : lastAt c q (k + 1) = if bitOf c k then k + 1 else lastAt c q k := by
  unfold lastAt
  rw [Nat.min_eq_left (by omega), Nat.min_eq_left (by omega)]
  rfl
theorem lastAt_end (c : Int) (q : Nat) : lastAt c q (q + 1) = lastAt c q q := by
  unfold lastAt
  rw [Nat.min_eq_right (by omega), Nat.min_eq_right (by omega)]

set_option maxRecDepth 100000 in
set_option maxHeartbeats 1000000 in
theorem walk_VictimRounds {W : World} (a0 : Int) (w0 : (Lit.int .u8 a0).wf = true) (a1 : Int) (wa1 : (Lit.int .u16 a1).wf = true) :
    Calls Try.prog 8 #[.int .u8 a0, .int .u16 a1] W fun e w' => e = .returned (.bool true) ∧ Below W.heap.size W w' := by
  obtain ⟨x0, y0⟩ := u8_bounds w0
  obtain ⟨x1, y1⟩ := u16_bounds wa1
  clear w0 wa1
  obtain ⟨i0, hi, hz0, hz1, hz2⟩ := info_parts infoInt
  obtain ⟨j0, hj, hy0, hy1, hy2⟩ := info_parts infoSpot
  have z0 : 0 ≤ a0 % 12 ∧ a0 % 12 < 12 := by omega
  obtain ⟨z01, z02⟩ := z0
  obtain ⟨q, hq⟩ := Int.eq_ofNat_of_zero_le z01
  rw [hq] at z02
  have HQ := Lib.hid hq
  clear hq
  go_enter Try.func8, Try.ntmps8
  go_wp2_with fail
  refine (known16_calls W).mono ?_
  rintro e w1 ⟨rfl, hB1⟩
  go_wp2_with fail
  rw [HQ.out]
  go_loopw [6, 7, 8, 9] (fun v u la i wr => ∃ k : Nat, k ≤ q + 1 ∧ i = .int .i64 k ∧ wr.ownsRow w1.heap.size 3 1 v k ((mkSeg k).map (Value.int .i64)) ∧ wr.ownsRow w1.heap.size 33 4 u (mkSp (bitOf a1) k).length (cellsOf (mkSp (bitOf a1) k)) ∧ la = .int .i64 (lastAt a1 q k : Int) ∧ Below w1.heap.size w1 wr) (fun _ _ _ i _ => q + 1 - (intOf i).toNat)
  case atStart => exact ⟨0, Nat.zero_le _, rfl, World.ownsRow_nil _ _ _ _, World.ownsRow_nil _ _ _ _, by simp [lastAt, lastOf], Below.refl _ _⟩
  case round =>
    obtain ⟨k, hk, rfl, hown, hownS, rfl, hB⟩ := hrel
    have hle := mkSp_le (bitOf a1) k
    have hla : lastAt a1 q k ≤ k := Nat.le_trans (lastOf_le _ _) (Nat.min_le_left _ _)
    by_cases hlt : k < q + 1
    · have HS : Hid (mkSeg (k + 1) = mkSeg k ++ [3 + 2 * (k : Int)]) := mkSeg_succ k
      have HP : Hid (mkSp (bitOf a1) (k + 1) = mkSp (bitOf a1) k ++ if bitOf a1 k then [spV k] else []) := mkSp_succ (bitOf a1) k
      have HL : Hid (k < q → lastAt a1 q (k + 1) = if bitOf a1 k then k + 1 else lastAt a1 q k) := lastAt_step a1 q k
      have HE : Hid (¬ k < q → lastAt a1 q (k + 1) = lastAt a1 q k) := by
        intro h
        obtain rfl : k = q := by omega
        exact lastAt_end a1 k
      generalize lastAt a1 q k = la at *
      generalize hm : mkSp (bitOf a1) k = m at *
      have HM := Lib.hid hm
      clear hm
      cases hb : bitOf a1 k with
      | false =>
        have hb' : (bits BinOp.and IntKind.u16 (a1 / 2 ^ k) 1 == 1) = false := hb
        go_wp2_with (at_builtin; refine wpList_append_own _ rfl _ _ 23 rfl w1.heap.size 3 i0 _ 1 8 Try.underlying23 hi hz0 hz1 hz2 rfl (by decide) _ _ _ rfl (hown.alloc _) ⟨wr.heap.size, 0, none⟩ 1 1 [.int .i64 (3 + 2 * (k : Int))] rfl rfl (cells_new _ _ _) (by simp [Value.oneCell']) (by unfold maxLen; omega) (by omega) (by have := hB.size; simp; omega) ?_; intro v' w5 hown' hgrow _; have hownS' := owns_other hown hownS (by decide) hgrow; have hB5 := below_append hB hB.size hown hgrow; clear hgrow)
        go_roundw
        case rel =>
          refine ⟨k + 1, by omega, by simp, by rw [HS.out]; simpa using hown', by rw [HP.out, hb]; simpa using hownS', ?_, hB5⟩
          by_cases hkq : k < q
          · rw [HL.out hkq, hb]; rfl
          · rw [HE.out hkq]
        case measure => simp [intOf]; omega
      | true =>
        have hb' : (bits BinOp.and IntKind.u16 (a1 / 2 ^ k) 1 == 1) = true := hb
        by_cases hkq : k < q
        all_goals
          go_wp2_with (first | (at_builtin; refine wpList_append_own _ rfl _ _ 23 rfl w1.heap.size 3 i0 _ 1 8 Try.underlying23 hi hz0 hz1 hz2 rfl (by decide) _ _ _ rfl (hown.alloc _) ⟨wr.heap.size, 0, none⟩ 1 1 [.int .i64 (3 + 2 * (k : Int))] rfl rfl (cells_new _ _ _) (by simp [Value.oneCell']) (by unfold maxLen; omega) (by omega) (by have := hB.size; simp; omega) ?_; intro v' w5 hown' hgrow _; have hownS' := owns_other hown hownS (by decide) hgrow; have hB5 := below_append hB hB.size hown hgrow; clear hgrow) | (at_builtin; refine wpList_append_own _ rfl _ _ 22 rfl w1.heap.size 33 j0 _ 4 32 Try.underlying22 hj hy0 hy1 hy2 rfl (by decide) _ _ _ rfl (hownS'.alloc _) ⟨w5.heap.size, 0, none⟩ 1 1 [.int .i64 1, .int .i64 ((k : Int) + 1), .int .i64 (3 + 2 * (k : Int)), .int .i64 0] rfl rfl (cells_new _ _ _) (by simp [Value.oneCell', Spot.cells]) (by unfold maxLen; omega) (by omega) (by have := hB5.size; simp; omega) ?_; intro v6 w6 hownS6 hgrow6 _; have hown6 := owns_other hownS' hown' (by decide) hgrow6; have hB6 := below_append hB5 hB5.size hownS' hgrow6; clear hgrow6))
          go_roundw
          case rel =>
            refine ⟨k + 1, by omega, by simp, by rw [HS.out]; simpa using hown6, by rw [HP.out, hb]; simpa [cellsOf, Spot.cells, spV] using hownS6, ?_, hB6⟩
            first
              | (rw [HL.out hkq, hb]; rfl)
              | rw [HE.out hkq]
          case measure => simp [intOf]; omega
    · obtain rfl : k = q + 1 := by omega
      have HR := Lib.hid (rounds_mk (bitOf a1) (q + 1) q (by omega))
      have HN : Hid ((mkSeg (q + 1)).length = q + 1) := by show _ = _; simp [mkSeg]
      have hLA : Hid (lastAt a1 q (q + 1) = lastOf (bitOf a1) q) := by show _ = _; simp [lastAt]
      generalize lastAt a1 q (q + 1) = la at *
      generalize mkSp (bitOf a1) (q + 1) = m at *
      generalize mkSeg (q + 1) = xs at *
      have hR := Rd.of_owns hown
      have hS : Spots wr wr.heap.size _ m := Rd.of_owns hownS
      obtain ⟨av, cv, rfl⟩ := Rd.val hR
      obtain ⟨au, cu, rfl⟩ := Rd.val hS
      clear hown hownS
      replace hB1 := hB1.trans (hB.mono hB1.size)
      clear hB
      go_wp2_with fail
      refine (rounds_calls av (q + 1) cv xs HN.out (by omega) au cu m (by omega) wr hR hS).mono ?_
      rintro e w2 ⟨rfl, hB2⟩
      replace hR := (hR.below hB2 (Nat.le_refl _)).up hB2.size
      replace hS := (hS.below hB2 (Nat.le_refl _)).up hB2.size
      replace hB1 := hB1.trans (hB2.mono hB1.size)
      clear hB2
      rw [show (roundsTo xs m (q + 1 - 1) : Int) = la from by rw [hLA.out, ← HR.out]; rfl]
      go_wp2_with fail
      refine (sealed_calls av (q + 1) cv xs (by omega) w2 hR).mono ?_
      rintro e w3 ⟨v3, rfl, ho, hB3⟩
      obtain ⟨a3, c3, rfl⟩ := Rd.val (Rd.of_owns ho)
      replace hS := (hS.below hB3 (Nat.le_refl _)).up hB3.size
      replace hB1 := hB1.trans (hB3.mono hB1.size)
      clear ho hB3 hR
      rw [show q + 1 - 1 = q from rfl]
      go_wp2_with fail
      refine (rounds_calls none 0 0 [] rfl (by omega) au cu m (by omega) w3 (Rd.nil _ _ _) hS).mono ?_
      rintro e w4 ⟨rfl, hB4⟩
      rw [show (roundsTo [] m (0 - 1) : Int) = 0 from rfl]
      go_wp2
      go_ret
      exact ⟨rfl, hB1.trans (hB4.mono hB1.size)⟩
end Go.Proofs.Ytnbnkmpmkpillaa
