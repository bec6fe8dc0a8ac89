/- LiveCounts: the plain law and the walk. -/
import Derived.Test.YtnbnkmpmkpillaaKnown15
import Derived.Test.YtnbnkmpmkpillaaRefRec
import Derived.Deep.RegionHeld3
namespace Go.Proofs.Ytnbnkmpmkpillaa
open Go.RowKit Go.Shelf

/-! ### The plain law -/
def spA (i : Nat) : Spot := ⟨1, (i : Int) + 1, 1, (i : Int)⟩
def spB (i : Nat) : Spot := ⟨2, (i : Int) + 1, 2, 0⟩
def mkA (p : Nat) : List Spot := (List.range p).map spA
def mkB (q : Nat) : List Spot := (List.range q).map spB
def mkL (p q : Nat) : List Spot := mkA p ++ mkB q
theorem mkA_succ (p : Nat) : mkA (p + 1) = mkA p ++ [spA p] := by simp [mkA, List.range_succ]
theorem mkL_succ (p q : Nat) : mkL p (q + 1) = mkL p q ++ [spB q] := by simp [mkL, mkB, List.range_succ]
theorem mkL_length (p q : Nat) : (mkL p q).length = p + q := by simp [mkL, mkA, mkB]
def wantOf (p q : Nat) (s : Nat) : Int := if s = 1 then p else if s = 2 then q else 0
theorem lc_facts : ∀ p q : Fin 10, recs 1 (mkL p.1 q.1) = p.1 ∧ recs 2 (mkL p.1 q.1) = min q.1 1 ∧ ∀ s : Fin 4, cnt (mkL p.1 q.1) (s.1 : Int) = wantOf p.1 q.1 s.1 := by decide +kernel
theorem lc_recs1 (p q : Nat) (hp : p < 10) (hq : q < 10) : recs 1 (mkL p q) = p := (lc_facts ⟨p, hp⟩ ⟨q, hq⟩).1
theorem lc_recs2 (p q : Nat) (hp : p < 10) (hq : q < 10) : recs 2 (mkL p q) = min q 1 := (lc_facts ⟨p, hp⟩ ⟨q, hq⟩).2.1
theorem lc_cnt (p q : Nat) (hp : p < 10) (hq : q < 10) (s : Nat) (hs : s < 4) : cnt (mkL p q) (s : Int) = wantOf p q s := (lc_facts ⟨p, hp⟩ ⟨q, hq⟩).2.2 ⟨s, hs⟩

theorem records_at (n c : Nat) (a : Option Addr) (seg : Int) (xs : List Spot) (hn : xs.length = n) (hreach : n ≤ 1000000) (w : World) (hc : Rd w w.heap.size 4 (.slice a n c) n (cellsOf xs)) :
    Calls Try.prog 15 #[.slice a n c, .int .i64 seg] w fun e w' => e = .returned (.int .i64 (recs seg xs : Int)) ∧ Below w.heap.size w w' := by
  subst hn
  exact records_calls c a seg xs hreach w hc
theorem u8_bounds {a : Int} (h : (Lit.int .u8 a).wf = true) : 0 ≤ a ∧ a ≤ 255 := by
  simp [Lit.wf, IntKind.min, IntKind.max, IntKind.bits, IntKind.signed] at h
  omega
def segs4 (l : List Int) : List Int := l.map fun x => x % 4

set_option maxRecDepth 100000 in
set_option maxHeartbeats 2000000 in
theorem walk_LiveCounts {W : World} (a0 : Int) (w0 : (Lit.int .u8 a0).wf = true) (a1 : Int) (wa1 : (Lit.int .u8 a1).wf = true)
    (a2 : Option Addr) (c2 : Nat) (l2 : List Int) (r2 : Rd W W.heap.size 1 (.slice a2 l2.length c2) l2.length (l2.map (Value.int .u8))) (_ : c2 ≤ maxLen) (g2 : ∀ x ∈ l2, (Lit.int .u8 x).wf = true) :
    Calls Try.prog 6 #[.int .u8 a0, .int .u8 a1, .slice a2 l2.length c2] W fun e w' => e = .returned (.bool true) ∧ Below W.heap.size W w' := by
  obtain ⟨i0, hi, hz0, hz1, hz2⟩ := info_parts infoSpot
  obtain ⟨j0, hj, hy0, hy1, hy2⟩ := info_parts infoInt
  obtain ⟨x0, y0⟩ := u8_bounds w0
  obtain ⟨x1, y1⟩ := u8_bounds wa1
  clear w0 wa1
  by_cases h1 : 20 < l2.length
  · go_enter Try.func6, Try.ntmps6
    go_wp2_with fail
    refine (known15_calls W).mono ?_
    rintro e w1 ⟨rfl, hB1⟩
    go_wp2
    go_ret
    exact ⟨rfl, hB1⟩
  · have h2 : l2.length ≤ 20 := by omega
    clear h1
    have e1 : decide (20 < (l2.length : Int)) = false := by simp; omega
    have z0 : 0 ≤ a0 % 10 ∧ a0 % 10 < 10 := by omega
    have z1 : 0 ≤ a1 % 10 ∧ a1 % 10 < 10 := by omega
    obtain ⟨z01, z02⟩ := z0
    obtain ⟨z11, z12⟩ := z1
    obtain ⟨p, hp⟩ := Int.eq_ofNat_of_zero_le z01
    obtain ⟨q, hq⟩ := Int.eq_ofNat_of_zero_le z11
    rw [hp] at z02
    rw [hq] at z12
    have HP := Lib.hid hp
    have HQ := Lib.hid hq
    clear hp hq
    go_enter Try.func6, Try.ntmps6
    go_wp2_with fail
    refine (known15_calls W).mono ?_
    rintro e w1 ⟨rfl, hB1⟩
    have hI1 := (r2.below hB1 (Nat.le_refl _)).up hB1.size
    clear r2
    go_wp2_with fail
    go_loopw [7, 8] (fun v i wr => ∃ k : Nat, k ≤ p ∧ i = .int .i64 k ∧ wr.ownsRow w1.heap.size 33 4 v k (cellsOf (mkA k)) ∧ Below w1.heap.size w1 wr)
      (fun _ i _ => p - (intOf i).toNat)
    case atStart => exact ⟨0, Nat.zero_le _, rfl, World.ownsRow_nil _ _ _ _, Below.refl _ _⟩
    case round =>
      obtain ⟨k, hk, rfl, hown, hB⟩ := hrel
      have hp' : a0 % 10 = (p : Int) := HP.out
      by_cases hlt : k < p
      · go_wp2_with (at_builtin; refine wpList_append_own _ rfl _ _ 22 rfl w1.heap.size 33 i0 _ 4 32 Try.underlying22 hi hz0 hz1 hz2 rfl (by decide) _ _ _ rfl (hown.alloc _) ⟨wr.heap.size, 0, none⟩ 1 1 (spA k).cells rfl rfl (cells_new _ _ _) (by simp [Spot.cells, spA, Value.oneCell']) (by unfold maxLen; omega) (by omega) (by have := hB.size; simp; omega) ?_; intro v' w5 hown' hgrow _)
        go_roundw
        case rel => exact ⟨k + 1, by omega, by simp, by rw [mkA_succ, cellsOf_snoc]; exact hown', below_append hB hB.size hown hgrow⟩
        case measure => simp [intOf]; omega
      · obtain rfl : k = p := by omega
        have hownL := hown
        rw [show mkA k = mkL k 0 from by simp [mkL, mkB]] at hownL
        clear hown
        obtain ⟨wo, rfl⟩ : ∃ wo : World, wo = wr := ⟨_, rfl⟩
        go_wp2_with fail
        clear hp'
        go_loopw [7, 9] (fun v i wr => ∃ i2 : Nat, i2 ≤ q ∧ i = .int .i64 i2 ∧ wr.ownsRow w1.heap.size 33 4 v (k + i2) (cellsOf (mkL k i2)) ∧ Below w1.heap.size w1 wr)
          (fun _ i _ => q - (intOf i).toNat)
        case atStart => exact ⟨0, Nat.zero_le _, rfl, hownL, hB⟩
        case round =>
          clear hownL hB
          obtain ⟨i2, hi2, rfl, hown, hB⟩ := hrel
          have hq' : a1 % 10 = (q : Int) := HQ.out
          by_cases hlt2 : i2 < q
          · go_wp2_with (at_builtin; refine wpList_append_own _ rfl _ _ 22 rfl w1.heap.size 33 i0 _ 4 32 Try.underlying22 hi hz0 hz1 hz2 rfl (by decide) _ _ _ rfl (hown.alloc _) ⟨wr.heap.size, 0, none⟩ 1 1 (spB i2).cells rfl rfl (cells_new _ _ _) (by simp [Spot.cells, spB, Value.oneCell']) (by unfold maxLen; omega) (by omega) (by have := hB.size; simp; omega) ?_; intro v' w5 hown' hgrow _)
            go_roundw
            case rel => exact ⟨i2 + 1, by omega, by simp, by rw [mkL_succ, cellsOf_snoc]; exact hown', below_append hB hB.size hown hgrow⟩
            case measure => simp [intOf]; omega
          · obtain rfl : i2 = q := by omega
            have hRL := Rd.of_owns hown
            obtain ⟨aL, cL, rfl⟩ := Rd.val hRL
            have hI2 := (hI1.below hB (Nat.le_refl _)).up hB.size
            have hBW := hB1.trans (hB.mono hB1.size)
            clear hown hI1 hB1 hB
            obtain ⟨wo, rfl⟩ : ∃ wo : World, wo = wr := ⟨_, rfl⟩
            go_wp2_with fail
            clear hq'
            go_loopw [10, 11] (fun v i wr => ∃ i3 : Nat, i3 ≤ l2.length ∧ i = .int .i64 i3 ∧ wr.ownsRow wo.heap.size 3 1 v i3 ((segs4 (l2.take i3)).map (Value.int .i64)) ∧ Below wo.heap.size wo wr)
              (fun _ i _ => l2.length - (intOf i).toNat)
            case atStart => exact ⟨0, Nat.zero_le _, rfl, World.ownsRow_nil _ _ _ _, Below.refl _ _⟩
            case round =>
              obtain ⟨i3, hi3, rfl, hown, hB⟩ := hrel
              by_cases hlt3 : i3 < l2.length
              · obtain ⟨b, off, rfl, hb, _, hcs⟩ := Rd.at (hI2.below hB (Nat.le_refl _)) (by omega)
                have d0 := hcs i3 (by omega)
                rw [List.getElem?_map, List.getElem?_eq_getElem hlt3, Option.map_some] at d0
                have hk1 : Hid (l2.take (i3 + 1) = l2.take i3 ++ [l2[i3]]) := List.take_succ_eq_append_getElem hlt3
                obtain ⟨xl, yl⟩ := u8_bounds (g2 l2[i3] (List.getElem_mem _))
                clear hcs
                generalize l2[i3] = x at *
                go_wp2_with (at_builtin; refine wpList_append_own _ rfl _ _ 23 rfl wo.heap.size 3 j0 _ 1 8 Try.underlying23 hj hy0 hy1 hy2 rfl (by decide) _ _ _ rfl (hown.alloc _) ⟨wr.heap.size, 0, none⟩ 1 1 [.int .i64 (x % 4)] rfl rfl (cells_new _ _ _) (by simp [Value.oneCell']) (by unfold maxLen; omega) (by omega) (by have := hB.size; simp; omega) ?_; intro v' w5 hown' hgrow _)
                go_roundw
                case rel => exact ⟨i3 + 1, by omega, by simp, by rw [hk1.out]; simpa [segs4] using hown', below_append hB hB.size hown hgrow⟩
                case measure => simp [intOf]; omega
              · obtain rfl : i3 = l2.length := by omega
                rw [List.take_length] at hown
                have hRS := Rd.of_owns hown
                obtain ⟨aS, cS, rfl⟩ := Rd.val hRS
                have hRL2 := (hRL.below hB (Nat.le_refl _)).up hB.size
                have hBW2 := hBW.trans (hB.mono hBW.size)
                clear hown hRL hBW hB hI2
                go_wp2_with fail
                have hcount := counts_calls cL cS aL aS (mkL k i2) (segs4 l2) (by rw [mkL_length]; omega) (by simp [segs4]; omega) wr (by unfold Spots; rw [mkL_length]; exact hRL2) (by unfold Ints; simpa [segs4] using hRS)
                rw [mkL_length, show (segs4 l2).length = l2.length from by simp [segs4]] at hcount
                refine hcount.mono ?_
                clear hcount
                rintro e w3 ⟨v3, rfl, ho, hB3⟩
                have hRC := Rd.of_owns ho
                obtain ⟨aC, cC, rfl⟩ := Rd.val hRC
                replace hRL2 := (hRL2.below hB3 (Nat.le_refl _)).up hB3.size
                replace hRS := (hRS.below hB3 (Nat.le_refl _)).up hB3.size
                replace hBW2 := hBW2.trans (hB3.mono hBW2.size)
                clear hB3 ho
                obtain ⟨wo, rfl⟩ : ∃ wo : World, wo = w3 := ⟨_, rfl⟩
                go_wp2_with fail
                rw [HP.out, HQ.out]
                have bW := Blk.new wo 37 #[.int .i64 0, .int .i64 (k : Int), .int .i64 (i2 : Int), .int .i64 0]
                replace hRL2 := (hRL2.below ((Below.refl _ wo).alloc (Nat.le_refl _) (.cells #[.int .i64 0, .int .i64 (k : Int), .int .i64 (i2 : Int), .int .i64 0] 37)) (Nat.le_refl _)).up (by simp : wo.heap.size ≤ (wo.alloc (.cells #[.int .i64 0, .int .i64 (k : Int), .int .i64 (i2 : Int), .int .i64 0] 37)).heap.size)
                replace hRS := (hRS.below ((Below.refl _ wo).alloc (Nat.le_refl _) (.cells #[.int .i64 0, .int .i64 (k : Int), .int .i64 (i2 : Int), .int .i64 0] 37)) (Nat.le_refl _)).up (by simp : wo.heap.size ≤ (wo.alloc (.cells #[.int .i64 0, .int .i64 (k : Int), .int .i64 (i2 : Int), .int .i64 0] 37)).heap.size)
                replace hRC := (hRC.below ((Below.refl _ wo).alloc (Nat.le_refl _) (.cells #[.int .i64 0, .int .i64 (k : Int), .int .i64 (i2 : Int), .int .i64 0] 37)) (Nat.le_refl _)).up (by simp : wo.heap.size ≤ (wo.alloc (.cells #[.int .i64 0, .int .i64 (k : Int), .int .i64 (i2 : Int), .int .i64 0] 37)).heap.size)
                replace hBW2 := hBW2.alloc hBW2.size (.cells #[.int .i64 0, .int .i64 (k : Int), .int .i64 (i2 : Int), .int .i64 0] 37)
                generalize wo.alloc (.cells #[.int .i64 0, .int .i64 (k : Int), .int .i64 (i2 : Int), .int .i64 0] 37) = w4 at *
                generalize wo.heap.size = B at *
                go_loopw [14] (fun i wr => ∃ i4 : Nat, i4 ≤ l2.length ∧ i = .int .i64 i4 ∧ Below w4.heap.size w4 wr) (fun i _ => l2.length - (intOf i).toNat)
                case atStart => exact ⟨0, Nat.zero_le _, rfl, Below.refl _ _⟩
                case round =>
                  obtain ⟨i4, hi4, rfl, hB⟩ := hrel
                  have bWr := bW.below hB bW.lt
                  by_cases hlt4 : i4 < l2.length
                  · obtain ⟨bC, oC, rfl, hbC, _, hcC⟩ := Rd.at (hRC.below hB (Nat.le_refl _)) (by omega)
                    obtain ⟨bS, oS, rfl, hbS, _, hcS⟩ := Rd.at (hRS.below hB (Nat.le_refl _)) (by omega)
                    have d1 := hcC i4 (by omega)
                    have d2 := hcS i4 (by omega)
                    have hsl : i4 < (segs4 l2).length := by simpa [segs4] using hlt4
                    rw [List.getElem?_map, List.getElem?_map, List.getElem?_eq_getElem hsl, Option.map_some, Option.map_some] at d1
                    rw [List.getElem?_map, List.getElem?_eq_getElem hsl, Option.map_some] at d2
                    have hs : (segs4 l2)[i4] = l2[i4] % 4 := by simp [segs4]
                    obtain ⟨t, ht⟩ : ∃ t : Nat, l2[i4] % 4 = (t : Int) := ⟨(l2[i4] % 4).toNat, by omega⟩
                    have ht4 : t < 4 := by omega
                    rw [hs, ht, lc_cnt k i2 (by omega) (by omega) t ht4] at d1
                    rw [hs, ht] at d2
                    have d3 : wr.cell? ⟨B, t, none⟩ = some (.int .i64 (wantOf k i2 t)) := by
                      rw [bWr.cell t]
                      match t, ht4 with
                      | 0, _ => rfl
                      | 1, _ => rfl
                      | 2, _ => rfl
                      | 3, _ => rfl
                    have hd : decide ((l2.length : Int) ≤ (i4 : Int)) = false := by simp; omega
                    have q1 : (0 : Int) ≤ (i4 : Int) := by omega
                    have q2 : (i4 : Int) < (l2.length : Int) := by omega
                    have q3 : (0 : Int) ≤ (t : Int) := by omega
                    have q4 : (t : Int) < 4 := by omega
                    clear hs ht hcC hcS hsl bWr bW hRL2 hRS hRC
                    generalize wantOf k i2 t = y at *
                    go_wp2
                    go_quiet (fail)
                    go_wp2
                    go_roundw
                    case rel => exact ⟨i4 + 1, by omega, by simp, below_drewN hB _⟩
                    case measure => simp [intOf]; omega
                  · obtain rfl : i4 = l2.length := by omega
                    have d1 : wr.cell? ⟨B, 1, none⟩ = some (.int .i64 (k : Int)) := (bWr.cell 1).trans rfl
                    have d2 : wr.cell? ⟨B, 2, none⟩ = some (.int .i64 (i2 : Int)) := (bWr.cell 2).trans rfl
                    have hBlt : B < w4.heap.size := bW.lt
                    have hr1 : recs 1 (mkL k i2) = k := lc_recs1 k i2 (by omega) (by omega)
                    have hr2 : recs 2 (mkL k i2) = min i2 1 := lc_recs2 k i2 (by omega) (by omega)
                    have c1 := fun w h => records_at (k + i2) cL aL 1 (mkL k i2) (mkL_length _ _) (by omega) w h
                    have c2' := fun w h => records_at (k + i2) cL aL 2 (mkL k i2) (mkL_length _ _) (by omega) w h
                    rw [hr1] at c1
                    rw [hr2] at c2'
                    rcases Nat.lt_trichotomy i2 1 with hm | hm | hm
                    · rw [show min i2 1 = i2 from by omega] at c2'
                      have hm' : (i2 : Int) < 1 := by omega
                      clear hm
                      have C1 := Lib.hid c1
                      have C2 := Lib.hid c2'
                      clear c1 c2' hr1 hr2 bWr bW hRC hRS
                      have z1 : ((k : Int) == (k : Int)) = true := by simp
                      have z2 : ((l2.length : Int) == (l2.length : Int)) = true := by simp
                      go_wp2_with fail
                      go_region_held3 (fun w' => w'.cell? ⟨B, 1, none⟩ = some (.int .i64 (k : Int)) ∧ w'.cell? ⟨B, 2, none⟩ = some (.int .i64 (i2 : Int)) ∧ Bx (Below w4.heap.size w4 w'))
                        (first | exact ⟨d1, d2, ⟨hB.drew⟩⟩ | exact ⟨kept_cell (w := wr.drew) hB5 ⟨hB.drew⟩ (Nat.le_refl _) hBlt d1, kept_cell (w := wr.drew) hB5 ⟨hB.drew⟩ (Nat.le_refl _) hBlt d2, kept_below (w := wr.drew) hB5 ⟨hB.drew⟩ (Nat.le_refl _)⟩ | exact ⟨kept_cell hB6 (kept_below (w := wr.drew) hB5 ⟨hB.drew⟩ (Nat.le_refl _)) (Nat.le_refl _) hBlt (kept_cell (w := wr.drew) hB5 ⟨hB.drew⟩ (Nat.le_refl _) hBlt d1), kept_cell hB6 (kept_below (w := wr.drew) hB5 ⟨hB.drew⟩ (Nat.le_refl _)) (Nat.le_refl _) hBlt (kept_cell (w := wr.drew) hB5 ⟨hB.drew⟩ (Nat.le_refl _) hBlt d2), kept_below hB6 (kept_below (w := wr.drew) hB5 ⟨hB.drew⟩ (Nat.le_refl _)) (Nat.le_refl _)⟩ | go_keep)
                        (first | (go_at_call 15; (with_reducible refine (C1.out _ ?_).mono ?_); exact Rd.now hRL2 ⟨hB.drew⟩ (Nat.le_refl _); rintro e w5 ⟨rfl, hB5⟩) | (go_at_call 15; (with_reducible refine (C2.out _ ?_).mono ?_); exact Rd.now hRL2 (kept_below (w := wr.drew) hB5 ⟨hB.drew⟩ (Nat.le_refl _)) (Nat.le_refl _); rintro e w6 ⟨rfl, hB6⟩))
                      all_goals
                        go_wp2
                        go_ret
                        exact ⟨by simp, hBW2.trans ((kept_below hB6 (kept_below (w := wr.drew) hB5 ⟨hB.drew⟩ (Nat.le_refl _)) (Nat.le_refl _)).h.mono hBW2.size)⟩
                    · rw [show min i2 1 = i2 from by omega] at c2'
                      have hm1 : 1 ≤ (i2 : Int) := by omega
                      have hm2 : (i2 : Int) ≤ 1 := by omega
                      have hm3 : ((i2 : Int) == 1) = true := by simp; omega
                      clear hm
                      have C1 := Lib.hid c1
                      have C2 := Lib.hid c2'
                      clear c1 c2' hr1 hr2 bWr bW hRC hRS
                      have z1 : ((k : Int) == (k : Int)) = true := by simp
                      have z2 : ((l2.length : Int) == (l2.length : Int)) = true := by simp
                      go_wp2_with fail
                      go_region_held3 (fun w' => w'.cell? ⟨B, 1, none⟩ = some (.int .i64 (k : Int)) ∧ w'.cell? ⟨B, 2, none⟩ = some (.int .i64 (i2 : Int)) ∧ Bx (Below w4.heap.size w4 w'))
                        (first | exact ⟨d1, d2, ⟨hB.drew⟩⟩ | exact ⟨kept_cell (w := wr.drew) hB5 ⟨hB.drew⟩ (Nat.le_refl _) hBlt d1, kept_cell (w := wr.drew) hB5 ⟨hB.drew⟩ (Nat.le_refl _) hBlt d2, kept_below (w := wr.drew) hB5 ⟨hB.drew⟩ (Nat.le_refl _)⟩ | exact ⟨kept_cell hB6 (kept_below (w := wr.drew) hB5 ⟨hB.drew⟩ (Nat.le_refl _)) (Nat.le_refl _) hBlt (kept_cell (w := wr.drew) hB5 ⟨hB.drew⟩ (Nat.le_refl _) hBlt d1), kept_cell hB6 (kept_below (w := wr.drew) hB5 ⟨hB.drew⟩ (Nat.le_refl _)) (Nat.le_refl _) hBlt (kept_cell (w := wr.drew) hB5 ⟨hB.drew⟩ (Nat.le_refl _) hBlt d2), kept_below hB6 (kept_below (w := wr.drew) hB5 ⟨hB.drew⟩ (Nat.le_refl _)) (Nat.le_refl _)⟩ | go_keep)
                        (first | (go_at_call 15; (with_reducible refine (C1.out _ ?_).mono ?_); exact Rd.now hRL2 ⟨hB.drew⟩ (Nat.le_refl _); rintro e w5 ⟨rfl, hB5⟩) | (go_at_call 15; (with_reducible refine (C2.out _ ?_).mono ?_); exact Rd.now hRL2 (kept_below (w := wr.drew) hB5 ⟨hB.drew⟩ (Nat.le_refl _)) (Nat.le_refl _); rintro e w6 ⟨rfl, hB6⟩))
                      all_goals
                        go_wp2
                        go_ret
                        exact ⟨by simp, hBW2.trans ((kept_below hB6 (kept_below (w := wr.drew) hB5 ⟨hB.drew⟩ (Nat.le_refl _)) (Nat.le_refl _)).h.mono hBW2.size)⟩
                    · rw [show min i2 1 = 1 from by omega] at c2'
                      have hm' : 1 < (i2 : Int) := by omega
                      clear hm
                      have C1 := Lib.hid c1
                      have C2 := Lib.hid c2'
                      clear c1 c2' hr1 hr2 bWr bW hRC hRS
                      have z1 : ((k : Int) == (k : Int)) = true := by simp
                      have z2 : ((l2.length : Int) == (l2.length : Int)) = true := by simp
                      go_wp2_with fail
                      go_region_held3 (fun w' => w'.cell? ⟨B, 1, none⟩ = some (.int .i64 (k : Int)) ∧ w'.cell? ⟨B, 2, none⟩ = some (.int .i64 (i2 : Int)) ∧ Bx (Below w4.heap.size w4 w'))
                        (first | exact ⟨d1, d2, ⟨hB.drew⟩⟩ | exact ⟨kept_cell (w := wr.drew) hB5 ⟨hB.drew⟩ (Nat.le_refl _) hBlt d1, kept_cell (w := wr.drew) hB5 ⟨hB.drew⟩ (Nat.le_refl _) hBlt d2, kept_below (w := wr.drew) hB5 ⟨hB.drew⟩ (Nat.le_refl _)⟩ | exact ⟨kept_cell hB6 (kept_below (w := wr.drew) hB5 ⟨hB.drew⟩ (Nat.le_refl _)) (Nat.le_refl _) hBlt (kept_cell (w := wr.drew) hB5 ⟨hB.drew⟩ (Nat.le_refl _) hBlt d1), kept_cell hB6 (kept_below (w := wr.drew) hB5 ⟨hB.drew⟩ (Nat.le_refl _)) (Nat.le_refl _) hBlt (kept_cell (w := wr.drew) hB5 ⟨hB.drew⟩ (Nat.le_refl _) hBlt d2), kept_below hB6 (kept_below (w := wr.drew) hB5 ⟨hB.drew⟩ (Nat.le_refl _)) (Nat.le_refl _)⟩ | go_keep)
                        (first | (go_at_call 15; (with_reducible refine (C1.out _ ?_).mono ?_); exact Rd.now hRL2 ⟨hB.drew⟩ (Nat.le_refl _); rintro e w5 ⟨rfl, hB5⟩) | (go_at_call 15; (with_reducible refine (C2.out _ ?_).mono ?_); exact Rd.now hRL2 (kept_below (w := wr.drew) hB5 ⟨hB.drew⟩ (Nat.le_refl _)) (Nat.le_refl _); rintro e w6 ⟨rfl, hB6⟩))
                      all_goals
                        go_wp2
                        go_ret
                        exact ⟨by simp, hBW2.trans ((kept_below hB6 (kept_below (w := wr.drew) hB5 ⟨hB.drew⟩ (Nat.le_refl _)) (Nat.le_refl _)).h.mono hBW2.size)⟩
end Go.Proofs.Ytnbnkmpmkpillaa
