/- ladelaw16.known returns true; VictimTells: the walk. -/
import Derived.Test.YtnbnkmpmkpillaaVictim
namespace Go.Proofs.Ytnbnkmpmkpillaa
open Go.RowKit Go.Shelf

theorem rd_blk' {W : World} {B : Nat} {t : TypeId} {cs : Array Value} {sz n cap : Nat} (h : Blk W B t cs) (hl : cs.size = n * sz) (hc : n ≤ cap) : Rd W W.heap.size sz (.slice (some ⟨B, 0, none⟩) n cap) n cs.toList :=
  ⟨by simpa using hl, _, _, rfl, hc, fun _ => ⟨B, 0, rfl, h.lt, fun j _ => by rw [Nat.zero_add, h.cell j]; simp⟩⟩

set_option maxRecDepth 100000 in
set_option maxHeartbeats 1000000 in
theorem known16_calls (w : World) : Calls Try.prog 17 #[] w fun e w' => e = .returned (.bool true) ∧ Below w.heap.size w w' := by
  go_enter Try.func17, Try.ntmps17
  go_wp2_with fail
  refine (pick_calls _ 2 2 [3, 4] rfl (by omega) _ (rd_blk' (Blk.new w 3 #[.int .i64 3, .int .i64 4]) rfl (Nat.le_refl _))).mono ?_
  rintro e w1 ⟨rfl, hB1⟩
  replace hB1 := ((Below.refl _ w).alloc (Nat.le_refl _) (.cells #[.int .i64 3, .int .i64 4] 3)).trans (hB1.mono (by simp))
  rw [show pickOf [3, 4] = (3, true) from rfl]
  go_wp2_with fail
  refine (pick_calls _ 1 1 [3] rfl (by omega) _ (rd_blk' (Blk.new w1 3 #[.int .i64 3]) rfl (Nat.le_refl _))).mono ?_
  rintro e w2 ⟨rfl, hB2⟩
  replace hB2 := hB1.trans (((Below.refl _ w1).alloc (Nat.le_refl _) (.cells #[.int .i64 3] 3)).trans (hB2.mono (by simp)) |>.mono hB1.size)
  rw [show pickOf [3] = (0, false) from rfl]
  clear hB1
  go_wp2_with fail
  refine (sealed_calls _ 2 2 [3, 4] (by omega) _ (rd_blk' (Blk.new w2 3 #[.int .i64 3, .int .i64 4]) rfl (Nat.le_refl _))).mono ?_
  rintro e w3 ⟨v, rfl, ho, hB3⟩
  replace hB3 := hB2.trans (((Below.refl _ w2).alloc (Nat.le_refl _) (.cells #[.int .i64 3, .int .i64 4] 3)).trans (hB3.mono (by simp)) |>.mono hB2.size)
  obtain ⟨a, c, rfl⟩ := Rd.val (Rd.of_owns ho)
  clear ho hB2
  go_wp2_with fail
  have b1 := Blk.new w3 3 #[.int .i64 3, .int .i64 4, .int .i64 5]
  have b2 := Blk.new (w3.alloc (.cells #[.int .i64 3, .int .i64 4, .int .i64 5] 3)) 33 #[.int .i64 0, .int .i64 0, .int .i64 4, .int .i64 0]
  rw [World.size_alloc] at b2
  refine (rounds_calls _ 3 3 [3, 4, 5] rfl (by omega) _ 1 [⟨0, 0, 4, 0⟩] (by decide) _ (rd_blk' (b1.alloc _) rfl (Nat.le_refl _)) (rd_blk' (sz := 4) (n := 1) b2 rfl (Nat.le_refl _))).mono ?_
  rintro e w4 ⟨rfl, hB4⟩
  replace hB4 := hB3.trans ((((Below.refl _ w3).alloc (Nat.le_refl _) (.cells #[.int .i64 3, .int .i64 4, .int .i64 5] 3)).alloc (by simp) (.cells #[.int .i64 0, .int .i64 0, .int .i64 4, .int .i64 0] 33)).trans (hB4.mono (by simp; omega)) |>.mono hB3.size)
  rw [show (roundsTo [3, 4, 5] [⟨0, 0, 4, 0⟩] (3 - 1) : Int) = 2 from by decide]
  go_wp2
  go_ret
  exact ⟨rfl, hB4⟩

set_option maxRecDepth 100000 in
set_option maxHeartbeats 2000000 in
theorem walk_VictimTells {W : World} (a0 : Option Addr) (c0 : Nat) (l0 : List Int) (r0 : Rd W W.heap.size 1 (.slice a0 l0.length c0) l0.length (l0.map (Value.int .i64))) (_ : c0 ≤ maxLen) (_ : ∀ x ∈ l0, (Lit.int .i64 x).wf = true)
    (a1 : Option Addr) (c1 : Nat) (l1 : List Spot) (r1 : Rd W W.heap.size 4 (.slice a1 l1.length c1) l1.length (cellsOf l1)) (_ : c1 ≤ maxLen) (_ : ∀ x ∈ l1, True) :
    Calls Try.prog 7 #[.slice a0 l0.length c0, .slice a1 l1.length c1] W fun e w' => e = .returned (.bool true) ∧ Below W.heap.size W w' := by
  have hS : Spots W W.heap.size (.slice a1 l1.length c1) l1 := r1
  clear r1
  by_cases h1 : 60 < l0.length ∨ 60 < l1.length
  · go_enter Try.func7, Try.ntmps7
    go_wp2_with fail
    refine (known16_calls W).mono ?_
    rintro e w1 ⟨rfl, hB1⟩
    rcases h1 with h1 | h1
    · go_wp2
      go_ret
      exact ⟨rfl, hB1⟩
    · by_cases h2 : 60 < l0.length
      · go_wp2
        go_ret
        exact ⟨rfl, hB1⟩
      · go_wp2
        go_ret
        exact ⟨rfl, hB1⟩
  · obtain ⟨n, hn⟩ : ∃ n, l0.length = n := ⟨_, rfl⟩
    rw [hn] at r0 h1 ⊢
    have HN := Lib.hid hn
    have h2 : n ≤ 60 := by omega
    have h3 : l1.length ≤ 60 := by omega
    clear h1 hn
    have e1 : decide (60 < (n : Int)) = false := by simp; omega
    have e2 : decide (60 < (l1.length : Int)) = false := by simp; omega
    go_enter Try.func7, Try.ntmps7
    go_wp2_with fail
    refine (known16_calls W).mono ?_
    rintro e w1 ⟨rfl, hB1⟩
    have hS1 := (hS.below hB1 (Nat.le_refl _)).up hB1.size
    have hI1 := (r0.below hB1 (Nat.le_refl _)).up hB1.size
    clear hS r0
    go_wp2_with fail
    go_loopw [5] (fun i wr => ∃ k : Nat, 1 ≤ k ∧ k ≤ n + 1 ∧ i = .int .i64 k ∧ Below w1.heap.size w1 wr) (fun i _ => n + 1 - (intOf i).toNat)
    case atStart => exact ⟨1, Nat.le_refl _, by omega, rfl, Below.refl _ _⟩
    case round =>
      obtain ⟨k, hk1, hk, rfl, hB⟩ := hrel
      by_cases hlt : k < n
      · obtain ⟨j, rfl⟩ : ∃ j, k = j + 1 := ⟨k - 1, by omega⟩
        obtain ⟨b, off, rfl, hb, _, hc⟩ := Rd.at (hI1.below hB (Nat.le_refl _)) (by omega)
        have d0 := hc j (by omega)
        have d1 := hc (j + 1) (by omega)
        rw [List.getElem?_map, List.getElem?_eq_getElem (by rw [HN.out]; omega), Option.map_some] at d0 d1
        have q1 : (0 : Int) ≤ (j : Int) + 1 := by omega
        have q2 : (j : Int) + 1 < (n : Int) := by omega
        have q3 : (0 : Int) ≤ (j : Int) := by omega
        have q4 : (j : Int) < (n : Int) := by omega
        clear hc
        generalize l0[j]'(by rw [HN.out]; omega) = x at *
        generalize l0[j + 1]'(by rw [HN.out]; omega) = y at *
        by_cases hxy : y ≤ x
        · go_wp2
          go_quiet (fail)
          go_wp2
          go_ret
          exact ⟨rfl, hB1.trans (below_drewN (hB.mono hB1.size) _)⟩
        · go_wp2
          go_quiet (fail)
          go_wp2
          go_roundw
          case rel => exact ⟨j + 2, by omega, by omega, by simp; omega, below_drewN hB _⟩
          case measure => simp [intOf]; omega
      · have hge : (n : Int) ≤ (k : Int) := by omega
        have hI2 := (hI1.below hB (Nat.le_refl _)).up hB.size
        have hS2 := (hS1.below hB (Nat.le_refl _)).up hB.size
        replace hB1 := hB1.trans (hB.mono hB1.size)
        clear hI1 hS1 hB
        go_wp2_with fail
        refine (pick_calls a0 n c0 l0 HN.out (by omega) wr hI2).mono ?_
        rintro e w2 ⟨rfl, hB2⟩
        replace hI2 := (hI2.below hB2 (Nat.le_refl _)).up hB2.size
        replace hS2 := (hS2.below hB2 (Nat.le_refl _)).up hB2.size
        replace hB1 := hB1.trans (hB2.mono hB1.size)
        clear hB2
        go_wp2_with fail
        refine (sealed_calls a0 n c0 l0 (by omega) w2 hI2).mono ?_
        rintro e w3 ⟨v, rfl, ho, hB3⟩
        have hR := Rd.of_owns ho
        obtain ⟨a3, c3, rfl⟩ := Rd.val hR
        replace hI2 := (hI2.below hB3 (Nat.le_refl _)).up hB3.size
        replace hS2 := (hS2.below hB3 (Nat.le_refl _)).up hB3.size
        replace hB1 := hB1.trans (hB3.mono hB1.size)
        clear hB3 ho
        have hsmall : Hid (n < 2 → pickOf l0 = (0, false)) := by
          have h0 := HN.out
          intro hn
          match l0, h0 with
          | [], _ => rfl
          | [x], _ => rfl
          | x :: y :: l, h0 => simp at h0; omega
        rcases Nat.lt_or_ge n 2 with hn2 | hn2
        · rw [hsmall.out hn2]
          obtain rfl | rfl : n = 0 ∨ n = 1 := by omega
          · go_wp2
            refine wp_loop_rounds 1 ?_
            rw [rounds_succ]
            go_wp2_with fail
            refine (rounds_calls a0 0 c0 l0 HN.out (by omega) a1 c1 l1 (by omega) w3 hI2 hS2).mono ?_
            rintro e w4 ⟨rfl, hB4⟩
            go_wp2_with fail
            refine (refRounds_calls a0 0 c0 l0 HN.out (by omega) a1 c1 l1 (by omega) w4 ((hI2.below hB4 (Nat.le_refl _)).up hB4.size) ((hS2.below hB4 (Nat.le_refl _)).up hB4.size)).mono ?_
            rintro e w5 ⟨rfl, hB5⟩
            go_wp2
            go_ret
            exact ⟨by simp, hB1.trans ((hB4.trans (hB5.mono hB4.size)).mono hB1.size)⟩
          · go_wp2
            refine wp_loop_rounds 1 ?_
            rw [rounds_succ]
            go_wp2_with fail
            refine (rounds_calls a0 1 c0 l0 HN.out (by omega) a1 c1 l1 (by omega) w3 hI2 hS2).mono ?_
            rintro e w4 ⟨rfl, hB4⟩
            go_wp2_with fail
            refine (refRounds_calls a0 1 c0 l0 HN.out (by omega) a1 c1 l1 (by omega) w4 ((hI2.below hB4 (Nat.le_refl _)).up hB4.size) ((hS2.below hB4 (Nat.le_refl _)).up hB4.size)).mono ?_
            rintro e w5 ⟨rfl, hB5⟩
            go_wp2
            go_ret
            exact ⟨by simp, hB1.trans ((hB4.trans (hB5.mono hB4.size)).mono hB1.size)⟩
        · obtain ⟨m, rfl⟩ : ∃ m, n = m + 2 := ⟨n - 2, by omega⟩
          obtain ⟨x, y, l, rfl⟩ : ∃ x y l, l0 = x :: y :: l := by
            have h0 := HN.out
            match l0, h0 with
            | [], h0 => simp at h0
            | [x], h0 => simp at h0
            | x :: y :: l, _ => exact ⟨x, y, l, rfl⟩
          rw [show pickOf (x :: y :: l) = (x, true) from rfl]
          have e3 : decide (1 < (m : Int) + 2) = true := by simp; omega
          have hm58 : (m : Int) ≤ 58 := by omega
          obtain ⟨b, off, rfl, hb, _, hc⟩ := Rd.at hI2 (by omega)
          have d0 := hc 0 (by omega)
          simp only [List.map_cons, List.getElem?_cons_zero, Nat.add_zero] at d0
          clear hc
          go_wp2
          clear d0
          obtain ⟨wo, rfl⟩ : ∃ wo : World, wo = w3 := ⟨_, rfl⟩
          go_loopw [9] (fun i wr => ∃ k : Nat, k ≤ m + 1 ∧ i = .int .i64 k ∧ Below wo.heap.size wo wr) (fun i _ => m + 1 - (intOf i).toNat)
          case atStart => exact ⟨0, Nat.zero_le _, rfl, Below.refl _ _⟩
          case round =>
            obtain ⟨k2, hk2, rfl, hB⟩ := hrel
            by_cases hlt : k2 < m + 1
            · obtain ⟨b2, off2, hbo, hb2, _, hc2⟩ := Rd.at (hI2.below hB (Nat.le_refl _)) (by omega)
              obtain ⟨rfl, rfl⟩ : b = b2 ∧ off = off2 := by simpa using hbo
              obtain ⟨b3, off3, rfl, hb3, _, hc3⟩ := Rd.at (hR.below hB (Nat.le_refl _)) (by omega)
              have d2 := hc2 k2 (by omega)
              have d3 := hc3 k2 (by omega)
              rw [List.getElem?_map, List.getElem?_take, if_pos (by omega), List.getElem?_eq_getElem (by rw [HN.out]; omega), Option.map_some] at d3
              rw [List.getElem?_map, List.getElem?_eq_getElem (by rw [HN.out]; omega), Option.map_some] at d2
              have q1 : (0 : Int) ≤ (k2 : Int) := by omega
              have q2 : (k2 : Int) < (m : Int) + 1 := by omega
              have q3 : (k2 : Int) < (m : Int) + 2 := by omega
              clear hc2 hc3 hbo
              generalize (x :: y :: l)[k2]'(by rw [HN.out]; omega) = z at *
              go_wp2
              go_quiet (fail)
              go_wp2
              go_roundw
              case rel => exact ⟨k2 + 1, by omega, by simp, below_drewN hB _⟩
              case measure => simp [intOf]; omega
            · obtain rfl : k2 = m + 1 := by omega
              replace hI2 := (hI2.below hB (Nat.le_refl _)).up hB.size
              replace hS2 := (hS2.below hB (Nat.le_refl _)).up hB.size
              replace hB1 := hB1.trans (hB.mono hB1.size)
              go_wp2_with fail
              refine (rounds_calls _ (m + 2) c0 (x :: y :: l) HN.out (by omega) a1 c1 l1 (by omega) wr hI2 hS2).mono ?_
              rintro e w4 ⟨rfl, hB4⟩
              go_wp2_with fail
              refine (refRounds_calls _ (m + 2) c0 (x :: y :: l) HN.out (by omega) a1 c1 l1 (by omega) w4 ((hI2.below hB4 (Nat.le_refl _)).up hB4.size) ((hS2.below hB4 (Nat.le_refl _)).up hB4.size)).mono ?_
              rintro e w5 ⟨rfl, hB5⟩
              go_wp2
              go_ret
              exact ⟨by simp, hB1.trans ((hB4.trans (hB5.mono hB4.size)).mono hB1.size)⟩
end Go.Proofs.Ytnbnkmpmkpillaa
