/- laderef15.In and laderef13.SameSpots: for every slices of spots, of at most a million. -/
import Derived.Test.YtnbnkmpmkpillaaLiveCol
import Derived.LoopN
import Derived.Deep.QuietTactic
import Derived.BigQuiet
namespace Go.Proofs.Ytnbnkmpmkpillaa
open Go.RowKit Go.Shelf

set_option maxRecDepth 100000 in
set_option maxHeartbeats 2000000 in
theorem refIn_calls (c : Nat) (a : Option Addr) (seg : Int) (xs : List Spot) (hreach : xs.length ≤ 1000000) (w : World) (hc : Spots w w.heap.size (.slice a xs.length c) xs) :
    Calls Try.prog 11 #[.slice a xs.length c, .int .i64 seg] w fun e w' => ∃ v, e = .returned v ∧ w'.ownsRow w.heap.size 33 4 v (flt seg xs).length (cellsOf (flt seg xs)) ∧ Below w.heap.size w w' := by
  obtain ⟨i0, hi, hz0, hz1, hz2⟩ := info_parts infoSpot
  go_enter Try.func11, Try.ntmps11
  go_wp2
  go_loopw [5, 6] (fun v i wr => ∃ k : Nat, k ≤ xs.length ∧ i = .int .i64 k ∧ wr.ownsRow w.heap.size 33 4 v (flt seg (xs.take k)).length (cellsOf (flt seg (xs.take k))) ∧ Below w.heap.size w wr)
    (fun _ i _ => xs.length - (intOf i).toNat)
  case atStart => exact ⟨0, Nat.zero_le _, rfl, World.ownsRow_nil _ _ _ _, Below.refl _ _⟩
  case round =>
    obtain ⟨k, hk, rfl, hown, hB⟩ := hrel
    by_cases hlt : k < xs.length
    · obtain ⟨b, off, rfl, hb, hcs⟩ := hc.cell (by omega)
      obtain ⟨c0, c1, c2, c3⟩ := hcs k hlt
      have d0 := (hB.cell (p := ⟨b, off + k * 4, none⟩) hb).trans c0
      have d1 := (hB.cell (p := ⟨b, off + k * 4 + 1, none⟩) hb).trans c1
      have d2 := (hB.cell (p := ⟨b, off + k * 4 + 2, none⟩) hb).trans c2
      have d3 := (hB.cell (p := ⟨b, off + k * 4 + 3, none⟩) hb).trans c3
      have hk1 := flt_take seg xs k hlt
      have hle : (flt seg (xs.take k)).length ≤ k := Nat.le_trans (List.length_filter_le _ _) (List.length_take_le _ _)
      generalize xs[k] = x at *
      clear c0 c1 c2 c3 hc hcs
      cases hs : x.s == seg with
      | true =>
        rw [hs] at hk1
        have Hk := Lib.hid hk1
        clear hk1
        go_wp2_with (at_builtin; refine wpList_append_own _ rfl _ _ 22 rfl w.heap.size 33 i0 _ 4 32 Try.underlying22 hi hz0 hz1 hz2 rfl (by decide) _ _ _ rfl (hown.alloc _) ⟨wr.heap.size, 0, none⟩ 1 1 x.cells rfl rfl (cells_new _ _ _) (by simp [Spot.cells, Value.oneCell']) (by unfold maxLen; omega) (by omega) (by have := hB.size; simp; omega) ?_; intro v' w1 hown' hgrow _)
        go_roundw
        case rel => exact ⟨k + 1, by omega, by simp, by rw [Hk.out, if_pos rfl, cellsOf_snoc]; simpa using hown', below_append hB hB.size hown hgrow⟩
        case measure => simp [intOf]; omega
      | false =>
        rw [hs] at hk1
        have Hk := Lib.hid hk1
        clear hk1
        go_wp2
        go_roundw
        case rel => exact ⟨k + 1, by omega, by simp, by rw [Hk.out]; simpa using hown, hB⟩
        case measure => simp [intOf]; omega
    · obtain rfl : k = xs.length := by omega
      go_wp2
      go_ret
      exact ⟨_, rfl, by simpa using hown, hB⟩

theorem neq_spot (x y : Spot) (w : World) : (binOp .neq 33 (.agg #[.int .i64 x.g, .int .i64 x.i, .int .i64 x.s, .int .i64 x.a]) (.agg #[.int .i64 y.g, .int .i64 y.i, .int .i64 y.s, .int .i64 y.a])).run Try.prog w = .ok (.bool (decide (x ≠ y))) w := by
  obtain ⟨a, b, c, d⟩ := x
  obtain ⟨e, f, g, h⟩ := y
  go_simp
  by_cases h1 : a = e <;> by_cases h2 : b = f <;> by_cases h3 : c = g <;> by_cases h4 : d = h <;> simp [h1, h2, h3, h4]

set_option maxRecDepth 100000 in
set_option maxHeartbeats 2000000 in
theorem same_calls (c c' : Nat) (a a' : Option Addr) (xs ys : List Spot) (hreach : xs.length ≤ 1000000) (hreach' : ys.length ≤ 1000000) (w : World) (hc : Spots w w.heap.size (.slice a xs.length c) xs) (hc' : Spots w w.heap.size (.slice a' ys.length c') ys) :
    Calls Try.prog 12 #[.slice a xs.length c, .slice a' ys.length c'] w fun e w' => e = .returned (.bool (decide (xs = ys))) ∧ Below w.heap.size w w' := by
  by_cases hl : xs.length = ys.length
  · have hl1 : (((xs.length : Int)) != (ys.length : Int)) = false := by simp [hl]
    have Hl := Lib.hid hl
    clear hl
    go_enter Try.func12, Try.ntmps12
    go_wp2
    go_loopw [5] (fun i wr => ∃ k : Nat, k ≤ xs.length ∧ i = .int .i64 k ∧ xs.take k = ys.take k ∧ Below w.heap.size w wr) (fun i _ => xs.length - (intOf i).toNat)
    case atStart => exact ⟨0, Nat.zero_le _, rfl, rfl, Below.refl _ _⟩
    case round =>
      obtain ⟨k, hk, rfl, he, hB⟩ := hrel
      have He := Lib.hid he
      clear he
      by_cases hlt : k < xs.length
      · have hlt' : k < ys.length := by have := Hl.out; omega
        obtain ⟨b, off, rfl, hb, hcs⟩ := hc.cell (by omega)
        obtain ⟨b', off', rfl, hb', hcs'⟩ := hc'.cell (by omega)
        obtain ⟨c0, c1, c2, c3⟩ := hcs k hlt
        obtain ⟨e0, e1, e2, e3⟩ := hcs' k hlt'
        have d0 := (hB.cell (p := ⟨b, off + k * 4, none⟩) hb).trans c0
        have d1 := (hB.cell (p := ⟨b, off + k * 4 + 1, none⟩) hb).trans c1
        have d2 := (hB.cell (p := ⟨b, off + k * 4 + 2, none⟩) hb).trans c2
        have d3 := (hB.cell (p := ⟨b, off + k * 4 + 3, none⟩) hb).trans c3
        have f0 := (hB.cell (p := ⟨b', off' + k * 4, none⟩) hb').trans e0
        have f1 := (hB.cell (p := ⟨b', off' + k * 4 + 1, none⟩) hb').trans e1
        have f2 := (hB.cell (p := ⟨b', off' + k * 4 + 2, none⟩) hb').trans e2
        have f3 := (hB.cell (p := ⟨b', off' + k * 4 + 3, none⟩) hb').trans e3
        have hxy : Hid (xs.take (k + 1) = ys.take (k + 1) ↔ xs[k] = ys[k]) := by
          have H := He.out
          show _ ↔ _
          rw [List.take_succ_eq_append_getElem hlt, List.take_succ_eq_append_getElem hlt', H]
          exact ⟨fun h => by have := List.append_cancel_left h; simpa using this, fun h => by rw [h]⟩
        have hxy' : Hid (xs = ys → xs[k] = ys[k]) := fun e => by subst e; rfl
        have hq := fun w => neq_spot xs[k] ys[k] w
        clear c0 c1 c2 c3 hc hcs e0 e1 e2 e3 hc' hcs'
        generalize xs[k] = x at *
        generalize ys[k] = y at *
        by_cases hxe : x = y
        · rw [show decide (x ≠ y) = false from by simp [hxe]] at hq
          have HX := Lib.hid hxe
          clear hxe
          go_wp2
          go_quiet (fail)
          go_wp2
          go_roundw
          case rel => exact ⟨k + 1, by omega, by simp, hxy.out.2 HX.out, below_drewN hB _⟩
          case measure => simp [intOf]; omega
        · rw [show decide (x ≠ y) = true from by simp [hxe]] at hq
          have HX := Lib.hid hxe
          clear hxe
          go_wp2
          go_quiet (fail)
          go_wp2
          go_ret
          exact ⟨by rw [show decide (xs = ys) = false from by simp; exact fun e => HX.out (hxy'.out e)]; rfl, below_drewN hB _⟩
      · obtain rfl : k = xs.length := by omega
        have hfin : decide (xs = ys) = true := by
          have h1 := He.out; have h2 := Hl.out
          rw [List.take_of_length_le (Nat.le_refl _), List.take_of_length_le (by omega)] at h1
          simpa using h1
        have HF := Lib.hid hfin
        clear hfin
        go_wp2
        go_ret
        exact ⟨by rw [HF.out]; rfl, hB⟩
  · have hl1 : (((xs.length : Int)) != (ys.length : Int)) = true := by simp; omega
    have hne : decide (xs = ys) = false := by simp; intro e; exact hl (by rw [e])
    rw [hne]
    go_enter Try.func12, Try.ntmps12
    go_wp2
    go_ret
    exact ⟨rfl, Below.refl _ _⟩
end Go.Proofs.Ytnbnkmpmkpillaa
