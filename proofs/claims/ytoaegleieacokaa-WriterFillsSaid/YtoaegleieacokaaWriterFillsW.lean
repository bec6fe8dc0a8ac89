/- WriterFills: the walk. -/
import Derived.Test.YtoaegleieacokaaWrArg
namespace Go.Proofs.Ytoaegleieacokaa
open Go.RowKit Go.Shelf

set_option maxRecDepth 100000 in
set_option maxHeartbeats 2000000 in
theorem walk_WriterFills {W : World} (a0 : Int) (w0 : (Lit.int .u16 a0).wf = true) (a1 : Option Addr) (c1 : Nat) (l1 : List Int) (r1 : Rd W W.heap.size 1 (.slice a1 l1.length c1) l1.length (l1.map (Value.int .u16))) (_ : c1 ≤ maxLen) (g1 : ∀ x ∈ l1, (Lit.int .u16 x).wf = true) :
    Calls Try.prog 8 #[.int .u16 a0, .slice a1 l1.length c1] W fun e w' => e = .returned (.bool true) ∧ Below W.heap.size W w' := by
  obtain ⟨x0, y0⟩ := wf_u16 w0
  obtain ⟨i0, hi0, hz0, hz1, hz2⟩ := info_parts infoU8
  go_enter Try.func8, Try.ntmps8
  go_wp2_with fail
  refine (known22_calls W).mono ?_
  rintro e w1 ⟨rfl, hB1⟩
  by_cases hlen : 30 < l1.length
  · go_wp2
    go_ret
    exact ⟨rfl, hB1⟩
  go_wp2_with fail
  refine (new_dk 1000000 hB1 hB1.size).mono ?_
  rintro e w2 ⟨D, rfl, M, h⟩
  clear hB1
  have hmk := make_g a0 (uns_new 1000000) (by decide) (by simp [newDS]) (by decide) h
  have hrm : (newDS 1000000).room = 1000000 := by decide
  have hz : used (newDS 1000000).l = 0 := rfl
  have hll : (newDS 1000000).l.length = 0 := rfl
  have hlim : limN a0 = max 2100 a0 := by unfold limN; omega
  rw [hrm, hz, hll, hlim] at hmk
  clear hrm hz hll hlim h
  go_wp2_with fail
  refine hmk.mono ?_
  clear hmk
  rintro e w3 ⟨B, s0, rfl, hg, hr0, hl0, hu0⟩
  generalize hmost : max 2100 a0 = most at *
  have hm1 : 2100 ≤ most ∧ most ≤ 65535 := by omega
  go_wp2_with fail
  go_loopw [9] (fun i wr => ∃ j : Nat, j ≤ l1.length ∧ i = .int .i64 j ∧ ∃ cs c s, Wg W.heap.size W D M B most (16 + 30 * (j : Int)) 1 cs c s wr ∧ cs.length ≤ j ∧ s.room = 1000000 ∧ s.l.length ≤ 2 + 4 * j ∧ used s.l ≤ 22 + 4200 * j ∧ 16 + (c.size : Int) ≤ most) (fun i _ => l1.length - (intOf i).toNat)
  case atStart => exact ⟨0, Nat.zero_le _, rfl, [], ⟨#[]⟩, s0, hg, Nat.le_refl _, hr0, hl0, hu0, by have : (⟨#[]⟩ : ByteArray).size = 0 := rfl; omega⟩
  case round =>
    obtain ⟨j, hj, rfl, cs, c, s, hg, hcs, hr, hl, hu, hcm⟩ := hrel
    by_cases hlt : j < l1.length
    · obtain ⟨b, off, rfl, hb, hcell⟩ := u16_cell (r1.below hg.wk.dk.below (Nat.le_refl _)) (by omega)
      have q := hcell j hlt
      have hgood := g1 _ (List.getElem_mem hlt)
      clear hcell g1
      generalize l1[j] = x at *
      obtain ⟨x1, y1⟩ := wf_u16 hgood
      obtain ⟨n, hn, hn0, hn1⟩ : ∃ n : Nat, x % 2084 + 1 = (n : Int) ∧ 0 < n ∧ n ≤ 2084 := ⟨(x % 2084 + 1).toNat, by omega, by omega, by omega⟩
      have hzs := zerosB_size n
      have hwr := fun (w : World) (h : Wg W.heap.size W D M B most (16 + 30 * (j : Int)) 1 cs c s w) => write_g (by omega) (by omega) (by omega) (by omega) (by omega) (by omega) (by omega) (zerosB n) (by omega) (by omega) h
      go_wp2_with fail
      refine (size_g hg).mono ?_
      rintro e w4 ⟨rfl, rfl⟩
      go_wp2_with fail
      refine (segs_g (by omega) hg).mono ?_
      clear hg
      rintro e w5 ⟨A5, C5, rfl, _, hg, _⟩
      go_wp2_with (at_make; refine wpList_make_full _ rfl _ _ 29 rfl 0 5 i0 _ 1 Try.underlying29 hi0 hz0 hz1 _ _ _ _ n rfl rfl rfl rfl (by rw [hz2]; omega) (by unfold maxLen; omega) (Nat.zero_le _) ?_; intro w6 hown hgrow; have hz := zeros_str hown)
      have hbz : Below w5.heap.size w5 w6 := (Below.refl _ w5).grown hgrow (Nat.le_refl _) (fun k e => by cases e)
      replace hg := hg.next hbz
      refine (hwr _ hg).mono ?_
      clear hwr hg hbz hown hgrow hz
      rintro e w7 ⟨e, p, cs', c', s', rfl, hg, hw, hr', hl', _⟩
      cases hw with
      | put hro hus =>
        have h1 : ¬ most < 16 + (c.size : Int) + (n : Int) := fun h => hro ⟨by omega, by omega⟩
        have hsz : (c ++ zerosB n).size = c.size + n := by rw [app_size, hzs]
        have hq2 : ((cs.length : Int) + 1 == (cs.length : Int) + 1 + 1) = false := by simp; omega
        have hq3 : (16 : Int) + ((c.size : Int) + (n : Int)) ≤ most := by omega
        have hq : ((16 : Int) + ((c.size : Int) + (n : Int)) != 16 + (c.size : Int) + (n : Int)) = false := by simp; omega
        generalize zerosB n = Z at *
        generalize c ++ Z = c2 at *
        go_wp2_with fail
        have bP := Blk.new w7 52 #[.int .i64 (1 + (cs.length : Int)), .int .i64 (16 + (c.size : Int))]
        have hBp : Below w7.heap.size w7 (w7.alloc (.cells #[.int .i64 (1 + (cs.length : Int)), .int .i64 (16 + (c.size : Int))] 52)) := (Below.refl _ w7).alloc (Nat.le_refl _) _
        replace hg := hg.next hBp
        clear hBp
        generalize w7.alloc (.cells #[.int .i64 (1 + (cs.length : Int)), .int .i64 (16 + (c.size : Int))] 52) = w8 at *
        refine (limit_g hg).mono ?_
        rintro e w9 ⟨rfl, rfl⟩
        go_wp2_with fail
        refine (size_g hg).mono ?_
        rintro e w9 ⟨rfl, rfl⟩
        go_wp2_with fail
        refine (segs_g (by omega) hg).mono ?_
        clear hg
        rintro e w9 ⟨A9, C9, rfl, _, hg, hB9⟩
        have q1 : w9.cell? ⟨w7.heap.size, 1, none⟩ = some (.int .i64 (16 + (c.size : Int))) := (bP.below hB9 bP.lt).cell 1
        go_wp2_with fail
        refine (size_g hg).mono ?_
        rintro e w10 ⟨rfl, rfl⟩
        go_wp2_with fail
        go_roundw
        case rel => exact ⟨j + 1, by omega, by simp, cs, c2, s', hg.up (by omega), by omega, by omega, by omega, by omega, by omega⟩
        case measure => simp [intOf]; omega
      | begun hro hus =>
        have hrz : 0 < c.size := hro.1
        have hrz2 : most < 16 + (c.size : Int) + (n : Int) := by have := hro.2; omega
        have hdz : decide ((16 : Int) < 16 + (c.size : Int)) = true := decide_eq_true (by omega)
        have hln : (cs ++ [c]).length = cs.length + 1 := by simp
        generalize zerosB n = Z at *
        generalize cs ++ [c] = cs2 at *
        go_wp2_with fail
        have bP := Blk.new w7 52 #[.int .i64 (1 + (cs.length : Int) + 1), .int .i64 16]
        have hBp : Below w7.heap.size w7 (w7.alloc (.cells #[.int .i64 (1 + (cs.length : Int) + 1), .int .i64 16] 52)) := (Below.refl _ w7).alloc (Nat.le_refl _) _
        replace hg := hg.next hBp
        clear hBp
        generalize w7.alloc (.cells #[.int .i64 (1 + (cs.length : Int) + 1), .int .i64 16] 52) = w8 at *
        refine (limit_g hg).mono ?_
        rintro e w9 ⟨rfl, rfl⟩
        go_wp2_with fail
        refine (size_g hg).mono ?_
        rintro e w9 ⟨rfl, rfl⟩
        go_wp2_with fail
        refine (segs_g (by omega) hg).mono ?_
        clear hg
        rintro e w9 ⟨A9, C9, rfl, _, hg, hB9⟩
        have q1 : w9.cell? ⟨w7.heap.size, 1, none⟩ = some (.int .i64 16) := (bP.below hB9 bP.lt).cell 1
        go_wp2_with fail
        refine (size_g hg).mono ?_
        rintro e w10 ⟨rfl, rfl⟩
        go_wp2_with fail
        go_roundw
        case rel => exact ⟨j + 1, by omega, by simp, cs2, Z, s', hg.up (by omega), by omega, by omega, by omega, by omega, by omega⟩
        case measure => simp [intOf]; omega
      | full bad => omega
      | half bad => omega
    · obtain rfl : j = l1.length := by omega
      go_wp2
      go_ret
      exact ⟨rfl, hg.wk.dk.below⟩
end Go.Proofs.Ytoaegleieacokaa
