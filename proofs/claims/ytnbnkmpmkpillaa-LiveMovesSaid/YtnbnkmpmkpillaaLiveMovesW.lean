/- LiveMoves: the plain law and the walk. -/
import Derived.Test.YtnbnkmpmkpillaaKnown15
import Derived.Test.YtnbnkmpmkpillaaRefRec
namespace Go.Proofs.Ytnbnkmpmkpillaa
open Go.RowKit Go.Shelf

/-! ### The plain law -/
def mkSpot (a : Int) (i : Nat) : Spot := ⟨1, (i : Int) + 1, a, 16 * ((i : Int) / 3)⟩
def mkSpots (a : Int) (k : Nat) : List Spot := (List.range k).map (mkSpot a)
theorem mkSpots_length (a : Int) (k : Nat) : (mkSpots a k).length = k := by simp [mkSpots]
theorem mkSpots_succ (a : Int) (k : Nat) : mkSpots a (k + 1) = mkSpots a k ++ [mkSpot a k] := by simp [mkSpots, List.range_succ]
theorem flt_len (seg : Int) (l : List Spot) : (flt seg l).length = l.countP fun x => x.s == seg := by unfold flt; rw [List.countP_eq_length_filter]
theorem flt_mk (a : Int) (k : Nat) : flt a (mkSpots a k) = mkSpots a k := by
  unfold flt
  rw [List.filter_eq_self]
  intro x hx
  obtain ⟨i, _, rfl⟩ := List.mem_map.1 hx
  simp [mkSpot]
theorem flt_mk_ne (a b : Int) (h : a ≠ b) (k : Nat) : flt b (mkSpots a k) = [] := by
  unfold flt
  rw [List.filter_eq_nil_iff]
  intro x hx
  obtain ⟨i, _, rfl⟩ := List.mem_map.1 hx
  simpa [mkSpot] using h
def movedTo (l : List Spot) (j : Nat) (b : Int) : List Spot := l.modify j fun x => { x with s := b }
theorem moved_length (l : List Spot) (j : Nat) (b : Int) : (movedTo l j b).length = l.length := by simp [movedTo]
theorem moved_count (a b : Int) (k j : Nat) (hj : j < k) (seg : Int) : (flt seg (movedTo (mkSpots a k) j b)).length = (if a = seg then k - 1 else 0) + if b = seg then 1 else 0 := by
  have hl : j < (mkSpots a k).length := by rw [mkSpots_length]; exact hj
  have he : movedTo (mkSpots a k) j b = (mkSpots a k).set j { (mkSpots a k)[j] with s := b } := by
    apply List.ext_getElem
    · simp [movedTo]
    · intro i h1 h2
      simp only [movedTo, List.getElem_modify, List.getElem_set]
      by_cases hij : j = i
      · subst hij; simp
      · simp [hij]
  have hs : ((mkSpots a k)[j]).s = a := by simp [mkSpots, mkSpot]
  rw [he, flt_len, List.countP_set hl, ← flt_len]
  simp only [hs]
  by_cases h1 : a = seg
  · subst h1
    rw [flt_mk, mkSpots_length]
    simp
  · rw [flt_mk_ne a seg h1]
    simp [h1]
theorem nub_map' {α β : Type} [DecidableEq α] [DecidableEq β] (f : α → β) (hf : ∀ a b, f a = f b → a = b) : ∀ (l acc : List α),
    (l.map f).foldl (fun acc x => if x ∈ acc then acc else acc ++ [x]) (acc.map f) = (l.foldl (fun acc x => if x ∈ acc then acc else acc ++ [x]) acc).map f
  | [], acc => by simp
  | x :: l, acc => by
    simp only [List.map_cons, List.foldl_cons]
    have hm : f x ∈ acc.map f ↔ x ∈ acc := ⟨fun h => by obtain ⟨y, hy, e⟩ := List.mem_map.1 h; exact hf _ _ e ▸ hy, fun h => List.mem_map.2 ⟨x, h, rfl⟩⟩
    by_cases hx : x ∈ acc
    · rw [if_pos (hm.2 hx), if_pos hx]; exact nub_map' f hf l acc
    · rw [if_neg (fun h => hx (hm.1 h)), if_neg hx]
      have := nub_map' f hf l (acc ++ [x])
      simpa using this
theorem nub_map {α β : Type} [DecidableEq α] [DecidableEq β] (f : α → β) (hf : ∀ a b, f a = f b → a = b) (l : List α) : nub (l.map f) = (nub l).map f := nub_map' f hf l []
theorem moved_a (a b : Int) (q j : Nat) (hj : j < q + 1) : (flt a (movedTo (mkSpots a (q + 1)) j b)).length = cond (a == b) (q + 1) q := by
  rw [moved_count a b (q + 1) j hj a]
  by_cases h : a = b
  · subst h; simp
  · have : (a == b) = false := by simp [h]
    rw [this, if_pos rfl, if_neg (fun e => h e.symm)]
    simp
theorem moved_b (a b : Int) (q j : Nat) (hj : j < q + 1) : (flt b (movedTo (mkSpots a (q + 1)) j b)).length = cond (a == b) (q + 1) 1 := by
  rw [moved_count a b (q + 1) j hj b]
  by_cases h : a = b
  · subst h; simp
  · have : (a == b) = false := by simp [h]
    rw [this, if_neg h, if_pos rfl]
    simp
theorem recs_mk (a : Int) (k : Nat) (hk : k ≤ 20) : recs a (mkSpots a k) = (k + 2) / 3 := by
  have hpl : (mkSpots a k).map Spot.pl = ((List.range k).map fun (i : Nat) => 16 * ((i : Int) / 3)).map fun x => (a, x) := by
    simp only [mkSpots, List.map_map]
    rfl
  unfold recs
  rw [flt_mk, hpl, nub_map _ (fun x y h => by simpa using h), List.length_map]
  have hall : ∀ k : Fin 21, (nub ((List.range k.1).map fun (i : Nat) => 16 * ((i : Int) / 3))).length = (k.1 + 2) / 3 := by decide +kernel
  exact hall ⟨k, by omega⟩
theorem cellsOf_modify (l : List Spot) (j : Nat) (b : Int) (hj : j < l.length) : cellsOf (movedTo l j b) = (cellsOf l).set (j * 4 + 2) (.int .i64 b) := by
  induction l generalizing j with
  | nil => simp at hj
  | cons x l ih =>
    cases j with
    | zero => simp [movedTo, cellsOf, Spot.cells]
    | succ j =>
      have := ih j (by simpa using hj)
      simp only [movedTo, cellsOf, List.modify_succ_cons, List.flatMap_cons] at this ⊢
      rw [this, List.set_append, if_neg (by simp [Spot.cells]; omega), show (j + 1) * 4 + 2 - x.cells.length = j * 4 + 2 from by simp [Spot.cells]; omega]

theorem u8_bounds {a : Int} (h : (Lit.int .u8 a).wf = true) : 0 ≤ a ∧ a ≤ 255 := by
  simp [Lit.wf, IntKind.min, IntKind.max, IntKind.bits, IntKind.signed] at h
  omega
theorem count_at (n c : Nat) (a : Option Addr) (seg : Int) (xs : List Spot) (hn : xs.length = n) (hreach : n ≤ 1000000) (w : World) (hc : Rd w w.heap.size 4 (.slice a n c) n (cellsOf xs)) :
    Calls Try.prog 14 #[.slice a n c, .int .i64 seg] w fun e w' => e = .returned (.int .i64 ((flt seg xs).length : Int)) ∧ Below w.heap.size w w' := by
  subst hn
  exact count_calls c a seg xs hreach w hc
theorem records_at (n c : Nat) (a : Option Addr) (seg : Int) (xs : List Spot) (hn : xs.length = n) (hreach : n ≤ 1000000) (w : World) (hc : Rd w w.heap.size 4 (.slice a n c) n (cellsOf xs)) :
    Calls Try.prog 15 #[.slice a n c, .int .i64 seg] w fun e w' => e = .returned (.int .i64 (recs seg xs : Int)) ∧ Below w.heap.size w w' := by
  subst hn
  exact records_calls c a seg xs hreach w hc
set_option maxRecDepth 100000 in
set_option maxHeartbeats 1000000 in
theorem walk_LiveMoves {W : World} (a0 : Int) (w0 : (Lit.int .u8 a0).wf = true) (a1 : Int) (wa1 : (Lit.int .u8 a1).wf = true) (a2 : Int) (w2 : (Lit.int .u8 a2).wf = true) (a3 : Int) (w3 : (Lit.int .u8 a3).wf = true) :
    Calls Try.prog 5 #[.int .u8 a0, .int .u8 a1, .int .u8 a2, .int .u8 a3] W fun e w' => e = .returned (.bool true) ∧ Below W.heap.size W w' := by
  obtain ⟨i0, hi, hz0, hz1, hz2⟩ := info_parts infoSpot
  obtain ⟨x0, y0⟩ := u8_bounds w0
  obtain ⟨x1, y1⟩ := u8_bounds wa1
  obtain ⟨x2, y2⟩ := u8_bounds w2
  obtain ⟨x3, y3⟩ := u8_bounds w3
  go_enter Try.func5, Try.ntmps5
  go_wp2_with fail
  refine (known15_calls W).mono ?_
  rintro e w1 ⟨rfl, hB1⟩

  have z0 : 0 ≤ a0 % 20 ∧ a0 % 20 < 20 := by omega
  have z2 : 0 ≤ a2 % 5 ∧ a2 % 5 < 5 := by omega
  have z3 : 0 ≤ a3 % 5 ∧ a3 % 5 < 5 := by omega
  obtain ⟨z01, z02⟩ := z0
  obtain ⟨z21, z22⟩ := z2
  obtain ⟨z31, z32⟩ := z3
  go_wp2_with fail
  generalize a0 % 20 = q0 at *
  generalize a2 % 5 = a at *
  generalize a3 % 5 = b at *
  obtain ⟨q, rfl⟩ := Int.eq_ofNat_of_zero_le z01
  go_loopw [12, 13] (fun v i wr => ∃ k : Nat, k ≤ q + 1 ∧ i = .int .i64 k ∧ wr.ownsRow w1.heap.size 33 4 v k (cellsOf (mkSpots a k)) ∧ Below w1.heap.size w1 wr)
    (fun _ i _ => q + 1 - (intOf i).toNat)
  case atStart => exact ⟨0, Nat.zero_le _, rfl, World.ownsRow_nil _ _ _ _, Below.refl _ _⟩
  case round =>
    obtain ⟨k, hk, rfl, hown, hB⟩ := hrel
    by_cases hlt : k < q + 1
    · go_wp2_with (at_builtin; refine wpList_append_own _ rfl _ _ 22 rfl w1.heap.size 33 i0 _ 4 32 Try.underlying22 hi hz0 hz1 hz2 rfl (by decide) _ _ _ rfl (hown.alloc _) ⟨wr.heap.size, 0, none⟩ 1 1 (mkSpot a k).cells rfl rfl (cells_new _ _ _) (by simp [Spot.cells, mkSpot, Value.oneCell']) (by unfold maxLen; omega) (by omega) (by have := hB.size; simp; omega) ?_; intro v' w5 hown' hgrow _)
      go_roundw
      case rel => exact ⟨k + 1, by omega, by simp, by rw [mkSpots_succ, cellsOf_snoc]; exact hown', below_append hB hB.size hown hgrow⟩
      case measure => simp [intOf]; omega
    · obtain rfl : k = q + 1 := by omega
      obtain ⟨g, cap, rfl⟩ := ownsRow_succ hown
      have hnews := hown.cells (g := g) rfl
      have hlen := cellsOf_length (mkSpots a (q + 1))
      rw [mkSpots_length] at hlen
      have hone : ∀ u ∈ cellsOf (mkSpots a (q + 1)), u.oneCell' = true := by
        intro u hu
        obtain ⟨x, _, hx⟩ := List.mem_flatMap.1 hu
        simp [Spot.cells] at hx
        rcases hx with rfl | rfl | rfl | rfl <;> rfl
      have zj1 : 0 ≤ a1 % ((q : Int) + 1) := Int.emod_nonneg _ (by omega)
      have zj2 : a1 % ((q : Int) + 1) < (q : Int) + 1 := Int.emod_lt_of_pos _ (by omega)
      have HO := Lib.hid hown
      have HL := Lib.hid hlen
      clear hown hlen
      have hj0 : ∃ j : Nat, a1 % ((q : Int) + 1) = (j : Int) ∧ j < q + 1 := ⟨(a1 % ((q : Int) + 1)).toNat, by omega, by omega⟩
      obtain ⟨j, hj, hjq⟩ := hj0
      have HJ := Lib.hid hj
      clear hj
      have hcell : (cellsOf (mkSpots a (q + 1)))[j * 4 + 2]? = some (.int .i64 a) := by
        rw [cellsOf_get _ j 2 (by rw [mkSpots_length]; exact hjq) (by omega)]
        simp [Spot.cells, mkSpots, mkSpot]
      have HC := Lib.hid hcell
      clear hcell
      have hglt : g < wr.heap.size := (HO.out.lt g rfl).2
      have hgb : w1.heap.size ≤ g := (HO.out.lt g rfl).1
      cases hab : (a == b)
      all_goals
        go_wp2_with (at_builtin; refine wpList_append_own_at _ rfl _ _ 22 rfl w1.heap.size 33 i0 _ 4 32 Try.underlying22 hi hz0 hz1 hz2 rfl (by decide) (.slice none 0 0) 0 [] rfl (World.ownsRow_nil _ _ _ _) ⟨g, 0, none⟩ (q + 1) cap (cellsOf (mkSpots a (q + 1))) rfl HL.out hnews hone (by unfold maxLen; omega) (by omega) hB.size ?_; intro v' w5 hown' hgrow _ hat; simp only [Nat.zero_add, List.nil_append] at hown'; obtain ⟨g', cap', rfl⟩ := ownsRow_succ hown'; have hg' := Lib.hid hat; clear hat; rw [HJ.out]; clear zj1 zj2; have hcj := (hown'.cellAt (j * 4 + 2) (by omega)).trans HC.out; have hfj := hown'.frozenAt (j * 4 + 2); have HO5 := Lib.hid hown'; clear hown')
        have hst := HO5.out.stored (j * 4 + 2) (.int .i64 b)
        have hge : g' = wr.heap.size := by have := hg'.out; simp [Value.ownBlock] at this; exact this
        have hL5 := HO.out.kept hgrow (.inr (by simp [Value.ownBlock]))
        have hL6 := ownsRow_setCell_other hL5 (a := ⟨g', j * 4 + 2, none⟩) (by simp [Value.ownBlock]; omega) (.int .i64 b)
        have hB5 := hB.grown hgrow hB.size (fun k e => by simp [Value.ownBlock] at e)
        have hB6 := hB5.setCell (p := ⟨g', j * 4 + 2, none⟩) (by have := hB.size; simp; omega) (.int .i64 b)
        have hBW := hB1.trans (hB6.mono hB1.size)
        have hM := hst.1
        rw [← cellsOf_modify _ j b (by rw [mkSpots_length]; exact hjq)] at hM
        clear hst hL5 hB5 hB6 hcj hfj HO5 hgrow hnews hone HL HC HJ hg'
        clear HO hge
        generalize w5.setCell ⟨g', j * 4 + 2, none⟩ (.int .i64 b) = w6 at *
        have hRL := Rd.of_owns hL6
        have hRM := Rd.of_owns hM
        clear hL6 hM
        have m1 := Lib.hid (moved_a a b q j hjq)
        have m2 := Lib.hid (moved_b a b q j hjq)
        have m3 : Hid (recs a (mkSpots a (q + 1)) = (q + 1 + 2) / 3) := recs_mk a (q + 1) (by omega)
        have n1 : ((flt a (mkSpots a (q + 1))).length : Int) = (q : Int) + 1 := by rw [flt_mk, mkSpots_length]; rfl
        refine (count_at (q + 1) cap _ a (mkSpots a (q + 1)) (mkSpots_length _ _) (by omega) w6 hRL).mono ?_
        rintro e w7 ⟨rfl, hB7⟩
        rw [n1]
        clear n1
        replace hRL := (hRL.below hB7 (Nat.le_refl _)).up hB7.size
        replace hRM := (hRM.below hB7 (Nat.le_refl _)).up hB7.size
        replace hBW := hBW.trans (hB7.mono hBW.size)
        clear hB7
        go_wp2_with fail
        refine (count_at (q + 1) cap' _ a (movedTo (mkSpots a (q + 1)) j b) (by rw [moved_length, mkSpots_length]) (by omega) w7 hRM).mono ?_
        rintro e w8 ⟨rfl, hB8⟩
        replace hRL := (hRL.below hB8 (Nat.le_refl _)).up hB8.size
        replace hRM := (hRM.below hB8 (Nat.le_refl _)).up hB8.size
        replace hBW := hBW.trans (hB8.mono hBW.size)
        clear hB8
        rw [m1.out, hab]
        simp only [cond_true, cond_false]
        go_wp2_with fail
        refine (count_at (q + 1) cap' _ b (movedTo (mkSpots a (q + 1)) j b) (by rw [moved_length, mkSpots_length]) (by omega) w8 hRM).mono ?_
        rintro e w9 ⟨rfl, hB9⟩
        replace hRL := (hRL.below hB9 (Nat.le_refl _)).up hB9.size
        replace hBW := hBW.trans (hB9.mono hBW.size)
        clear hB9 hRM
        rw [m2.out, hab]
        simp only [cond_true, cond_false]
        go_wp2_with fail
        refine (records_at (q + 1) cap _ a (mkSpots a (q + 1)) (mkSpots_length _ _) (by omega) w9 hRL).mono ?_
        rintro e w10 ⟨rfl, hB10⟩
        rw [m3.out]
        go_wp2
        go_ret
        refine ⟨?_, hBW.trans (hB10.mono hBW.size)⟩
        congr 2
end Go.Proofs.Ytnbnkmpmkpillaa
