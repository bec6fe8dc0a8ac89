/- The reference's Read. -/
import Derived.Test.YtoaegleieacokaaGreatSheetRead
import Derived.Test.YtoaegleieacokaaGreatRefGet
namespace Go.Proofs.YtoaegleieacokaaGreat
open Go.RowKit Go.Shelf

theorem refget_at (r : List UInt8) (hr : r.length ≤ 1099511627776) (n k e : Int) (h : getL r = (n, k, e)) (w : World) :
    Calls Tryz.prog 45 #[.string ⟨r.toArray⟩] w fun x w' => x = .returned (.tuple #[.int .i64 n, .int .i64 k, .int .i64 e]) ∧ Below w.heap.size w w' := by
  have := refget_calls ⟨r.toArray⟩ (by rw [ba_size]; exact hr) w
  simp only [h] at this
  exact this

set_option maxRecDepth 100000 in
set_option maxHeartbeats 1000000 in
theorem refread_ok (l : List Int) (hl : isL l = true) (w : World) :
    Calls Tryz.prog 23 #[.string ⟨(bytesL l).toArray⟩] w fun e w' => ∃ v, e = .returned (.tuple #[v, .bool true]) ∧ w'.ownsRow w.heap.size 3 1 v l.length (l.map (Value.int .i64)) ∧ Below w.heap.size w w' := by
  obtain ⟨i0, hi, hz0, hz1, hz2⟩ := info_parts infoInt
  have hS := isL_sheet hl
  have hbl := bytesL_len hS
  obtain ⟨hall, hpos, hle⟩ := hS
  have hlen4 : (bytesL l).length = 4 + (bodyL l).length := by rw [bytesL, List.length_append, fixedL_len]
  have e1 := ba_drop (bytesL l) 4
  have d4 := bytesL_drop l
  rw [d4] at e1
  have hbp : bodyL l = putL l.length ++ restL l 0 := by simp [bodyL, bodyOf, restL]
  have hbpl : (bodyL l).length = (putL l.length).length + (restL l 0).length := by rw [hbp, List.length_append]
  have g1 := get_put l.length (restL l 0) (by omega)
  rw [← hbp] at g1
  have dp : (bytesL l).drop (4 + (putL l.length).length) = restL l 0 := by rw [← List.drop_drop, d4, hbp, List.drop_left]
  have hpp := putL_pos l.length
  have hisH := Lib.hid hl
  have DP := Lib.hid dp
  have hcall := refget_at (bodyL l) (by omega) _ _ _ g1 w
  clear g1 hbp d4 dp
  have hDR : Hid (∀ a, (⟨(bytesL l).toArray⟩ : ByteArray).extract a (bytesL l).length = ⟨((bytesL l).drop a).toArray⟩) := Lib.hid (ba_drop (bytesL l))
  generalize hpn : (putL l.length).length = pn at *
  generalize hN : (bytesL l).length = N at *
  generalize hM : (bodyL l).length = M at *
  have n1 : 4 < N := by omega
  have n1' : 4 ≤ N := by omega
  have n2 : N ≤ 2014 := by omega
  have hr0 : 4 + pn + (restL l 0).length = N := by omega
  have hr0' : (restL l 0).length ≤ 2014 := by omega
  have hfl := fun i => Nat.le_trans (flat_le l i) hr0'
  have HR0 := Lib.hid hr0
  clear hlen4 hbpl hpn hr0
  go_enter Tryz.func23, Tryz.ntmps23
  go_wp2_with fail
  refine hcall.mono ?_
  rintro e w1 ⟨rfl, hB1⟩
  have hwp : pn ≤ 2014 := by have := HR0.out; omega
  go_wp2_with fail
  go_loopw [7, 8, 9] (fun t o i wr => ∃ (k a : Nat), k ≤ l.length ∧ i = .int .i64 k ∧ t = .int .i64 a ∧ (bytesL l).drop a = restL l k ∧ a + (restL l k).length = N ∧ wr.ownsRow w.heap.size 3 1 o k ((l.take k).map (Value.int .i64)) ∧ Below w.heap.size w wr) (fun _ _ i _ => l.length - (intOf i).toNat)
  case atStart => exact ⟨0, 4 + pn, Nat.zero_le _, rfl, by simp, DP.out, HR0.out, World.ownsRow_nil _ _ _ _, hB1⟩
  case round =>
    obtain ⟨k, a, hk, rfl, rfl, hda, hal, hown, hB⟩ := hrel
    by_cases hlt : k < l.length
    · have hx := hall l[k] (List.getElem_mem hlt)
      have hrs := restL_succ l k hlt
      have g2 := get_put l[k].toNat (restL l (k + 1)) (by omega)
      rw [← hrs] at g2
      have htn : ((l[k].toNat : Nat) : Int) = l[k] := by omega
      rw [htn] at g2
      have hcall2 := refget_at (restL l k) (by have := hfl k; omega) _ _ _ g2 wr
      have e3 := hDR.out a
      rw [hda] at e3
      have hql : (restL l k).length = (putL l[k].toNat).length + (restL l (k + 1)).length := by rw [hrs, List.length_append]
      have hdn : (bytesL l).drop (a + (putL l[k].toNat).length) = restL l (k + 1) := by rw [← List.drop_drop, hda, hrs, List.drop_left]
      have htk := Lib.hid (List.take_succ_eq_append_getElem hlt)
      generalize hq : (putL l[k].toNat).length = q at *
      have HDN := Lib.hid hdn
      have HAL : Hid (a + q + (restL l (k + 1)).length = N) := Lib.hid (by omega)
      have n5 : a ≤ N := by omega
      have n6 : q ≤ 2014 := by omega
      clear hrs g2 hql htn hq hda hal hdn
      generalize l[k] = x at *
      go_wp2_with fail
      refine hcall2.mono ?_
      clear hcall hcall2
      rintro e w2 ⟨rfl, hB2⟩
      have hown2 := owns_below hown hB2
      have hBw2 := hB.trans (hB2.mono hB.size)
      have hw2 := hBw2.size
      clear hown hB hB2
      go_wp2_with (at_builtin; refine wpList_append_own _ rfl _ _ 32 rfl w.heap.size 3 i0 _ 1 8 Tryz.underlying32 hi hz0 hz1 hz2 rfl (by decide) _ _ _ rfl (hown2.alloc _) ⟨w2.heap.size, 0, none⟩ 1 1 [.int .i64 x] rfl rfl (cell_one_new _ _ _) (by simp [Value.oneCell']) (by unfold maxLen; omega) (by omega) (by simp; omega) ?_; intro v' w5 hown' hgrow _)
      go_roundw
      case rel => exact ⟨k + 1, a + q, by omega, by simp, by simp, HDN.out, HAL.out, by rw [htk.out, List.map_append]; exact hown', below_append hBw2 hw2 hown2 hgrow⟩
      case measure => simp [intOf]; omega
    · obtain rfl : k = l.length := by omega
      rw [List.take_length] at hown
      obtain ⟨j, hj⟩ : ∃ j, l.length = j + 1 := ⟨l.length - 1, by omega⟩
      obtain ⟨g, cap, rfl⟩ := ownsRow_succ (by rw [hj] at hown; exact hown)
      have hin : ∀ W', Below wr.heap.size wr W' → Ints W' W'.heap.size (.slice (some ⟨g, 0, none⟩) l.length cap) l := by
        intro W' hb
        have h1 := Rd.of_owns (owns_below hown hb)
        rw [hj]
        rw [hj] at h1
        unfold Ints
        rw [hj]
        exact h1
      have hic := refis_calls (some ⟨g, 0, none⟩) cap l (by omega) wr (hin wr (Below.refl _ _))
      have hbc := fun W' hb => refbytes_calls (some ⟨g, 0, none⟩) cap l hisH.out W' (hin W' hb)
      rw [hisH.out] at hic
      rw [hj] at hic hbc
      clear hcall hin hfl
      go_wp2_with fail
      refine hic.mono ?_
      clear hic
      rintro e w3 ⟨rfl, hB3⟩
      go_wp2_with fail
      refine (hbc w3 hB3).mono ?_
      clear hbc
      rintro e w4 ⟨rfl, hB4⟩
      go_wp2
      go_ret2
      exact ⟨_, rfl, owns_below (owns_below hown hB3) hB4, (hB.trans (hB3.mono hB.size)).trans (hB4.mono (Nat.le_trans hB.size hB3.size))⟩

set_option maxRecDepth 100000 in
set_option maxHeartbeats 1000000 in
theorem refread_bad (S : List UInt8) (hSz : S.length ≤ 1000000) (hs : ∀ l, isL l = true → S ≠ bytesL l) (w : World) :
    Calls Tryz.prog 23 #[.string ⟨S.toArray⟩] w fun e w' => e = .returned (.tuple #[.slice none 0 0, .bool false]) ∧ Below w.heap.size w w' := by
  obtain ⟨i0, hi, hz0, hz1, hz2⟩ := info_parts infoInt
  by_cases hN4 : S.length < 4
  · clear hs
    generalize hNn : S.length = N at *
    go_enter Tryz.func23, Tryz.ntmps23
    go_wp2_with fail
    go_ret2
    exact ⟨rfl, Below.refl _ _⟩
  have e1 : (⟨S.toArray⟩ : ByteArray).extract 4 S.length = ⟨(S.drop 4).toArray⟩ := ba_drop S 4
  have hDR : Hid (∀ a, (⟨S.toArray⟩ : ByteArray).extract a S.length = ⟨(S.drop a).toArray⟩) := Lib.hid (ba_drop S)
  have hr0 : (S.drop 4).length = S.length - 4 := by rw [List.length_drop]
  generalize hr : S.drop 4 = r0 at *
  obtain ⟨g0, g1, g2, g3, g4⟩ := getL_ok r0
  obtain ⟨⟨m, kk, e⟩, hg⟩ : ∃ t, getL r0 = t := ⟨_, rfl⟩
  rw [hg] at g0 g1 g2 g3 g4
  simp only at g0 g1 g2 g3 g4
  have hcall := refget_at r0 (by omega) m kk e hg w
  obtain ⟨p, rfl⟩ := Int.eq_ofNat_of_zero_le g2
  clear hr hg
  have HB : Hid (∀ l, isL l = true → ¬ S = bytesL l) := Lib.hid hs
  clear hs
  generalize hNn : S.length = N at *
  have hp4 : 4 + p ≤ N := by omega
  clear hr0 g3
  by_cases he0 : ¬ e = 0
  · go_enter Tryz.func23, Tryz.ntmps23
    go_wp2_with fail
    refine hcall.mono ?_
    clear hcall
    rintro x w1 ⟨rfl, hB1⟩
    go_wp2_with fail
    go_ret2
    exact ⟨rfl, hB1⟩
  obtain rfl : e = 0 := by omega
  by_cases hm : 200 < m
  · go_enter Tryz.func23, Tryz.ntmps23
    go_wp2_with fail
    refine hcall.mono ?_
    clear hcall
    rintro x w1 ⟨rfl, hB1⟩
    go_wp2_with fail
    go_ret2
    exact ⟨rfl, hB1⟩
  go_enter Tryz.func23, Tryz.ntmps23
  go_wp2_with fail
  refine hcall.mono ?_
  clear hcall
  rintro x w1 ⟨rfl, hB1⟩
  go_wp2_with fail
  go_loopw [7, 8, 9] (fun t o i wr => ∃ (k a : Nat) (out : List Int), (k : Int) ≤ m ∧ i = .int .i64 k ∧ t = .int .i64 a ∧ a ≤ N ∧ out.length = k ∧ wr.ownsRow w.heap.size 3 1 o k (out.map (Value.int .i64)) ∧ Below w.heap.size w wr) (fun _ _ i _ => m.toNat - (intOf i).toNat)
  case atStart => exact ⟨0, 4 + p, [], by omega, rfl, by simp, hp4, rfl, World.ownsRow_nil _ _ _ _, hB1⟩
  case round =>
    obtain ⟨k, a, out, hk, rfl, rfl, haN, hout, hown, hB⟩ := hrel
    by_cases hgo : (k : Int) < m
    · have e3 := hDR.out a
      have hrl : (S.drop a).length = N - a := by rw [List.length_drop, hNn]
      obtain ⟨q0, q1, q2, q3, q4⟩ := getL_ok (S.drop a)
      obtain ⟨⟨x, kk, e⟩, hg⟩ : ∃ t, getL (S.drop a) = t := ⟨_, rfl⟩
      rw [hg] at q0 q1 q2 q3 q4
      simp only at q0 q1 q2 q3 q4
      have hcall2 := refget_at (S.drop a) (by omega) x kk e hg wr
      obtain ⟨q, rfl⟩ := Int.eq_ofNat_of_zero_le q2
      have haq : a + q ≤ N := by omega
      clear hg hrl q3
      generalize S.drop a = r2 at *
      by_cases he0 : e = 0
      · subst he0
        go_wp2_with fail
        refine hcall2.mono ?_
        clear hcall2
        rintro e w2 ⟨rfl, hB2⟩
        have hown2 := owns_below hown hB2
        have hBw2 := hB.trans (hB2.mono hB.size)
        have hw2 := hBw2.size
        clear hown hB hB2
        go_wp2_with (at_builtin; refine wpList_append_own _ rfl _ _ 32 rfl w.heap.size 3 i0 _ 1 8 Tryz.underlying32 hi hz0 hz1 hz2 rfl (by decide) _ _ _ rfl (hown2.alloc _) ⟨w2.heap.size, 0, none⟩ 1 1 [.int .i64 x] rfl rfl (cell_one_new _ _ _) (by simp [Value.oneCell']) (by unfold maxLen; omega) (by omega) (by simp; omega) ?_; intro v' w5 hown' hgrow _)
        go_roundw
        case rel => exact ⟨k + 1, a + q, out ++ [x], by omega, by simp, by simp, haq, by simp [hout], by rw [List.map_append]; exact hown', below_append hBw2 hw2 hown2 hgrow⟩
        case measure => simp [intOf]; omega
      · go_wp2_with fail
        refine hcall2.mono ?_
        clear hcall2
        rintro x w2 ⟨rfl, hB2⟩
        go_wp2_with fail
        go_ret2
        exact ⟨rfl, hB.trans (hB2.mono hB.size)⟩
    · obtain ⟨a9, c9, rfl⟩ := Rd.val (Rd.of_owns hown)
      have hin : ∀ W', Below wr.heap.size wr W' → Ints W' W'.heap.size (.slice a9 out.length c9) out := by
        intro W' hb
        have h1 := Rd.of_owns (owns_below hown hb)
        rw [← hout] at h1
        exact h1
      have hic := refis_calls a9 c9 out (by omega) wr (hin wr (Below.refl _ _))
      have HX := HB.out out
      clear HB
      cases hIs : isL out with
      | false =>
        rw [hIs, hout] at hic
        go_wp2_with fail
        refine hic.mono ?_
        clear hic
        rintro x w3 ⟨rfl, hB3⟩
        go_wp2_with fail
        go_ret2
        exact ⟨rfl, hB.trans (hB3.mono hB.size)⟩
      | true =>
        have hbc := fun W' hb => refbytes_calls a9 c9 out hIs W' (hin W' hb)
        rw [hIs, hout] at hic
        rw [hout] at hbc
        replace HX := HX hIs
        have hxe : (bytesL out == S) = false := by simp only [beq_eq_false_iff_ne]; exact fun e => HX e.symm
        clear hin
        go_wp2_with fail
        refine hic.mono ?_
        clear hic
        rintro x w3 ⟨rfl, hB3⟩
        go_wp2_with fail
        refine (hbc w3 hB3).mono ?_
        clear hbc
        rintro x w4 ⟨rfl, hB4⟩
        go_wp2
        go_ret2
        exact ⟨rfl, (hB.trans (hB3.mono hB.size)).trans (hB4.mono (Nat.le_trans hB.size hB3.size))⟩
end Go.Proofs.YtoaegleieacokaaGreat
