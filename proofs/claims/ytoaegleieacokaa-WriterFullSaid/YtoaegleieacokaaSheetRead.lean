/- sheet.Read, the reference's Read; the law's same. -/
import Derived.Test.YtoaegleieacokaaGetPut
import Derived.Maps.AppendAt
namespace Go.Proofs.Ytoaegleieacokaa
open Go.RowKit Go.Shelf

theorem infoInt : (Try.prog.info? 3).map (fun i => (i.zero, i.size, i.bytes)) = some (some (.int .i64 0), 1, 8) := by kernel_rfl

set_option maxRecDepth 100000 in
set_option maxHeartbeats 2000000 in
theorem same_calls (a0 : Option Addr) (c0 : Nat) (l : List Int) (a1 : Option Addr) (c1 : Nat) (m : List Int) (hl : l.length ≤ 1000000) (hm : m.length ≤ 1000000) (w : World) (h0 : Ints w w.heap.size (.slice a0 l.length c0) l) (h1 : Ints w w.heap.size (.slice a1 m.length c1) m) :
    Calls Try.prog 29 #[.slice a0 l.length c0, .slice a1 m.length c1] w fun e w' => e = .returned (.bool (decide (l = m))) ∧ Below w.heap.size w w' := by
  go_enter Try.func29, Try.ntmps29
  by_cases hlen : l.length = m.length
  · go_wp2
    go_loopw [5] (fun i wr => ∃ k : Nat, k ≤ l.length ∧ i = .int .i64 k ∧ l.take k = m.take k ∧ Below w.heap.size w wr) (fun i _ => l.length - (intOf i).toNat)
    case atStart => exact ⟨0, Nat.zero_le _, rfl, by simp, Below.refl _ _⟩
    case round =>
      obtain ⟨k, hk, rfl, he, hB⟩ := hrel
      by_cases hlt : k < l.length
      · have hlt' : k < m.length := by omega
        obtain ⟨b, off, rfl, hb, hcs⟩ := (h0.below hB (Nat.le_refl _)).cell (by omega)
        obtain ⟨b', off', rfl, hb', hcs'⟩ := (h1.below hB (Nat.le_refl _)).cell (by omega)
        have d0 := hcs k hlt
        have d1 := hcs' k hlt'
        have hnx : l[k] = m[k] → l.take (k + 1) = m.take (k + 1) := fun e => by rw [List.take_succ_eq_append_getElem hlt, List.take_succ_eq_append_getElem hlt', he, e]
        have hne : ¬ l[k] = m[k] → decide (l = m) = false := fun e => by simp only [decide_eq_false_iff_not]; intro e2; subst e2; exact e rfl
        have HN := Lib.hid hnx
        have HE := Lib.hid hne
        have Hl := Lib.hid hlen
        have hk2 : (k : Int) < (m.length : Int) := by omega
        clear hcs hcs' hnx hne he h0 h1 hlen
        generalize l[k] = x at *
        generalize m[k] = y at *
        by_cases hxy : x = y
        · subst hxy
          go_wp2
          go_quiet (fail)
          go_wp2
          go_roundw
          case rel => exact ⟨k + 1, by omega, by simp, by first | exact HN.out rfl | exact HN.out trivial, below_drewN hB _⟩
          case measure => simp [intOf]; omega
        · have hd : (x != y) = true := by simp [hxy]
          go_wp2
          go_quiet (fail)
          go_wp2
          go_ret
          exact ⟨by rw [HE.out hxy]; rfl, below_drewN hB _⟩
      · obtain rfl : k = l.length := by omega
        have hfin : decide (l = m) = true := by
          rw [List.take_of_length_le (Nat.le_refl _), List.take_of_length_le (by omega)] at he
          simpa using he
        go_wp2
        go_ret
        exact ⟨by rw [hfin]; rfl, hB⟩
  · have hne : decide (l = m) = false := by simp only [decide_eq_false_iff_not]; intro e; exact hlen (by rw [e])
    have hd : ((l.length : Int) != (m.length : Int)) = true := by simp; omega
    go_wp2
    go_ret
    exact ⟨by rw [hne]; rfl, Below.refl _ _⟩

/-- What is left of a sheet's bytes behind i numbers. -/
def restL (l : List Int) (i : Nat) : List UInt8 := (l.drop i).flatMap fun x => putL x.toNat
theorem restL_succ (l : List Int) (i : Nat) (h : i < l.length) : restL l i = putL l[i].toNat ++ restL l (i + 1) := by
  unfold restL
  rw [List.drop_eq_getElem_cons h, List.flatMap_cons]
theorem flat_le (l : List Int) (i : Nat) : (restL l i).length ≤ (restL l 0).length := by
  unfold restL
  rw [List.drop_zero]
  conv => rhs; rw [← List.take_append_drop i l]
  rw [List.flatMap_append, List.length_append]
  omega
theorem bytesL_len {l : List Int} (h : IsSheet l) : (bytesL l).length ≤ 2014 := by
  have := bodyOf_len (n := l.length) (by have := h.le; omega) (l := l) (fun x hx => by have := h.all x hx; omega)
  have h2 := h.le
  rw [bytesL, List.length_append, fixedL_len, bodyL]
  omega
theorem len_map_int (l : List Int) : ((l.map (Value.int .i64))).length = l.length := List.length_map _

theorem get_at (r : List UInt8) (hr : r.length ≤ 1099511627776) (n k e : Int) (h : getL r = (n, k, e)) (w : World) :
    Calls Try.prog 72 #[.string ⟨r.toArray⟩] w fun x w' => x = .returned (.tuple #[.int .i64 n, .int .i64 k, .int .i64 e]) ∧ Below w.heap.size w w' := by
  have := get_calls ⟨r.toArray⟩ (by rw [ba_size]; exact hr) w
  simp only [h] at this
  exact this
theorem putL_pos (n : Nat) : 0 < (putL n).length := by
  rw [putL, List.length_map]
  exact List.length_pos_iff.2 (septs_ne n)
theorem restL_end (l : List Int) : restL l l.length = [] := by simp [restL]

set_option maxRecDepth 100000 in
set_option maxHeartbeats 400000 in
/-- A sheet's bytes are read as the sheet. -/
theorem read_ok (l : List Int) (hl : isL l = true) (w : World) :
    Calls Try.prog 30 #[.string ⟨(bytesL l).toArray⟩] w fun e w' => ∃ v, e = .returned (.tuple #[v, .int .i64 0]) ∧ w'.ownsRow w.heap.size 3 1 v l.length (l.map (Value.int .i64)) ∧ Below w.heap.size w w' := by
  obtain ⟨i0, hi, hz0, hz1, hz2⟩ := info_parts infoInt
  have hS := isL_sheet hl
  have hbl := bytesL_len hS
  obtain ⟨hall, hpos, hle⟩ := hS
  have hlen4 : (bytesL l).length = 4 + (bodyL l).length := by rw [bytesL, List.length_append, fixedL_len]
  have e1 := ba_drop (bytesL l) 4
  rw [bytesL_drop] at e1
  have hbp : bodyL l = putL l.length ++ restL l 0 := by simp [bodyL, bodyOf, restL]
  have hbpl : (bodyL l).length = (putL l.length).length + (restL l 0).length := by rw [hbp, List.length_append]
  have g1 := get_put l.length (restL l 0) (by omega)
  rw [← hbp] at g1
  have e2 := ba_drop (bodyL l) (putL l.length).length
  rw [show (bodyL l).drop (putL l.length).length = restL l 0 from by rw [hbp, List.drop_left]] at e2
  have hpp := putL_pos l.length
  have G1 := Lib.hid g1
  have hisH := Lib.hid hl
  have hbH := Lib.hid hbp
  clear g1 hbp
  have hcall := get_at (bodyL l) (by omega) _ _ _ G1.out w
  generalize hpn : (putL l.length).length = pn at *
  generalize hN : (bytesL l).length = N at *
  generalize hM : (bodyL l).length = M at *
  have n1 : 4 < N := by omega
  have n2 : N ≤ 2014 := by omega
  have n3 : pn ≤ M := by omega
  have n4 : M ≤ 2014 := by omega
  have hr0 : (restL l 0).length ≤ 2014 := by omega
  have hfl := fun i => Nat.le_trans (flat_le l i) hr0
  clear hlen4 hbpl hpn
  go_enter Try.func30, Try.ntmps30
  go_wp2_with fail
  refine hcall.mono ?_
  rintro e w1 ⟨rfl, hB1⟩
  go_wp2_with fail
  go_loopw [4, 5, 7, 8, 9] (fun o r kk ee i wr => ∃ k : Nat, k ≤ l.length ∧ i = .int .i64 k ∧ r = .string ⟨(restL l k).toArray⟩ ∧ ee = .int .i64 0 ∧ wr.ownsRow w.heap.size 3 1 o k ((l.take k).map (Value.int .i64)) ∧ Below w.heap.size w wr) (fun _ _ _ _ i _ => l.length - (intOf i).toNat)
  case atStart => exact ⟨0, Nat.zero_le _, rfl, rfl, rfl, World.ownsRow_nil _ _ _ _, hB1⟩
  case round =>
    obtain ⟨k, hk, rfl, rfl, rfl, hown, hB⟩ := hrel
    by_cases hlt : k < l.length
    · have hx := hall l[k] (List.getElem_mem hlt)
      have hrs := restL_succ l k hlt
      have g2 := get_put l[k].toNat (restL l (k + 1)) (by omega)
      rw [← hrs] at g2
      have htn : ((l[k].toNat : Nat) : Int) = l[k] := by omega
      rw [htn] at g2
      have hcall2 := get_at (restL l k) (by have := hfl k; omega) _ _ _ g2 wr
      have e3 := ba_drop (restL l k) (putL l[k].toNat).length
      have hql : (restL l k).length = (putL l[k].toNat).length + (restL l (k + 1)).length := by rw [hrs, List.length_append]
      rw [show (restL l k).drop (putL l[k].toNat).length = restL l (k + 1) from by rw [hrs, List.drop_left]] at e3
      have htk := Lib.hid (List.take_succ_eq_append_getElem hlt)
      have hfk := hfl k
      generalize hR : (restL l k).length = R at *
      generalize hq : (putL l[k].toNat).length = q at *
      have n5 : q ≤ R := by omega
      clear hrs g2 hql htn hq
      generalize l[k] = x at *
      go_wp2_with fail
      refine hcall2.mono ?_
      clear hcall hcall2
      rintro e w2 ⟨rfl, hB2⟩
      have hown2 := owns_below hown hB2
      have hBw2 := hB.trans (hB2.mono hB.size)
      have hw2 := hBw2.size
      clear hown hB hB2
      go_wp2_with (at_builtin; refine wpList_append_own _ rfl _ _ 22 rfl w.heap.size 3 i0 _ 1 8 Try.underlying22 hi hz0 hz1 hz2 rfl (by decide) _ _ _ rfl (hown2.alloc _) ⟨w2.heap.size, 0, none⟩ 1 1 [.int .i64 x] rfl rfl (cell_one_new _ _ _) (by simp [Value.oneCell']) (by unfold maxLen; omega) (by omega) (by simp; omega) ?_; intro v' w5 hown' hgrow _)
      go_roundw
      case rel => exact ⟨k + 1, by omega, by simp, rfl, rfl, by rw [htk.out, List.map_append]; exact hown', below_append hBw2 hw2 hown2 hgrow⟩
      case measure => simp [intOf]; omega
    · obtain rfl : k = l.length := by omega
      rw [List.take_length] at hown
      obtain ⟨j, hj⟩ : ∃ j, l.length = j + 1 := ⟨l.length - 1, by omega⟩
      obtain ⟨g, cap, rfl⟩ := ownsRow_succ (by rw [hj] at hown; exact hown)
      have hin : Ints wr wr.heap.size (.slice (some ⟨g, 0, none⟩) l.length cap) l := by
        have h1 := Rd.of_owns hown
        rw [hj]
        rw [hj] at h1
        unfold Ints
        rw [hj]
        exact h1
      have hbc := bytes_calls (some ⟨g, 0, none⟩) cap l (by omega) wr hin
      rw [hisH.out, if_pos rfl, if_pos rfl] at hbc
      rw [hj] at hbc
      clear hcall hin hfl
      go_wp2_with fail
      refine hbc.mono ?_
      clear hbc
      rintro e w3 ⟨rfl, hB3⟩
      go_wp2
      go_ret2
      exact ⟨_, rfl, owns_below hown hB3, hB.trans (hB3.mono hB.size)⟩

set_option maxRecDepth 100000 in
set_option maxHeartbeats 1000000 in
/-- Other bytes are no sheet. -/
theorem read_bad (S : List UInt8) (hSz : S.length ≤ 1000000) (hs : ∀ l, isL l = true → S ≠ bytesL l) (w : World) :
    Calls Try.prog 30 #[.string ⟨S.toArray⟩] w fun e w' => e = .returned (.tuple #[.slice none 0 0, .int .i64 21]) ∧ Below w.heap.size w w' := by
  obtain ⟨i0, hi, hz0, hz1, hz2⟩ := info_parts infoInt
  by_cases hN4 : S.length ≤ 4
  · have hcall : Calls Try.prog 72 #[.string ByteArray.empty] w fun x w' => x = .returned (.tuple #[.int .i64 0, .int .i64 0, .int .i64 10]) ∧ Below w.heap.size w w' := get_at [] (by simp) 0 0 10 rfl w
    clear hs
    generalize hNn : S.length = N at *
    go_enter Try.func30, Try.ntmps30
    go_wp2_with fail
    refine hcall.mono ?_
    clear hcall
    rintro x w1 ⟨rfl, hB1⟩
    have hbc := bytes_calls none 0 [] (by simp) w1 (Rd.nil _ _ _)
    rw [show isL [] = false from rfl, if_neg (by simp), if_neg (by simp)] at hbc
    go_wp2_with fail
    go_loop [4, 8] (fun o e => o = .slice none 0 0 ∧ e = .int .i64 10) (fun _ _ => 0)
    case atStart => exact ⟨rfl, rfl⟩
    case round =>
      obtain ⟨rfl, rfl⟩ := hrel
      go_wp2_with fail
      refine hbc.mono ?_
      rintro x w2 ⟨rfl, hB2⟩
      go_wp2
      go_ret2
      exact ⟨rfl, hB1.trans (hB2.mono hB1.size)⟩
  have e1 : (⟨S.toArray⟩ : ByteArray).extract 4 S.length = ⟨(S.drop 4).toArray⟩ := ba_drop S 4
  have hr0 : (S.drop 4).length ≤ S.length := by rw [List.length_drop]; omega
  generalize hr : S.drop 4 = r0 at *
  obtain ⟨g0, g1, g2, g3, g4⟩ := getL_ok r0
  obtain ⟨⟨m, kk, e⟩, hg⟩ : ∃ t, getL r0 = t := ⟨_, rfl⟩
  rw [hg] at g0 g1 g2 g3 g4
  simp only at g0 g1 g2 g3 g4
  have hcall := get_at r0 (by omega) m kk e hg w
  obtain ⟨p, rfl⟩ := Int.eq_ofNat_of_zero_le g2
  have e2 := ba_drop r0 p
  have hr1 : (r0.drop p).length ≤ S.length := by rw [List.length_drop]; omega
  generalize r0.drop p = r1 at *
  clear hr hg
  generalize hM : r0.length = M at *
  have HB : Hid (∀ l, isL l = true → ¬ S = bytesL l) := Lib.hid hs
  clear hs
  generalize hNn : S.length = N at *
  go_enter Try.func30, Try.ntmps30
  go_wp2_with fail
  refine hcall.mono ?_
  clear hcall
  rintro x w1 ⟨rfl, hB1⟩
  go_wp2_with fail
  go_loopw [4, 5, 7, 8, 9] (fun o r _ ee i wr => ∃ (k : Nat) (rr : List UInt8) (e' : Int) (out : List Int), k ≤ 200 ∧ i = .int .i64 k ∧ r = .string ⟨rr.toArray⟩ ∧ rr.length ≤ N ∧ ee = .int .i64 e' ∧ (e' = 0 ∨ e' = 10 ∨ e' = 11) ∧ out.length = k ∧ wr.ownsRow w.heap.size 3 1 o k (out.map (Value.int .i64)) ∧ Below w.heap.size w wr) (fun _ _ _ _ i _ => 200 - (intOf i).toNat)
  case atStart => exact ⟨0, r1, e, [], by omega, rfl, rfl, hr1, rfl, g4, rfl, World.ownsRow_nil _ _ _ _, hB1⟩
  case round =>
    obtain ⟨k, rr, e', out, hk, rfl, rfl, hrr, rfl, he', hout, hown, hB⟩ := hrel
    by_cases hgo : e' = 0 ∧ (k : Int) < m ∧ k < 200
    · obtain ⟨rfl, hkm, hk2⟩ := hgo
      obtain ⟨q0, q1, q2, q3, q4⟩ := getL_ok rr
      obtain ⟨⟨x, kk, e⟩, hg⟩ : ∃ t, getL rr = t := ⟨_, rfl⟩
      rw [hg] at q0 q1 q2 q3 q4
      simp only at q0 q1 q2 q3 q4
      have hcall2 := get_at rr (by omega) x kk e hg wr
      obtain ⟨q, rfl⟩ := Int.eq_ofNat_of_zero_le q2
      have e3 := ba_drop rr q
      have hr2 : (rr.drop q).length ≤ N := by rw [List.length_drop]; omega
      clear hg
      generalize rr.drop q = r2 at *
      generalize hR : rr.length = R at *
      go_wp2_with fail
      all_goals
        refine hcall2.mono ?_
        clear hcall2
        rintro e w2 ⟨rfl, hB2⟩
        have hown2 := owns_below hown hB2
        have hBw2 := hB.trans (hB2.mono hB.size)
        have hw2 := hBw2.size
        clear hown hB hB2
        go_wp2_with (at_builtin; refine wpList_append_own _ rfl _ _ 22 rfl w.heap.size 3 i0 _ 1 8 Try.underlying22 hi hz0 hz1 hz2 rfl (by decide) _ _ _ rfl (hown2.alloc _) ⟨w2.heap.size, 0, none⟩ 1 1 [.int .i64 x] rfl rfl (cell_one_new _ _ _) (by simp [Value.oneCell']) (by unfold maxLen; omega) (by omega) (by simp; omega) ?_; intro v' w5 hown' hgrow _)
        go_roundw
        case rel => exact ⟨k + 1, r2, _, out ++ [x], by omega, by simp, rfl, hr2, rfl, q4, by simp [hout], by rw [List.map_append]; exact hown', below_append hBw2 hw2 hown2 hgrow⟩
        case measure => simp [intOf]; omega
    · obtain ⟨a9, c9, rfl⟩ := Rd.val (Rd.of_owns hown)
      have hin : Ints wr wr.heap.size (.slice a9 out.length c9) out := by
        have h1 := Rd.of_owns hown
        rw [← hout] at h1
        exact h1
      have hbc := bytes_calls a9 c9 out (by omega) wr hin
      rw [hout] at hbc
      clear hin
      have HX := HB.out out
      clear HB
      cases hIs : isL out with
      | false =>
        rw [hIs, if_neg (by simp), if_neg (by simp)] at hbc
        rcases he' with rfl | rfl | rfl
        · have hc : m ≤ (k : Int) ∨ (200 : Int) ≤ (k : Int) := by
            rcases Int.lt_or_le (k : Int) m with h | h
            · right
              have : ¬ k < 200 := fun h2 => hgo ⟨rfl, h, h2⟩
              omega
            · exact .inl h
          clear hgo
          rcases hc with hc | hc
          all_goals
            go_wp2_with fail
            all_goals
              refine hbc.mono ?_
              clear hbc
              rintro x w3 ⟨rfl, hB3⟩
              go_wp2
              go_ret2
              exact ⟨rfl, hB.trans (hB3.mono hB.size)⟩
        all_goals
          clear hgo
          go_wp2_with fail
          refine hbc.mono ?_
          clear hbc
          rintro x w3 ⟨rfl, hB3⟩
          go_wp2
          go_ret2
          exact ⟨rfl, hB.trans (hB3.mono hB.size)⟩
      | true =>
        rw [hIs, if_pos rfl, if_pos rfl] at hbc
        replace HX := HX hIs
        have hxe : (bytesL out == S) = false := by simp only [beq_eq_false_iff_ne]; exact fun e => HX e.symm
        rcases he' with rfl | rfl | rfl
        · have hc : m ≤ (k : Int) ∨ (200 : Int) ≤ (k : Int) := by
            rcases Int.lt_or_le (k : Int) m with h | h
            · right
              have : ¬ k < 200 := fun h2 => hgo ⟨rfl, h, h2⟩
              omega
            · exact .inl h
          clear hgo
          rcases hc with hc | hc
          all_goals
            go_wp2_with fail
            all_goals
              refine hbc.mono ?_
              clear hbc
              rintro x w3 ⟨rfl, hB3⟩
              go_wp2
              go_ret2
              exact ⟨rfl, hB.trans (hB3.mono hB.size)⟩
        all_goals
          clear hgo
          go_wp2_with fail
          refine hbc.mono ?_
          clear hbc
          rintro x w3 ⟨rfl, hB3⟩
          go_wp2
          go_ret2
          exact ⟨rfl, hB.trans (hB3.mono hB.size)⟩
end Go.Proofs.Ytoaegleieacokaa
