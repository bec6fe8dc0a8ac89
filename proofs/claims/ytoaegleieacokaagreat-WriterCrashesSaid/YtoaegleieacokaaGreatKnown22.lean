/- ladelaw22.known answers true; ladelaw22.same. -/
import Derived.Test.YtoaegleieacokaaGreatWrImgM
import Derived.Test.YtoaegleieacokaaGreatKnown9
namespace Go.Proofs.YtoaegleieacokaaGreat
open Go.RowKit Go.Shelf

set_option maxRecDepth 100000 in
set_option maxHeartbeats 2000000 in
theorem wsame_calls (a0 : Option Addr) (c0 : Nat) (l : List Int) (a1 : Option Addr) (c1 : Nat) (m : List Int) (hl : l.length ≤ 1000000) (hm : m.length ≤ 1000000) (w : World) (h0 : Ints w w.heap.size (.slice a0 l.length c0) l) (h1 : Ints w w.heap.size (.slice a1 m.length c1) m) :
    Calls Tryz.prog 15 #[.slice a0 l.length c0, .slice a1 m.length c1] w fun e w' => e = .returned (.bool (decide (l = m))) ∧ Below w.heap.size w w' := by
  go_enter Tryz.func15, Tryz.ntmps15
  by_cases hlen : l.length = m.length
  · go_wp2
    go_loopw [5] (fun i wr => ∃ k : Nat, k ≤ l.length ∧ i = .int .i64 k ∧ l.take k = m.take k ∧ Below w.heap.size w wr) (fun i _ => l.length - (intOf i).toNat)
    case atStart => exact ⟨0, Nat.zero_le _, rfl, by simp, Below.refl _ _⟩
    case round =>
      obtain ⟨k, hk, rfl, he, hB⟩ := hrel
      by_cases hlt : k < l.length
      · have hlt' : k < m.length := by omega
        obtain ⟨b, off, rfl, hb, hcs⟩ := (h0.below hB (Nat.le_refl _)).cell (by omega)
        obtain ⟨b', off', rfl, hb', hcs'⟩ := (h1.below hB (Nat.le_refl _)).cell (by omega)
        have d0 := hcs k hlt
        have d1 := hcs' k hlt'
        have hnx : l[k] = m[k] → l.take (k + 1) = m.take (k + 1) := fun e => by rw [List.take_succ_eq_append_getElem hlt, List.take_succ_eq_append_getElem hlt', he, e]
        have hne : ¬ l[k] = m[k] → decide (l = m) = false := fun e => by simp only [decide_eq_false_iff_not]; intro e2; subst e2; exact e rfl
        have HN := Lib.hid hnx
        have HE := Lib.hid hne
        have Hl := Lib.hid hlen
        have hk2 : (k : Int) < (m.length : Int) := by omega
        clear hcs hcs' hnx hne he h0 h1 hlen
        generalize l[k] = x at *
        generalize m[k] = y at *
        by_cases hxy : x = y
        · subst hxy
          go_wp2
          go_quiet (fail)
          go_wp2
          go_roundw
          case rel => exact ⟨k + 1, by omega, by simp, by first | exact HN.out rfl | exact HN.out trivial, below_drewN hB _⟩
          case measure => simp [intOf]; omega
        · have hd : (x != y) = true := by simp [hxy]
          go_wp2
          go_quiet (fail)
          go_wp2
          go_ret
          exact ⟨by rw [HE.out hxy]; rfl, below_drewN hB _⟩
      · obtain rfl : k = l.length := by omega
        have hfin : decide (l = m) = true := by
          rw [List.take_of_length_le (Nat.le_refl _), List.take_of_length_le (by omega)] at he
          simpa using he
        go_wp2
        go_ret
        exact ⟨by rw [hfin]; rfl, hB⟩
  · have hne : decide (l = m) = false := by simp only [decide_eq_false_iff_not]; intro e; exact hlen (by rw [e])
    have hd : ((l.length : Int) != (m.length : Int)) = true := by simp; omega
    go_wp2
    go_ret
    exact ⟨by rw [hne]; rfl, Below.refl _ _⟩
theorem uns_new (r : Int) : Uns 0 (newDS r) := ⟨fit_new r, by show (-1 : Int) < 0; decide⟩
theorem read_u {N : Int} {s : DS} (h : Uns N s) {nm : ByteArray} {f : F} (hf : fk s.l nm = some f) : readOf s nm = (f.b, 0) := by
  unfold readOf
  rw [on_there h hf, if_neg (by decide), hf]
  rfl
theorem read_no {N : Int} {s : DS} (h : Uns N s) {nm : ByteArray} (hf : fk s.l nm = none) : readOf s nm = (⟨#[]⟩, 19) := by
  unfold readOf
  rw [(on_absent h hf).2, if_pos (by decide)]
set_option maxRecDepth 100000 in
set_option maxHeartbeats 2000000 in
theorem known22_calls (w : World) : Calls Tryz.prog 5 #[] w fun e w' => e = .returned (.bool true) ∧ Below w.heap.size w w' := by
  obtain ⟨s1, e1, u1, r1, n1, g1, z1, o1⟩ := mk_u (uns_new 100000) (by simp [newDS]) (by decide)
  obtain ⟨e, s2, e2, u2, r2, n2, o2, x2⟩ := img_app u1 (cs := []) g1 (by simp) ⟨#[97, 98, 99]⟩
  have hz0 : used (newDS 100000).l = 0 := rfl
  have hr0 : (newDS 100000).room = 100000 := by decide
  have hs3 : (⟨#[97, 98, 99]⟩ : ByteArray).size = 3 := rfl
  rcases x2 with ⟨rfl, g2, z2, _⟩ | ⟨_, _, bad⟩
  rotate_left
  · omega
  obtain ⟨kp, f1⟩ := Img.last (cs := []) g2
  have nm1 : nameB (1 + ([] : List ByteArray).length) = nameB 1 := rfl
  rw [nm1] at e2 o2 f1
  have i1 : lastI [1] = 1 := rfl
  have i2 : idN 1 = 1 := rfl
  have i3 : lastI [2] = 2 := rfl
  have i4 : idN 2 = 2 := rfl
  have rd1 := read_u u2 f1
  have sz1 : (headB (1 + ([] : List ByteArray).length) ++ ((⟨#[]⟩ : ByteArray) ++ ⟨#[97, 98, 99]⟩)).size = 19 := by
    rw [app_size, headB_size, empty_app]
    rfl
  have rd2 : readOf s2 (nameB 2) = (⟨#[]⟩, 19) := read_no u2 (by
    rw [o2 _ (nameB_ne (by decide) (by decide) (by decide))]
    exact o1 _ (nameB_ne (by decide) (by decide) (by decide)) (nameB_sheet _).symm rfl)
  obtain ⟨sy1, sy2, _⟩ := sync_u u2 f1
  generalize hB3 : headB (1 + ([] : List ByteArray).length) ++ ((⟨#[]⟩ : ByteArray) ++ ⟨#[97, 98, 99]⟩) = B3 at *
  simp only at rd1
  have hnil : isL [] = false := by decide
  have h1 : isL [1] = true := by decide
  have h2 : isL [2] = true := by decide
  go_enter Tryz.func5, Tryz.ntmps5
  go_wp2_with fail
  refine (new_dk 100000 (Below.refl w.heap.size w) (Nat.le_refl _)).mono ?_
  rintro x w1 ⟨D, rfl, M, hd⟩
  go_wp2_with fail
  refine (make_dk (X := []) (fit_new 100000) (by decide) 0 e1 (by simp) hd).mono ?_
  clear hd
  rintro x w2 ⟨B, rfl, hk⟩
  rw [show limN 0 = 2100 from rfl] at hk
  go_wp2_with fail
  refine (wlimit_wk hk).mono ?_
  rintro x w3 ⟨rfl, rfl⟩
  go_wp2_with fail
  refine (wsize_wk hk).mono ?_
  rintro x w3 ⟨rfl, rfl⟩
  go_wp2_with fail
  refine (wsegs_wk (by simp) (by simp) hk).mono ?_
  rintro x w3 ⟨v3, rfl, ow3, hB3'⟩
  replace hk := hk.next hB3'
  have r3 := Rd.of_owns ow3
  obtain ⟨a3, c3, rfl⟩ := Rd.val r3
  have il := lit_ints w3 3 [1]
  have hB4 : Below w3.heap.size w3 (w3.alloc (.cells ([1].map (Value.int .i64)).toArray 3)) := (Below.refl _ w3).alloc (Nat.le_refl _) _
  have hsm := wsame_calls a3 c3 [1] _ _ [1] (by simp) (by simp) _ ((r3.below hB4 (Nat.le_refl _)).up hB4.size) il
  rw [decide_self] at hsm
  replace hk := hk.next hB4
  simp only [List.map_cons, List.map_nil, List.length_cons, List.length_nil] at hsm hk
  go_wp2_with fail
  refine hsm.mono ?_
  clear hsm il r3 ow3 hB4 hB3'
  rintro x w4 ⟨rfl, hB5⟩
  replace hk := hk.next hB5
  clear hB5
  go_wp2_with fail
  refine (write_in u1.fit (by decide) (by simp) (by simp) (by decide) (by decide) ⟨#[97, 98, 99]⟩ (by decide) (by decide) (by simp) (by decide) (e := 0) (s' := s2) (by rw [i1, i2]; exact e2) hk).mono ?_
  clear hk
  rw [i1, plc_ok, zAdd_ok, hs3]
  rintro x w5 ⟨rfl, hk, _⟩
  have bP := Blk.new w5 40 #[.int .i64 1, .int .i64 16]
  have hBp : Below w5.heap.size w5 (w5.alloc (.cells #[.int .i64 1, .int .i64 16] 40)) := (Below.refl _ w5).alloc (Nat.le_refl _) _
  replace hk := hk.next hBp
  clear hBp
  go_wp2_with fail
  refine (write_bad (B := B) ⟨#[]⟩ (.inl rfl) _).mono ?_
  rintro x w6 ⟨rfl, hB6⟩
  replace hk := hk.next hB6
  replace bP := bP.below hB6 bP.lt
  clear hB6
  have hBz : Below w6.heap.size w6 (w6.alloc (.cells #[.int .i64 0, .int .i64 0] 40)) := (Below.refl _ w6).alloc (Nat.le_refl _) _
  replace hk := hk.next hBz
  replace bP := bP.below hBz bP.lt
  clear hBz
  go_wp2_with fail
  generalize w6.alloc (.cells #[.int .i64 0, .int .i64 0] 40) = w6' at *
  refine (drop_one hk rfl).mono ?_
  rintro x w7 ⟨rfl, rfl⟩
  go_wp2_with fail
  have il := lit_ints w7 3 [1]
  have hB4 : Below w7.heap.size w7 (w7.alloc (.cells ([1].map (Value.int .i64)).toArray 3)) := (Below.refl _ w7).alloc (Nat.le_refl _) _
  replace hk := hk.next hB4
  replace bP := bP.below hB4 bP.lt
  have hon := on_ok 5000 _ _ (l := [1]) (by simp) h1 il (b := B3) (by rw [i1, i2]; exact rd1) (X := []) (by simp) hk.dk
  clear il hB4
  rw [sz1, show limN 5000 = 5000 from rfl] at hon
  simp only [List.map_cons, List.map_nil, List.length_cons, List.length_nil] at hon hk bP
  refine hon.mono ?_
  clear hon
  rintro x w8 ⟨B2, rfl, hk2, hB7⟩
  replace hk := hk.next hB7
  replace bP := bP.below hB7 bP.lt
  clear hB7
  go_wp2_with fail
  have il := lit_ints w8 3 [2]
  have hB4 : Below w8.heap.size w8 (w8.alloc (.cells ([2].map (Value.int .i64)).toArray 3)) := (Below.refl _ w8).alloc (Nat.le_refl _) _
  replace hk := hk.next hB4
  replace hk2 := hk2.next hB4
  replace bP := bP.below hB4 bP.lt
  have hon := on_err 5000 _ _ (l := [2]) (by simp) h2 il (b := ⟨#[]⟩) (e := 19) (by rw [i3, i4]; exact rd2) (by decide) hk.dk
  clear il hB4
  simp only [List.map_cons, List.map_nil, List.length_cons, List.length_nil] at hon hk hk2 bP
  refine hon.mono ?_
  clear hon
  rintro x w8b ⟨rfl, hB8⟩
  replace hk := hk.next hB8
  replace hk2 := hk2.next hB8
  replace bP := bP.below hB8 bP.lt
  clear hB8
  go_wp2_with fail
  refine (on_bad 5000 none 0 (l := []) (by simp) hnil (Rd.nil _ _ _)).mono ?_
  rintro x w9 ⟨rfl, hB9⟩
  replace hk := hk.next hB9
  replace hk2 := hk2.next hB9
  replace bP := bP.below hB9 bP.lt
  clear hB9
  have q0 : w9.cell? ⟨w5.heap.size, 0, none⟩ = some (.int .i64 1) := bP.cell 0
  have q1 : w9.cell? ⟨w5.heap.size, 1, none⟩ = some (.int .i64 16) := bP.cell 1
  have hnew := World.new_ne w9 _ q0
  go_wp2_with fail
  refine (wsize_wk hk2).mono ?_
  rintro x w10 ⟨rfl, rfl⟩
  go_wp2_with fail
  refine (wlimit_wk hk2).mono ?_
  rintro x w10 ⟨rfl, rfl⟩
  have hsy := wsync_wk u2.fit (by decide) (by simp) (by simp) hk
  rw [i1, i2, sy1] at hsy
  go_wp2_with fail
  refine hsy.mono ?_
  rintro x w11 ⟨rfl, hk, _⟩
  go_wp2
  go_ret
  exact ⟨rfl, hk.dk.below⟩
end Go.Proofs.YtoaegleieacokaaGreat
