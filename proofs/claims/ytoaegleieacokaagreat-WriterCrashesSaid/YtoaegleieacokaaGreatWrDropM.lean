/- writer.Drop: the first of several goes. Drop, Sync, On of a writer whose files are known. -/
import Derived.Test.YtoaegleieacokaaGreatWrOn
import Derived.Deep.RegionHeld3
import Derived.Test.YtoaegleieacokaaGreatRiseM
namespace Go.Proofs.YtoaegleieacokaaGreat
open Go.RowKit Go.Shelf

section
variable {n : Nat} {W : World} {D M B : Nat} {X : List Nat} {s : DS} {lim size : Int} {w : World}
set_option maxRecDepth 100000 in
set_option maxHeartbeats 2000000 in
theorem drop_ok {N : Int} (hf : s.Fit N) (hN : N < 4611686018427360000) (x : Int) (rest : List Int) (hL : isL rest = true) {s1 s2 : DS} (hs : s.save (sheetB rest) = (0, s1)) (hr : s1.remove (nameB (idN x)) = (0, s2)) (h : Wk n W D M B X s lim (x :: rest) size w) :
    Calls Tryz.prog 13 #[.pointer (some ⟨B, 0, none⟩)] w fun e w' => e = .returned (.tuple #[.int .i64 x, .int .i64 0]) ∧ Wk n W D M B X s2 lim rest size w' ∧ Chg [B, D, M] w w' := by
  have hpos := (isL_sheet hL).pos
  have hle : rest.length ≤ 200 := (isL_sheet hL).le
  have hf1 := fit_save hf (sheetB rest)
  rw [hs] at hf1
  have hf2 := fit_remove hf1 (nameB (idN x))
  rw [hr] at hf2
  have hfok : s2.Ok := hf2.ok (by omega)
  obtain ⟨v, h1, a, c, rfl, hcap, hcs⟩ := h.wr
  obtain ⟨b, off, rfl, hb, hX, hcs⟩ := hcs (by simp)
  simp only [List.length_cons] at h1 hcap hcs
  have q2 : w.cell? ⟨B, 2, none⟩ = some (.slice (some ⟨b, off, none⟩) (rest.length + 1) c) := h1.cell 2
  have q3 : w.cell? ⟨b, off, none⟩ = some (.int .i64 x) := hcs 0 (by omega)
  have hBl := h1.lt
  have hI : ∀ W', Below w.heap.size w W' → Ints W' W'.heap.size (.slice (some ⟨b, off + 1, none⟩) rest.length (c - 1)) rest := fun W' hb' => by
    refine ⟨by simp, _, _, rfl, by omega, fun _ => ⟨b, off + 1, rfl, Nat.lt_of_lt_of_le hb hb'.size, fun j hj => ?_⟩⟩
    have := hcs (j + 1) (by omega)
    rw [Nat.add_right_comm, Nat.add_assoc]
    refine (hb'.cell (p := ⟨b, off + (j + 1), none⟩) hb).trans (this.trans ?_)
    simp [show j < rest.length by omega]
  have HCL := Lib.hid fun (w' : World) (v : Value) (hv' : Ints w' w'.heap.size v rest) => clone_calls rest hpos (by omega) v w' hv'
  have hB0 := Below.refl w.heap.size w
  have z0 : (1 : Int) ≤ (rest.length : Int) + 1 := by omega
  have z1 : ¬ rest.length + 1 < 2 := by omega
  have z2 : ¬ (rest.length : Int) + 1 < 2 := by omega
  have z3 : ¬ c = 1 := by omega
  clear hcs
  go_enter Tryz.func13, Tryz.ntmps13
  go_wp2_with fail
  go_region_held3 (fun w' => w'.cell? ⟨B, 2, none⟩ = some (.slice (some ⟨b, off, none⟩) (rest.length + 1) c) ∧ w'.cell? ⟨b, off, none⟩ = some (.int .i64 x) ∧ Bx (Below w.heap.size w w'))
    (first | exact ⟨q2, q3, ⟨hB0.drew⟩⟩ | exact ⟨kept_cell (w := w.drew) hB5 ⟨hB0.drew⟩ (Nat.le_refl _) hBl q2, kept_cell (w := w.drew) hB5 ⟨hB0.drew⟩ (Nat.le_refl _) hb q3, kept_below (w := w.drew) hB5 ⟨hB0.drew⟩ (Nat.le_refl _)⟩ | go_keep)
    (first | (go_at_call 38; refine (HCL.out _ _ (hI _ hB0.drew)).mono ?_; rintro e w5 ⟨v5, rfl, hown5, hB5⟩; obtain ⟨a5, c5, rfl⟩ := Rd.val (Rd.of_owns hown5)))
  have hBx := (kept_below (w := w.drew) hB5 ⟨hB0.drew⟩ (Nat.le_refl _)).h
  have h5 := h.next hBx
  have hn := h.dk.size
  have hDl := h.dk.at'.blk.lt
  have hMl := h.dk.at'.map.lt
  have hRx : Rx w5 (B :: D :: M :: X) (.slice a5 rest.length c5) rest := Rx.of_owns hown5 (by
    intro y hy
    have hz : w.drew.heap.size = w.heap.size := rfl
    simp only [List.mem_cons] at hy
    rcases hy with rfl | rfl | rfl | hy
    · omega
    · omega
    · omega
    · have := h.hX y hy; omega)
  have h1' := h1.below hBx hBl
  have q0 : w5.cell? ⟨B, 0, none⟩ = some (.pointer (some ⟨D, 0, none⟩)) := h1'.cell 0
  have hsv := save_dk hf (by omega) a5 c5 rest hL hRx.ints h5.dk
  rw [show (⟨(bytesL rest).toArray⟩ : ByteArray) = sheetB rest from rfl, hs] at hsv
  go_wp2_with fail
  refine hsv.mono ?_
  clear hsv
  rintro e w6 ⟨rfl, h6, hC6⟩
  have hRx6 := hRx.chg hC6 (by simp)
  have h1'' : Blk w6 B 69 _ := (hC6.block B h1'.lt (by simp; exact h.ne)).trans h1'
  have q6 : w6.cell? ⟨B, 2, none⟩ = some (.slice (some ⟨b, off, none⟩) (rest.length + 1) c) := h1''.cell 2
  have f6 := h1''.frozen 2
  have hC06 : Chg [B, D, M] w w6 := (Chg.of_below hBx).trans (hC6.more (by simp))
  clear hs hRx h1' q0 hBx hC6 h5 hown5 hB5
  go_wp2_with fail
  have hst := h1''.set 2 (.slice a5 rest.length c5)
  have hCB : Chg [B] w6 (w6.setCell ⟨B, 2, none⟩ (.slice a5 rest.length c5)) := Chg.setCell (p := ⟨B, 2, none⟩) (by simp) _
  have hk7 : Wk n W D M B X s1 lim rest size (w6.setCell ⟨B, 2, none⟩ (.slice a5 rest.length c5)) :=
    ⟨⟨h6.at'.chg hCB (by simp; exact h.ne.1.symm) (by simp; exact h.ne.2.symm), h6.below.trans (hCB.below h6.size (by simp; exact h.hB)), h6.hD, h6.hM, h6.ok⟩, h.hB, h.ne, h.old (Nat.le_trans hC06.size hCB.size), _, hst, hRx6.chg hCB (by simp)⟩
  have q0 : (w6.setCell ⟨B, 2, none⟩ (.slice a5 rest.length c5)).cell? ⟨B, 0, none⟩ = some (.pointer (some ⟨D, 0, none⟩)) := hst.cell 0
  have hC07 := hC06.trans (hCB.more (cs := [B, D, M]) (by simp))
  clear hst hCB h1'' hRx6 q6 f6 hC06 h6
  generalize w6.setCell ⟨B, 2, none⟩ (.slice a5 rest.length c5) = w7 at *
  have hBl7 := hk7.lt
  have hnm := fun w' => name_calls x w'
  have hB7 := Below.refl w7.heap.size w7
  have hBne : B ∉ [D, M] := by simp; exact h.ne
  have hCd : Chg [D, M] w7 w7.drew := Chg.of_below hB7.drew
  generalize nameB (idN x) = nm at *
  go_region_held3 (fun w' => w'.cell? ⟨B, 0, none⟩ = some (.pointer (some ⟨D, 0, none⟩)))
    (first | exact q0 | exact (hB8.cell (p := ⟨B, 0, none⟩) hBl7).trans q0 | exact hC9.cell hBne (Nat.lt_of_lt_of_le hBl7 hB8.size) ((hB8.cell (p := ⟨B, 0, none⟩) hBl7).trans q0) | go_keep)
    (first | (go_at_call 35; refine (hnm _).mono ?_; rintro e w8 ⟨rfl, hB8⟩; have h8 := (hk7.dk.next (show Below w7.heap.size w7 w8 from hB7.drew.trans hB8))) | (go_at_call 39; refine (remove_dk hr hfok h8).mono ?_; rintro e w9 ⟨rfl, h9, hC9⟩))
  go_wp2
  go_ret2
  have hC89 : Chg [D, M] w7 w9 := hCd.trans ((Chg.of_below hB8).trans hC9)
  exact ⟨rfl, hk7.disk h9 hC89, hC07.trans (hC89.more (by simp))⟩
end
end Go.Proofs.YtoaegleieacokaaGreat
namespace Go.Proofs.YtoaegleieacokaaGreat
open Go.RowKit Go.Shelf

theorem segL_cons (a k : Nat) : segL a (k + 1) = (a : Int) :: segL (a + 1) k := by
  unfold segL
  rw [List.range_succ_eq_map, List.map_cons, List.map_map]
  simp only [Nat.add_zero]
  congr 1
  refine List.map_congr_left fun i _ => ?_
  simp only [Function.comp]
  congr 1
  omega
/-- The first of several goes. -/
theorem img_drop {N : Int} {s : DS} (h : Uns N s) {a : Nat} {x : ByteArray} {cs : List ByteArray} {c : ByteArray} (hi : Img s a (x :: (cs ++ [c]))) (ho : Only s a (cs.length + 2)) (ha : 1 ≤ a) (hb : a + cs.length + 2 ≤ 99999999) (h200 : cs.length + 1 ≤ 200) (hl : s.l.length < 890) (hr : (used s.l : Int) + 2030 ≤ s.room) :
    ∃ s1 s2, s.save (sheetB (segL (a + 1) (cs.length + 1))) = (0, s1) ∧ s1.remove (nameB a) = (0, s2) ∧ Uns (N + 6) s2 ∧ s2.room = s.room ∧ s2.l.length ≤ s.l.length + 1 ∧ used s2.l ≤ used s.l + 2030 ∧ Img s2 (a + 1) (cs ++ [c]) ∧ Only s2 (a + 1) (cs.length + 1) := by
  have hsz := sheetB_size (isL_segL (a := a + 1) (k := cs.length + 1) (by omega) (by omega) (by omega) (by omega))
  have hshe : sheetB (segL (a + 1) (cs ++ [c]).length) = sheetB (segL (a + 1) (cs.length + 1)) := by simp
  generalize sheetB (segL (a + 1) (cs.length + 1)) = sb at *
  obtain ⟨c0, c1, c2, c3⟩ := save_u h sb (by omega)
  rcases c3 with ⟨c3, c4, c5⟩ | ⟨_, _, _, c6⟩
  rotate_left
  · omega
  obtain ⟨kp, h0, _⟩ := hi.seg 0 x rfl
  rw [Nat.add_zero] at h0
  have f1 : fk (s.save sb).2.l (nameB a) = some ⟨headB a ++ x, kp⟩ := by rw [c4, if_neg (nameB_sheet _).symm, if_neg (nameB_fresh _).symm, h0]
  obtain ⟨d1, d2, d3⟩ := remove_u c0 f1
  have hu := d3.used
  have hrm := d3.room
  have hln := d3.len
  have t1 : ((s.save sb).2.remove (nameB a)).2.room = s.room := by omega
  have t2 : ((s.save sb).2.remove (nameB a)).2.l.length ≤ s.l.length + 1 := by omega
  have t3 : used ((s.save sb).2.remove (nameB a)).2.l ≤ used s.l + 2030 := by omega
  have hlen : (cs ++ [c]).length = cs.length + 1 := by simp
  refine ⟨_, _, Prod.ext c3 rfl, Prod.ext d1 rfl, d2.up (by omega), t1, t2, t3, ⟨fun i y hy => ?_, ?_⟩, ⟨fun k hk hs => ?_⟩⟩
  · have hil : i < (cs ++ [c]).length := (List.getElem?_eq_some_iff.1 hy).1
    obtain ⟨kq, h1, h2⟩ := hi.seg (i + 1) y (by rw [List.getElem?_cons_succ]; exact hy)
    refine ⟨kq, ?_, fun h3 => h2 (by rw [List.length_cons]; omega)⟩
    rw [d3.fk, if_neg (nameB_ne (by omega) (by omega) (by omega)), c4, if_neg (nameB_sheet _).symm, if_neg (nameB_fresh _).symm, show a + 1 + i = a + (i + 1) from by omega, h1]
  · rw [d3.fk, if_neg (nameB_sheet _), c4, if_pos rfl, hshe]
  · rw [d3.fk]
    by_cases e : nameB a = k
    · rw [if_pos e]
    · rw [if_neg e, c4, if_neg hs]
      by_cases e2 : nFresh = k
      · rw [if_pos e2]
      · rw [if_neg e2]
        refine ho.only k (fun i hi => ?_) hs
        rcases Nat.eq_zero_or_pos i with rfl | hp
        · exact e
        · have := hk (i - 1) (by omega)
          rw [show a + 1 + (i - 1) = a + i from by omega] at this
          exact this
/-- What is written stays. -/
theorem img_sync {N : Int} {s : DS} (h : Uns N s) {a : Nat} {cs : List ByteArray} {c : ByteArray} (hi : Img s a (cs ++ [c])) (hb : a + cs.length + 1 ≤ 99999999) :
    ∃ s', s.sync (nameB (a + cs.length)) = (0, s') ∧ Uns (N + 1) s' ∧ s'.room = s.room ∧ s'.l.length ≤ s.l.length + 1 ∧ used s'.l = used s.l ∧ Img s' a (cs ++ [c]) ∧ (Only s a (cs.length + 1) → Only s' a (cs.length + 1)) := by
  obtain ⟨kp, hact⟩ := hi.last
  obtain ⟨d1, d2, d3⟩ := sync_u h hact
  have hu := d3.used
  rw [sizeAt_some hact] at hu
  simp only at hu
  have hu' : used (s.sync (nameB (a + cs.length))).2.l = used s.l := by omega
  refine ⟨_, Prod.ext d1 rfl, d2, d3.room, d3.len, hu', ⟨fun i x hx => ?_, ?_⟩, fun ho => ⟨fun k hk hs => ?_⟩⟩
  · rcases snoc_get hx with ⟨h0, hx⟩ | ⟨h0, rfl⟩
    · obtain ⟨kp, h1, h2⟩ := hi.seg i x (by rw [List.getElem?_append_left h0]; exact hx)
      refine ⟨kp, ?_, h2⟩
      rw [d3.fk, if_neg (nameB_ne (by omega) (by omega) (by omega)), h1]
    · subst h0
      refine ⟨((headB (a + cs.length) ++ x).size : Int), ?_, fun h => by simp at h⟩
      rw [d3.fk, if_pos rfl]
  · rw [d3.fk, if_neg (nameB_sheet _), hi.sheet]
  · rw [d3.fk, if_neg (hk _ (by omega))]
    exact ho.only k hk hs
section
variable {n : Nat} {W : World} {D M B : Nat} {X : List Nat} {lim N : Int} {a : Nat} {cs : List ByteArray} {c : ByteArray} {s : DS} {w : World}
theorem Wg.len (_ : Wg n W D M B X lim N a cs c s w) : (segL a (cs.length + 1)).length = cs.length + 1 := segL_len _ _
theorem segL_lastN (ha : a + cs.length ≤ 99999999) (h1 : 1 ≤ a) : idN (lastI (segL a (cs.length + 1))) = a + cs.length := by
  rw [segL_last a _ (by omega), show a + (cs.length + 1) - 1 = a + cs.length from by omega]
  exact idN_nat (by omega) (by omega)
theorem sync_g (hN : N < 4611686018427340000) (ha : 1 ≤ a) (hb : a + cs.length + 1 ≤ 99999999) (h200 : cs.length ≤ 1000) (h : Wg n W D M B X lim N a cs c s w) :
    Calls Tryz.prog 12 #[.pointer (some ⟨B, 0, none⟩)] w fun e w' => e = .returned (.int .i64 0) ∧ ∃ s', Wg n W D M B X lim (N + 1) a cs c s' w' ∧ s'.room = s.room ∧ s'.l.length ≤ s.l.length + 1 ∧ used s'.l = used s.l ∧ (Only s a (cs.length + 1) → Only s' a (cs.length + 1)) ∧ Chg [D, M] w w' := by
  obtain ⟨s', e1, u1, r1, n1, z1, g1, o1⟩ := img_sync h.u h.img hb
  have hsy := wsync_wk h.u.fit (by omega) (by rw [h.len]; omega) (by rw [h.len]; omega) h.wk
  rw [segL_lastN (by omega) ha, e1] at hsy
  exact hsy.mono fun e w' ⟨he, hk, hC⟩ => ⟨he, s', ⟨hk, u1, g1⟩, r1, n1, z1, o1, hC⟩
theorem drop_g {x : ByteArray} (hN : N < 4611686018427340000) (ha : 1 ≤ a) (hb : a + cs.length + 2 ≤ 99999999) (h200 : cs.length + 1 ≤ 200) (hl : s.l.length < 890) (hr : (used s.l : Int) + 2030 ≤ s.room) (ho : Only s a (cs.length + 2)) (h : Wg n W D M B X lim N a (x :: cs) c s w) :
    Calls Tryz.prog 13 #[.pointer (some ⟨B, 0, none⟩)] w fun e w' => e = .returned (.tuple #[.int .i64 a, .int .i64 0]) ∧ ∃ s', Wg n W D M B X lim (N + 6) (a + 1) cs c s' w' ∧ s'.room = s.room ∧ s'.l.length ≤ s.l.length + 1 ∧ used s'.l ≤ used s.l + 2030 ∧ Only s' (a + 1) (cs.length + 1) ∧ Chg [B, D, M] w w' := by
  obtain ⟨s1, s2, e1, e2, u2, r2, n2, z2, g2, o2⟩ := img_drop h.u h.img ho ha hb h200 hl hr
  have hwk := h.wk
  rw [List.length_cons, segL_cons a (cs.length + 1)] at hwk
  have hid : idN (a : Int) = a := idN_nat ha (by omega)
  have hd := drop_ok h.u.fit (by omega) (a : Int) (segL (a + 1) (cs.length + 1)) (isL_segL (by omega) (by omega) (by omega) (by omega)) e1 (by rw [hid]; exact e2) hwk
  exact hd.mono fun e w' ⟨he, hk, hC⟩ => ⟨he, s2, ⟨hk, u2, g2⟩, r2, n2, z2, o2, hC⟩
theorem drop1_g (h : Wg n W D M B X lim N a [] c s w) : Calls Tryz.prog 13 #[.pointer (some ⟨B, 0, none⟩)] w fun e w' => e = .returned (.tuple #[.int .i64 0, .int .i64 22]) ∧ w' = w := drop_one h.wk h.len
theorem on_g {B0 : Nat} {X0 : List Nat} {lim0 : Int} (limit : Int) (ad : Option Addr) (cp : Nat) (ha : 1 ≤ a) (hb : a + cs.length + 1 ≤ 99999999) (h200 : cs.length + 1 ≤ 200) (hv : Rd w w.heap.size 1 (.slice ad (cs.length + 1) cp) (cs.length + 1) ((segL a (cs.length + 1)).map (Value.int .i64))) (hX : ∀ y ∈ X, y < w.heap.size) (h : Wg n W D M B0 X0 lim0 N a cs c s w) :
    Calls Tryz.prog 14 #[.pointer (some ⟨D, 0, none⟩), .int .i64 limit, .slice ad (cs.length + 1) cp] w fun x w' => ∃ B, x = .returned (.tuple #[.pointer (some ⟨B, 0, none⟩), .int .i64 0]) ∧ Wg n W D M B X (limN limit) N a cs c s w' ∧ Below w.heap.size w w' := by
  obtain ⟨kp, hl⟩ := h.img.last
  have hrd := read_u h.u hl
  simp only at hrd
  have hsz : ((headB (a + cs.length) ++ c).size : Int) = 16 + (c.size : Int) := by rw [app_size, headB_size]; omega
  have hI : Ints w w.heap.size (.slice ad (segL a (cs.length + 1)).length cp) (segL a (cs.length + 1)) := by
    unfold Ints
    rw [h.len]
    exact hv
  have hon := on_ok limit ad cp (by rw [h.len]; omega) (isL_segL ha (by omega) h200 (by omega)) hI (b := headB (a + cs.length) ++ c) (by rw [segL_lastN (by omega) ha]; exact hrd) hX h.wk.dk
  rw [h.len, hsz] at hon
  exact hon.mono fun x w' ⟨B, he, hk, hB⟩ => ⟨B, he, ⟨hk, h.u, h.img⟩, hB⟩
end
end Go.Proofs.YtoaegleieacokaaGreat
