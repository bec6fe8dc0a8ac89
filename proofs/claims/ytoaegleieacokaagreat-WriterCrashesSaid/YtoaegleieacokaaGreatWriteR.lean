/- writer.Write, where a segment is begun first. -/
import Derived.Test.YtoaegleieacokaaGreatWrite
namespace Go.Proofs.YtoaegleieacokaaGreat
open Go.RowKit Go.Shelf

section
variable {n : Nat} {W : World} {D M B : Nat} {X : List Nat} {s : DS} {lim size : Int} {l : List Int} {w : World}
set_option maxRecDepth 100000 in
set_option maxHeartbeats 2000000 in
/-- The segment could not be begun. -/
theorem write_no {N : Int} (hf : s.Fit N) (hN : N < 4611686018427360000) (hne : 0 < l.length) (hL : isL (l ++ [lastI l + 1]) = true) (hid : 0 ≤ lastI l ∧ lastI l ≤ 99999999) (hsz : 0 ≤ size ∧ size ≤ 1000000) (hlim : 0 ≤ lim ∧ lim ≤ 1000000) (b : ByteArray) (hb : 0 < b.size) (hb2 : b.size ≤ 2084) (hpos : ∀ x ∈ l, 0 < x) (hro : 16 < size ∧ lim - (b.size : Int) < size)
    {er : Int} {s1 : DS} (hbg : s.beginS l = (er, s1)) (hne0 : er ≠ 0) (h : Wk n W D M B X s lim l size w) :
    Calls Tryz.prog 10 #[.pointer (some ⟨B, 0, none⟩), .string b] w fun x w' => x = .returned (.tuple #[.agg #[.int .i64 0, .int .i64 0], .int .i64 er]) ∧ Wk n W D M B X s1 lim l size w' ∧ Chg [B, D, M] w w' := by
  have hB0 : Below w.heap.size w (w.alloc (.cells #[.int .i64 0, .int .i64 0] 40)) := (Below.refl _ w).alloc (Nat.le_refl _) _
  have bP := Blk.new w 40 #[.int .i64 0, .int .i64 0]
  obtain ⟨hz1, hz3, hz2⟩ := size_list hb
  have h0 := h.next hB0
  have hn := h.dk.size
  have hPB : w.heap.size ∉ [B, D, M] := by have := h.lt; have := h.dk.at'.blk.lt; have := h.dk.at'.map.lt; simp; omega
  have hC0 : Chg [B, D, M] w (w.alloc (.cells #[.int .i64 0, .int .i64 0] 40)) := Chg.of_below hB0
  clear hB0
  obtain ⟨h16, hno⟩ := hro
  have c1 : decide (16 < size) = true := decide_eq_true h16
  have c2 : decide (lim - (b.size : Int) < size) = true := decide_eq_true hno
  have z1 : IntKind.i64.wrap (lim - (b.size : Int)) = lim - (b.size : Int) := by rw [IntKind.wrap_i64]; omega
  go_enter Tryz.func10, Tryz.ntmps10
  go_wp2_with fail
  obtain ⟨v0, k1, k2⟩ := h0.wr
  have q3 : (w.alloc (.cells #[.int .i64 0, .int .i64 0] 40)).cell? ⟨B, 3, none⟩ = some (.int .i64 size) := k1.cell 3
  have q1 : (w.alloc (.cells #[.int .i64 0, .int .i64 0] 40)).cell? ⟨B, 1, none⟩ = some (.int .i64 lim) := k1.cell 1
  clear k1 k2
  generalize w.alloc (.cells #[.int .i64 0, .int .i64 0] 40) = w0 at *
  go_quiet (fail)
  have hqB := below_drewN (Below.refl w0.heap.size w0) nq
  have h1 := h0.next hqB
  have bP1 : Blk (w0.drewN nq) w.heap.size 40 #[.int .i64 0, .int .i64 0] := bP
  have hC1 := hC0.trans (Chg.of_below hqB)
  clear q1 q3 hqB h0 bP hC0
  generalize w0.drewN nq = w1 at *
  have hbw := begins_wk hf (by omega) hne hL hid h1
  clear c1 c2 z1 h16 hno
  have hbe : (er == 0) = false := beq_eq_false_iff_ne.2 hne0
  rw [hbg, begL_no hne0, begZ_no hne0] at hbw
  have HE := Lib.hid hne0
  clear hne0
  go_wp2_with fail
  refine hbw.mono ?_
  clear hbw
  rintro e w3 ⟨rfl, h3, hC3⟩
  have bP3 : Blk w3 w.heap.size 40 #[.int .i64 0, .int .i64 0] := (hC3.block _ bP1.lt hPB).trans bP1
  have hCC := hC1.trans hC3
  have p0 := bP3.cell 0
  have p1 := bP3.cell 1
  have pf0 := bP3.frozen 0
  have pf1 := bP3.frozen 1
  have hlw := bP3.lt
  have hstP := (bP3.set 0 (.int .i64 0)).set 1 (.int .i64 0)
  have hCP : Chg [w.heap.size] w3 ((w3.setCell ⟨w.heap.size, 0, none⟩ (.int .i64 0)).setCell ⟨w.heap.size, 1, none⟩ (.int .i64 0)) := (Chg.setCell (p := ⟨w.heap.size, 0, none⟩) (by simp) _).trans (Chg.setCell (p := ⟨w.heap.size, 1, none⟩) (by simp) _)
  have r0 := hstP.cell 0
  have r1 := hstP.cell 1
  have hfinA := h3.aside h.hn' bP3 hpos hPB hCP
  have hCB := hCC.trans_new hCP (by simp)
  generalize hwx : (w3.setCell ⟨w.heap.size, 0, none⟩ (.int .i64 0)).setCell ⟨w.heap.size, 1, none⟩ (.int .i64 0) = wx at *
  have HWX := Lib.hid hwx
  clear hwx hstP hCP
  go_wp2
  rw [HWX.out]
  exact bodyPost_ret (v := .tuple #[.agg #[.int .i64 0, .int .i64 0], .int .i64 er]) (by simp [results, Tryz.f10, go_sem, r0, r1]) rfl ⟨rfl, hfinA, hCB⟩
set_option maxRecDepth 100000 in
set_option maxHeartbeats 2000000 in
/-- A segment is begun, and written. -/
theorem write_roll {N : Int} (hf : s.Fit N) (hN : N < 4611686018427350000) (hne : 0 < l.length) (hL : isL (l ++ [lastI l + 1]) = true) (hid : 0 ≤ lastI l ∧ lastI l ≤ 99999999) (hsz : 0 ≤ size ∧ size ≤ 1000000) (hlim : 0 ≤ lim ∧ lim ≤ 1000000) (b : ByteArray) (hb : 0 < b.size) (hb2 : b.size ≤ 2084) (hpos : ∀ x ∈ l, 0 < x) (hro : 16 < size ∧ lim - (b.size : Int) < size)
    {s1 : DS} (hbg : s.beginS l = (0, s1)) {l2 : List Int} (hl2e : l ++ [lastI l + 1] = l2) {e : Int} {s' : DS} (hr : s1.append (nameB (idN (lastI l2))) b = (e, s')) (h : Wk n W D M B X s lim l size w) :
    Calls Tryz.prog 10 #[.pointer (some ⟨B, 0, none⟩), .string b] w fun x w' => x = .returned (.tuple #[plc e (lastI l2) 16, .int .i64 e]) ∧ Wk n W D M B X s' lim l2 (zAdd e 16 b) w' ∧ Chg [B, D, M] w w' := by
  have hB0 : Below w.heap.size w (w.alloc (.cells #[.int .i64 0, .int .i64 0] 40)) := (Below.refl _ w).alloc (Nat.le_refl _) _
  have bP := Blk.new w 40 #[.int .i64 0, .int .i64 0]
  obtain ⟨hz1, hz3, hz2⟩ := size_list hb
  have h0 := h.next hB0
  have hn := h.dk.size
  have hPB : w.heap.size ∉ [B, D, M] := by have := h.lt; have := h.dk.at'.blk.lt; have := h.dk.at'.map.lt; simp; omega
  have hC0 : Chg [B, D, M] w (w.alloc (.cells #[.int .i64 0, .int .i64 0] 40)) := Chg.of_below hB0
  clear hB0
  obtain ⟨h16, hno⟩ := hro
  have c1 : decide (16 < size) = true := decide_eq_true h16
  have c2 : decide (lim - (b.size : Int) < size) = true := decide_eq_true hno
  have z1 : IntKind.i64.wrap (lim - (b.size : Int)) = lim - (b.size : Int) := by rw [IntKind.wrap_i64]; omega
  go_enter Tryz.func10, Tryz.ntmps10
  go_wp2_with fail
  obtain ⟨v0, k1, k2⟩ := h0.wr
  have q3 : (w.alloc (.cells #[.int .i64 0, .int .i64 0] 40)).cell? ⟨B, 3, none⟩ = some (.int .i64 size) := k1.cell 3
  have q1 : (w.alloc (.cells #[.int .i64 0, .int .i64 0] 40)).cell? ⟨B, 1, none⟩ = some (.int .i64 lim) := k1.cell 1
  clear k1 k2
  generalize w.alloc (.cells #[.int .i64 0, .int .i64 0] 40) = w0 at *
  go_quiet (fail)
  have hqB := below_drewN (Below.refl w0.heap.size w0) nq
  have h1 := h0.next hqB
  have bP1 : Blk (w0.drewN nq) w.heap.size 40 #[.int .i64 0, .int .i64 0] := bP
  have hC1 := hC0.trans (Chg.of_below hqB)
  clear q1 q3 hqB h0 bP hC0
  generalize w0.drewN nq = w1 at *
  have hbw := begins_wk hf (by omega) hne hL hid h1
  clear c1 c2 z1 h16 hno
  have hfb := fit_beginS hf l
  rw [hbg] at hfb
  have hfr := fit_append hfb (nameB (idN (lastI l2))) b
  rw [hr] at hfr
  have hne2 : 0 < l2.length := by rw [← hl2e]; simp
  have hl2 : l2.length ≤ 200 := by rw [← hl2e]; exact (isL_sheet hL).le
  have hpos2 : ∀ x ∈ l2, 0 < x := by
    intro x hx
    rw [← hl2e] at hx
    rcases List.mem_append.1 hx with hx | hx
    · exact hpos x hx
    · rw [List.mem_singleton.1 hx]; omega
  rw [hbg, begL_ok, hl2e] at hbw
  have HL2 := Lib.hid hl2e
  clear hl2e
  go_wp2_with fail
  refine hbw.mono ?_
  clear hbw
  rintro e0 w3 ⟨rfl, h3, hC3⟩
  replace h3 : Wk n W D M B X s1 lim l2 16 w3 := h3
  have bP3 : Blk w3 w.heap.size 40 #[.int .i64 0, .int .i64 0] := (hC3.block _ bP1.lt hPB).trans bP1
  have hC4 := hC1.trans hC3
  clear h1 bP1 hC1 hC3
  have h1 := h3
  have bP1 := bP3
  have hC1 := hC4
  clear h3 bP3 hC4
  generalize w3 = w1 at *
  have w1B := h1.lt
  obtain ⟨v1, k1, k2⟩ := h1.wr
  have hdr : Below w1.heap.size w1 w1.drew := (Below.refl _ w1).drew
  have q0 : w1.drew.cell? ⟨B, 0, none⟩ = some (.pointer (some ⟨D, 0, none⟩)) := k1.cell 0
  have hBn : B ∉ [D, M] := by simp; exact h.ne
  have hac := active_calls hne2 (by omega) w1.drew (k1.below hdr w1B) ((k2.ints.below hdr (Nat.le_refl _)).up hdr.size)
  have hac2 := Lib.hid fun (w' : World) (hw : Wk n W D M B X s' lim l2 (16 + b.size) w') => by
    obtain ⟨v2, k3, k4⟩ := hw.wr
    exact active_calls hne2 (by omega) w' k3 k4.ints
  have hnm := name_calls (lastI l2)
  have HNM := Lib.hid hnm
  have hd := h1.dk.next hdr
  have HLL := Lib.hid hl2
  have HR := Lib.hid hr
  have happ := fun w' (hw : Dk n W D M s1 w') => append_dk hr (hfr.ok (by omega)) hw
  have HAPP := Lib.hid happ
  clear hnm happ hr k2
  generalize hNM : nameB (idN (lastI l2)) = nm at *
  generalize hX : lastI l2 = x at *
  have HX := Lib.hid hX
  have HNN := Lib.hid hNM
  clear hX hNM
  go_wp2_with fail
  go_region_held3 (fun w' => w'.cell? ⟨B, 0, none⟩ = some (.pointer (some ⟨D, 0, none⟩)))
    (first | exact q0 | exact (hB6.cell (p := ⟨B, 0, none⟩) (Nat.lt_of_lt_of_le w1B hB5.size)).trans ((hB5.cell (p := ⟨B, 0, none⟩) w1B).trans q0) | exact (hB5.cell (p := ⟨B, 0, none⟩) w1B).trans q0 | exact hC7.cell hBn w1B q0)
    (first | (go_at_call 36; refine hac.mono ?_; clear hac; rintro e w5 ⟨rfl, hB5⟩) | (go_at_call 35; refine (HNM.out _).mono ?_; clear HNM; rintro e w6 ⟨rfl, hB6⟩) | (go_at_call 34; refine (HAPP.out _ ((hd.next hB5).next hB6)).mono ?_; rintro e w7 ⟨rfl, h7, hC⟩; have hC7 := (Chg.of_below (bs := [D, M]) (hB5.trans (hB6.mono hB5.size))).trans hC))
  have hC8 := (Chg.of_below (bs := [D, M]) hdr).trans hC7
  have h8 := h1.disk h7 hC8
  have bP8 : Blk w7 w.heap.size 40 #[.int .i64 0, .int .i64 0] := (hC8.block _ bP1.lt (by simp at hPB ⊢; exact hPB.2)).trans bP1
  have hCC := hC1.trans (hC8.more (cs := [B, D, M]) (by simp))
  clear hC8 hC7 hB5 hB6 hdr q0 h7 hd bP1 k1 h1 hC1 w1B
  have p0 := bP8.cell 0
  have p1 := bP8.cell 1
  have pf0 := bP8.frozen 0
  have pf1 := bP8.frozen 1
  by_cases he : e = 0
  · subst he
    obtain ⟨v8, m1, m2⟩ := h8.wr
    have m3 : w7.cell? ⟨B, 3, none⟩ = some (.int .i64 16) := m1.cell 3
    have mf3 := m1.frozen 3
    have hmB := m1.lt
    have hst := m1.set 3 (.int .i64 (16 + b.size))
    have hCB : Chg [B] w7 (w7.setCell ⟨B, 3, none⟩ (.int .i64 (16 + b.size))) := Chg.setCell (p := ⟨B, 3, none⟩) (by simp) _
    have hfin : Wk n W D M B X s' lim l2 (16 + b.size) (w7.setCell ⟨B, 3, none⟩ (.int .i64 (16 + b.size))) :=
      ⟨⟨h8.dk.at'.chg hCB (by simp; exact h.ne.1.symm) (by simp; exact h.ne.2.symm), h8.dk.below.trans (hCB.below h8.dk.size (by simp; exact h.hB)), h8.dk.hD, h8.dk.hM, h8.dk.ok⟩, h.hB, h.ne, h8.old hCB.size, v8, hst, m2.chg hCB (by simp)⟩
    have hC9 := hCC.trans (hCB.more (cs := [B, D, M]) (by simp))
    have bP9 : Blk (w7.setCell ⟨B, 3, none⟩ (.int .i64 (16 + b.size))) w.heap.size 40 #[.int .i64 0, .int .i64 0] := bP8.other (p := ⟨B, 3, none⟩) (by simp at hPB ⊢; exact hPB.1) _
    clear m1 m2 hst hCB h8 bP8 p0 p1 pf0 pf1 hCC
    go_wp2_with fail
    generalize w7.setCell ⟨B, 3, none⟩ (.int .i64 (16 + b.size)) = w8 at *
    refine (hac2.out w8 hfin).mono ?_
    clear hac2
    rintro e w9 ⟨rfl, hB9⟩
    have hfin9 := hfin.next hB9
    have bPA := bP9.below hB9 bP9.lt
    have p0 := bPA.cell 0
    have p1 := bPA.cell 1
    have pf0 := bPA.frozen 0
    have pf1 := bPA.frozen 1
    have hCA := hC9.trans (Chg.of_below hB9)
    have hlw := bPA.lt
    clear hfin bP9 hC9 hB9
    have hstP := (bPA.set 0 (.int .i64 x)).set 1 (.int .i64 16)
    have hCP : Chg [w.heap.size] w9 ((w9.setCell ⟨w.heap.size, 0, none⟩ (.int .i64 x)).setCell ⟨w.heap.size, 1, none⟩ (.int .i64 16)) := (Chg.setCell (p := ⟨w.heap.size, 0, none⟩) (by simp) _).trans (Chg.setCell (p := ⟨w.heap.size, 1, none⟩) (by simp) _)
    have r0 := hstP.cell 0
    have r1 := hstP.cell 1
    have hfinA := hfin9.aside h.hn' bPA hpos2 hPB hCP
    have hCB := hCA.trans_new hCP (by simp)
    generalize hwx : (w9.setCell ⟨w.heap.size, 0, none⟩ (.int .i64 x)).setCell ⟨w.heap.size, 1, none⟩ (.int .i64 16) = wx at *
    have HWX := Lib.hid hwx
    clear hwx hstP hCP
    go_wp2
    rw [HWX.out]
    exact bodyPost_ret (v := .tuple #[.agg #[.int .i64 x, .int .i64 16], .int .i64 0]) (by simp [results, Tryz.f10, go_sem, r0, r1]) rfl ⟨by rw [plc_ok, HX.out], by rw [zAdd_ok]; exact hfinA, hCB⟩
  · have hbe : (e == 0) = false := beq_eq_false_iff_ne.2 he
    have HE := Lib.hid he
    clear he
    have hstP := (bP8.set 0 (.int .i64 0)).set 1 (.int .i64 0)
    have hCP : Chg [w.heap.size] w7 ((w7.setCell ⟨w.heap.size, 0, none⟩ (.int .i64 0)).setCell ⟨w.heap.size, 1, none⟩ (.int .i64 0)) := (Chg.setCell (p := ⟨w.heap.size, 0, none⟩) (by simp) _).trans (Chg.setCell (p := ⟨w.heap.size, 1, none⟩) (by simp) _)
    have r0 := hstP.cell 0
    have r1 := hstP.cell 1
    have hfinA := h8.aside h.hn' bP8 hpos2 hPB hCP
    have hCB := hCC.trans_new hCP (by simp)
    generalize hwx : (w7.setCell ⟨w.heap.size, 0, none⟩ (.int .i64 0)).setCell ⟨w.heap.size, 1, none⟩ (.int .i64 0) = wx at *
    have HWX := Lib.hid hwx
    clear hwx hstP hCP
    go_wp2
    rw [HWX.out]
    exact bodyPost_ret (v := .tuple #[.agg #[.int .i64 0, .int .i64 0], .int .i64 e]) (by simp [results, Tryz.f10, go_sem, r0, r1]) rfl ⟨by rw [plc_no HE.out], by rw [zAdd_no HE.out]; exact hfinA, hCB⟩
end
end Go.Proofs.YtoaegleieacokaaGreat
