/- writer.Write. -/
import Derived.Test.YtoaegleieacokaaGreatBegins
import Derived.BigQuiet
import Derived.Deep.QuietTactic
namespace Go.Proofs.YtoaegleieacokaaGreat
open Go.RowKit Go.Shelf

section
variable {n : Nat} {W : World} {D M B : Nat} {X : List Nat} {s : DS} {lim size : Int} {l : List Int} {w : World}
/-- What is no write. -/
theorem write_bad (b : ByteArray) (hb : b.size = 0 ∨ 2084 < b.size) (w : World) : Calls Tryz.prog 10 #[.pointer (some ⟨B, 0, none⟩), .string b] w fun e w' => e = .returned (.tuple #[.agg #[.int .i64 0, .int .i64 0], .int .i64 11]) ∧ Below w.heap.size w w' := by
  have hB0 : Below w.heap.size w (w.alloc (.cells #[.int .i64 0, .int .i64 0] 40)) := (Below.refl _ w).alloc (Nat.le_refl _) _
  rcases hb with hb | hb
  · have hz : b = ⟨#[]⟩ := by
      obtain ⟨⟨l⟩⟩ := b
      cases l with
      | nil => rfl
      | cons x l => simp [ByteArray.size] at hb
    subst hz
    clear hb
    go_enter Tryz.func10, Tryz.ntmps10
    go_wp2
    exact bodyPost_ret (v := .tuple #[.agg #[.int .i64 0, .int .i64 0], .int .i64 11]) (by simp [results, Tryz.f10, go_sem]) rfl ⟨rfl, hB0⟩
  · have hz : (b.toList == ([] : List UInt8)) = false := by
      rw [beq_eq_false_iff_ne, ByteArray.toList_eq]
      intro e
      have : b.size = 0 := by rw [show b.size = b.data.toList.length from rfl, e]; rfl
      omega
    have hz2 : ¬ b.toList = [] := beq_eq_false_iff_ne.1 hz
    have hz3 : b.toList.isEmpty = false := by cases h : b.toList with | nil => exact absurd h hz2 | cons x l => rfl
    go_enter Tryz.func10, Tryz.ntmps10
    go_wp2
    exact bodyPost_ret (v := .tuple #[.agg #[.int .i64 0, .int .i64 0], .int .i64 11]) (by simp [results, Tryz.f10, go_sem]) rfl ⟨rfl, hB0⟩
/-- A writer's state. -/
structure WS where
  s : DS
  l : List Int
  z : Int
theorem Wk.hn' (h : Wk n W D M B X s lim l size w) : n ≤ w.heap.size := h.dk.size
theorem Chg.trans_new {bs cs : List Nat} {a b c : World} (h : Chg bs a b) (k : Chg cs b c) (hc : ∀ x ∈ cs, a.heap.size ≤ x) : Chg bs a c :=
  ⟨k.os.trans h.os, k.tape.trans h.tape, k.output.trans h.output, Nat.le_trans h.size k.size, fun i hi hb => (k.block i (Nat.lt_of_lt_of_le hi h.size) (fun hm => by have := hc i hm; omega)).trans (h.block i hi hb)⟩
/-- A place of the call's own is turned: no writer's slice is it. -/
theorem Wk.aside {w1 : World} {P : Nat} (h : Wk n W D M B X s lim l size w) (hn : n ≤ P) (bP : Blk w P 40 #[.int .i64 0, .int .i64 0]) (hpos : ∀ x ∈ l, 0 < x) (hP : P ∉ [B, D, M]) (hc : Chg [P] w w1) : Wk n W D M B X s lim l size w1 := by
  obtain ⟨v, h1, a, c, rfl, hl, h2⟩ := h.wr
  have hd : Dk n W D M s w1 := ⟨h.dk.at'.chg hc (by simp at hP ⊢; exact fun e => hP.2.1 e.symm) (by simp at hP ⊢; exact fun e => hP.2.2 e.symm), h.dk.below.trans (hc.below h.dk.size (by simpa using hn)), h.dk.hD, h.dk.hM, h.dk.ok⟩
  refine ⟨hd, h.hB, h.ne, h.old hc.size, _, (hc.block B h1.lt (by simp at hP ⊢; exact fun e => hP.1 e.symm)).trans h1, a, c, rfl, hl, fun h0 => ?_⟩
  obtain ⟨b, off, rfl, hb, hX, hcs⟩ := h2 h0
  have hbP : b ≠ P := by
    intro e
    subst e
    have h3 := hcs 0 h0
    have h4 := hpos _ (List.getElem_mem h0)
    rw [bP.cell, Nat.add_zero] at h3
    generalize l[0] = x at *
    match off, h3 with
    | 0, h3 => simp at h3; omega
    | 1, h3 => simp at h3; omega
    | k + 2, h3 => simp at h3
  exact ⟨b, off, rfl, Nat.lt_of_lt_of_le hb hc.size, hX, fun j hj => hc.cell (by simpa using hbP) hb (hcs j hj)⟩
/-- Is a segment begun first? -/
def WS.rolls (x : WS) (lim : Int) (b : ByteArray) : Prop := 16 < x.z ∧ lim - (b.size : Int) < x.z
instance (x : WS) (lim : Int) (b : ByteArray) : Decidable (x.rolls lim b) := inferInstanceAs (Decidable (_ ∧ _))
def WS.begin (x : WS) : Int × WS := ((x.s.beginS x.l).1, ⟨(x.s.beginS x.l).2, begL (x.s.beginS x.l).1 x.l, begZ (x.s.beginS x.l).1 x.z⟩)
def WS.put (x : WS) (b : ByteArray) : Int × WS := ((x.s.append (nameB (idN (lastI x.l))) b).1, ⟨(x.s.append (nameB (idN (lastI x.l))) b).2, x.l, if (x.s.append (nameB (idN (lastI x.l))) b).1 = 0 then x.z + b.size else x.z⟩)
/-- What is told: the segment, the place. -/
def plc (e seg at' : Int) : Value := if e = 0 then .agg #[.int .i64 seg, .int .i64 at'] else .agg #[.int .i64 0, .int .i64 0]
theorem plc_ok (a b : Int) : plc 0 a b = .agg #[.int .i64 a, .int .i64 b] := rfl
theorem plc_no {e : Int} (h : e ≠ 0) (a b : Int) : plc e a b = .agg #[.int .i64 0, .int .i64 0] := if_neg h
def zAdd (e z : Int) (b : ByteArray) : Int := if e = 0 then z + b.size else z
theorem zAdd_ok (z : Int) (b : ByteArray) : zAdd 0 z b = z + b.size := rfl
theorem zAdd_no {e : Int} (h : e ≠ 0) (z : Int) (b : ByteArray) : zAdd e z b = z := if_neg h
theorem size_list {b : ByteArray} (hb : 0 < b.size) : (b.toList == ([] : List UInt8)) = false ∧ b.toList.isEmpty = false ∧ ¬ b.toList = [] := by
  have hz : (b.toList == ([] : List UInt8)) = false := by
    rw [beq_eq_false_iff_ne, ByteArray.toList_eq]
    intro e
    have : b.size = 0 := by rw [show b.size = b.data.toList.length from rfl, e]; rfl
    omega
  have hz2 : ¬ b.toList = [] := beq_eq_false_iff_ne.1 hz
  exact ⟨hz, by cases h : b.toList with | nil => exact absurd h hz2 | cons x l => rfl, hz2⟩
set_option maxRecDepth 100000 in
set_option maxHeartbeats 2000000 in
/-- A write into the active segment. -/
theorem write_in {N : Int} (hf : s.Fit N) (hN : N < 4611686018427360000) (hne : 0 < l.length) (hl : l.length ≤ 200) (hsz : 0 ≤ size ∧ size ≤ 1000000) (hlim : 0 ≤ lim ∧ lim ≤ 1000000) (b : ByteArray) (hb : 0 < b.size) (hb2 : b.size ≤ 2084) (hpos : ∀ x ∈ l, 0 < x) (hro : ¬ (16 < size ∧ lim - (b.size : Int) < size)) {e : Int} {s' : DS}
    (hr : s.append (nameB (idN (lastI l))) b = (e, s')) (h : Wk n W D M B X s lim l size w) :
    Calls Tryz.prog 10 #[.pointer (some ⟨B, 0, none⟩), .string b] w fun x w' => x = .returned (.tuple #[plc e (lastI l) size, .int .i64 e]) ∧ Wk n W D M B X s' lim l (zAdd e size b) w' ∧ Chg [B, D, M] w w' := by
  have hB0 : Below w.heap.size w (w.alloc (.cells #[.int .i64 0, .int .i64 0] 40)) := (Below.refl _ w).alloc (Nat.le_refl _) _
  have bP := Blk.new w 40 #[.int .i64 0, .int .i64 0]
  obtain ⟨hz1, hz3, hz2⟩ := size_list hb
  have h0 := h.next hB0
  have hfr := fit_append hf (nameB (idN (lastI l))) b
  rw [hr] at hfr
  have hn := h.dk.size
  have hPB : w.heap.size ∉ [B, D, M] := by have := h.lt; have := h.dk.at'.blk.lt; have := h.dk.at'.map.lt; simp; omega
  have hC0 : Chg [B, D, M] w (w.alloc (.cells #[.int .i64 0, .int .i64 0] 40)) := Chg.of_below hB0
  clear hB0
  go_enter Tryz.func10, Tryz.ntmps10
  go_wp2_with fail
  by_cases h16 : 16 < size
  · have hno : ¬ lim - (b.size : Int) < size := fun h => hro ⟨h16, h⟩
    have c1 : decide (16 < size) = true := decide_eq_true h16
    have c2 : decide (lim - (b.size : Int) < size) = false := decide_eq_false hno
    have z1 : IntKind.i64.wrap (lim - (b.size : Int)) = lim - (b.size : Int) := by rw [IntKind.wrap_i64]; omega
    clear hno h16 hro
    obtain ⟨v0, k1, k2⟩ := h0.wr
    have q3 : (w.alloc (.cells #[.int .i64 0, .int .i64 0] 40)).cell? ⟨B, 3, none⟩ = some (.int .i64 size) := k1.cell 3
    have q1 : (w.alloc (.cells #[.int .i64 0, .int .i64 0] 40)).cell? ⟨B, 1, none⟩ = some (.int .i64 lim) := k1.cell 1
    clear k1 k2
    generalize w.alloc (.cells #[.int .i64 0, .int .i64 0] 40) = w0 at *
    go_quiet (fail)
    have hqB := below_drewN (Below.refl w0.heap.size w0) nq
    have h1 := h0.next hqB
    have bP1 : Blk (w0.drewN nq) w.heap.size 40 #[.int .i64 0, .int .i64 0] := bP
    have hC1 := hC0.trans (Chg.of_below hqB)
    clear q1 q3 hqB h0 bP hC0
    generalize w0.drewN nq = w1 at *
    have w1B := h1.lt
    obtain ⟨v1, k1, k2⟩ := h1.wr
    have hdr : Below w1.heap.size w1 w1.drew := (Below.refl _ w1).drew
    have q0 : w1.drew.cell? ⟨B, 0, none⟩ = some (.pointer (some ⟨D, 0, none⟩)) := k1.cell 0
    have hBn : B ∉ [D, M] := by simp; exact h.ne
    have hac := active_calls hne (by omega) w1.drew (k1.below hdr w1B) ((k2.ints.below hdr (Nat.le_refl _)).up hdr.size)
    have hac2 := Lib.hid fun (w' : World) (hw : Wk n W D M B X s' lim l (size + b.size) w') => by
      obtain ⟨v2, k3, k4⟩ := hw.wr
      exact active_calls hne (by omega) w' k3 k4.ints
    have hnm := name_calls (lastI l)
    have HNM := Lib.hid hnm
    have hd := h1.dk.next hdr
    have HLL := Lib.hid hl
    have HR := Lib.hid hr
    have happ := fun w' (hw : Dk n W D M s w') => append_dk hr (hfr.ok (by omega)) hw
    have HAPP := Lib.hid happ
    clear hnm happ hr k2
    generalize hNM : nameB (idN (lastI l)) = nm at *
    generalize hX : lastI l = x at *
    have HX := Lib.hid hX
    have HNN := Lib.hid hNM
    clear hX hNM
    go_wp2_with fail
    go_region_held3 (fun w' => w'.cell? ⟨B, 0, none⟩ = some (.pointer (some ⟨D, 0, none⟩)))
      (first | exact q0 | exact (hB6.cell (p := ⟨B, 0, none⟩) (Nat.lt_of_lt_of_le w1B hB5.size)).trans ((hB5.cell (p := ⟨B, 0, none⟩) w1B).trans q0) | exact (hB5.cell (p := ⟨B, 0, none⟩) w1B).trans q0 | exact hC7.cell hBn w1B q0)
      (first | (go_at_call 36; refine hac.mono ?_; clear hac; rintro e w5 ⟨rfl, hB5⟩) | (go_at_call 35; refine (HNM.out _).mono ?_; clear HNM; rintro e w6 ⟨rfl, hB6⟩) | (go_at_call 34; refine (HAPP.out _ ((hd.next hB5).next hB6)).mono ?_; rintro e w7 ⟨rfl, h7, hC⟩; have hC7 := (Chg.of_below (bs := [D, M]) (hB5.trans (hB6.mono hB5.size))).trans hC))
    have hC8 := (Chg.of_below (bs := [D, M]) hdr).trans hC7
    have h8 := h1.disk h7 hC8
    have bP8 : Blk w7 w.heap.size 40 #[.int .i64 0, .int .i64 0] := (hC8.block _ bP1.lt (by simp at hPB ⊢; exact hPB.2)).trans bP1
    have hCC := hC1.trans (hC8.more (cs := [B, D, M]) (by simp))
    clear hC8 hC7 hB5 hB6 hdr q0 h7 hd bP1 k1 h1 hC1 w1B
    have p0 := bP8.cell 0
    have p1 := bP8.cell 1
    have pf0 := bP8.frozen 0
    have pf1 := bP8.frozen 1
    by_cases he : e = 0
    · subst he
      obtain ⟨v8, m1, m2⟩ := h8.wr
      have m3 : w7.cell? ⟨B, 3, none⟩ = some (.int .i64 size) := m1.cell 3
      have mf3 := m1.frozen 3
      have hmB := m1.lt
      have hst := m1.set 3 (.int .i64 (size + b.size))
      have hCB : Chg [B] w7 (w7.setCell ⟨B, 3, none⟩ (.int .i64 (size + b.size))) := Chg.setCell (p := ⟨B, 3, none⟩) (by simp) _
      have hfin : Wk n W D M B X s' lim l (size + b.size) (w7.setCell ⟨B, 3, none⟩ (.int .i64 (size + b.size))) :=
        ⟨⟨h8.dk.at'.chg hCB (by simp; exact h.ne.1.symm) (by simp; exact h.ne.2.symm), h8.dk.below.trans (hCB.below h8.dk.size (by simp; exact h.hB)), h8.dk.hD, h8.dk.hM, h8.dk.ok⟩, h.hB, h.ne, h8.old hCB.size, v8, hst, m2.chg hCB (by simp)⟩
      have hC9 := hCC.trans (hCB.more (cs := [B, D, M]) (by simp))
      have bP9 : Blk (w7.setCell ⟨B, 3, none⟩ (.int .i64 (size + b.size))) w.heap.size 40 #[.int .i64 0, .int .i64 0] := bP8.other (p := ⟨B, 3, none⟩) (by simp at hPB ⊢; exact hPB.1) _
      clear m1 m2 hst hCB h8 bP8 p0 p1 pf0 pf1 hCC
      go_wp2_with fail
      generalize w7.setCell ⟨B, 3, none⟩ (.int .i64 (size + b.size)) = w8 at *
      refine (hac2.out w8 hfin).mono ?_
      clear hac2
      rintro e w9 ⟨rfl, hB9⟩
      have hfin9 := hfin.next hB9
      have bPA := bP9.below hB9 bP9.lt
      have p0 := bPA.cell 0
      have p1 := bPA.cell 1
      have pf0 := bPA.frozen 0
      have pf1 := bPA.frozen 1
      have hCA := hC9.trans (Chg.of_below hB9)
      have hlw := bPA.lt
      clear hfin bP9 hC9 hB9
      have hstP := (bPA.set 0 (.int .i64 x)).set 1 (.int .i64 size)
      have hCP : Chg [w.heap.size] w9 ((w9.setCell ⟨w.heap.size, 0, none⟩ (.int .i64 x)).setCell ⟨w.heap.size, 1, none⟩ (.int .i64 size)) := (Chg.setCell (p := ⟨w.heap.size, 0, none⟩) (by simp) _).trans (Chg.setCell (p := ⟨w.heap.size, 1, none⟩) (by simp) _)
      have r0 := hstP.cell 0
      have r1 := hstP.cell 1
      have hfinA := hfin9.aside h.hn' bPA hpos hPB hCP
      have hCB := hCA.trans_new hCP (by simp)
      generalize hwx : (w9.setCell ⟨w.heap.size, 0, none⟩ (.int .i64 x)).setCell ⟨w.heap.size, 1, none⟩ (.int .i64 size) = wx at *
      have HWX := Lib.hid hwx
      clear hwx hstP hCP
      go_wp2
      rw [HWX.out]
      exact bodyPost_ret (v := .tuple #[.agg #[.int .i64 x, .int .i64 size], .int .i64 0]) (by simp [results, Tryz.f10, go_sem, r0, r1]) rfl ⟨by rw [plc_ok, HX.out], by rw [zAdd_ok]; exact hfinA, hCB⟩
    · have hbe : (e == 0) = false := beq_eq_false_iff_ne.2 he
      have HE := Lib.hid he
      clear he
      have hstP := (bP8.set 0 (.int .i64 0)).set 1 (.int .i64 0)
      have hCP : Chg [w.heap.size] w7 ((w7.setCell ⟨w.heap.size, 0, none⟩ (.int .i64 0)).setCell ⟨w.heap.size, 1, none⟩ (.int .i64 0)) := (Chg.setCell (p := ⟨w.heap.size, 0, none⟩) (by simp) _).trans (Chg.setCell (p := ⟨w.heap.size, 1, none⟩) (by simp) _)
      have r0 := hstP.cell 0
      have r1 := hstP.cell 1
      have hfinA := h8.aside h.hn' bP8 hpos hPB hCP
      have hCB := hCC.trans_new hCP (by simp)
      generalize hwx : (w7.setCell ⟨w.heap.size, 0, none⟩ (.int .i64 0)).setCell ⟨w.heap.size, 1, none⟩ (.int .i64 0) = wx at *
      have HWX := Lib.hid hwx
      clear hwx hstP hCP
      go_wp2
      rw [HWX.out]
      exact bodyPost_ret (v := .tuple #[.agg #[.int .i64 0, .int .i64 0], .int .i64 e]) (by simp [results, Tryz.f10, go_sem, r0, r1]) rfl ⟨by rw [plc_no HE.out], by rw [zAdd_no HE.out]; exact hfinA, hCB⟩
  · have c1 : decide (16 < size) = false := decide_eq_false h16
    clear h16 hro
    obtain ⟨v0, k1, k2⟩ := h0.wr
    have q3 : (w.alloc (.cells #[.int .i64 0, .int .i64 0] 40)).cell? ⟨B, 3, none⟩ = some (.int .i64 size) := k1.cell 3
    have q1 : (w.alloc (.cells #[.int .i64 0, .int .i64 0] 40)).cell? ⟨B, 1, none⟩ = some (.int .i64 lim) := k1.cell 1
    clear k1 k2
    generalize w.alloc (.cells #[.int .i64 0, .int .i64 0] 40) = w0 at *
    go_quiet (fail)
    have hqB := below_drewN (Below.refl w0.heap.size w0) nq
    have h1 := h0.next hqB
    have bP1 : Blk (w0.drewN nq) w.heap.size 40 #[.int .i64 0, .int .i64 0] := bP
    have hC1 := hC0.trans (Chg.of_below hqB)
    clear q1 q3 hqB h0 bP hC0
    generalize w0.drewN nq = w1 at *
    have w1B := h1.lt
    obtain ⟨v1, k1, k2⟩ := h1.wr
    have hdr : Below w1.heap.size w1 w1.drew := (Below.refl _ w1).drew
    have q0 : w1.drew.cell? ⟨B, 0, none⟩ = some (.pointer (some ⟨D, 0, none⟩)) := k1.cell 0
    have hBn : B ∉ [D, M] := by simp; exact h.ne
    have hac := active_calls hne (by omega) w1.drew (k1.below hdr w1B) ((k2.ints.below hdr (Nat.le_refl _)).up hdr.size)
    have hac2 := Lib.hid fun (w' : World) (hw : Wk n W D M B X s' lim l (size + b.size) w') => by
      obtain ⟨v2, k3, k4⟩ := hw.wr
      exact active_calls hne (by omega) w' k3 k4.ints
    have hnm := name_calls (lastI l)
    have HNM := Lib.hid hnm
    have hd := h1.dk.next hdr
    have HLL := Lib.hid hl
    have HR := Lib.hid hr
    have happ := fun w' (hw : Dk n W D M s w') => append_dk hr (hfr.ok (by omega)) hw
    have HAPP := Lib.hid happ
    clear hnm happ hr k2
    generalize hNM : nameB (idN (lastI l)) = nm at *
    generalize hX : lastI l = x at *
    have HX := Lib.hid hX
    have HNN := Lib.hid hNM
    clear hX hNM
    go_wp2_with fail
    go_region_held3 (fun w' => w'.cell? ⟨B, 0, none⟩ = some (.pointer (some ⟨D, 0, none⟩)))
      (first | exact q0 | exact (hB6.cell (p := ⟨B, 0, none⟩) (Nat.lt_of_lt_of_le w1B hB5.size)).trans ((hB5.cell (p := ⟨B, 0, none⟩) w1B).trans q0) | exact (hB5.cell (p := ⟨B, 0, none⟩) w1B).trans q0 | exact hC7.cell hBn w1B q0)
      (first | (go_at_call 36; refine hac.mono ?_; clear hac; rintro e w5 ⟨rfl, hB5⟩) | (go_at_call 35; refine (HNM.out _).mono ?_; clear HNM; rintro e w6 ⟨rfl, hB6⟩) | (go_at_call 34; refine (HAPP.out _ ((hd.next hB5).next hB6)).mono ?_; rintro e w7 ⟨rfl, h7, hC⟩; have hC7 := (Chg.of_below (bs := [D, M]) (hB5.trans (hB6.mono hB5.size))).trans hC))
    have hC8 := (Chg.of_below (bs := [D, M]) hdr).trans hC7
    have h8 := h1.disk h7 hC8
    have bP8 : Blk w7 w.heap.size 40 #[.int .i64 0, .int .i64 0] := (hC8.block _ bP1.lt (by simp at hPB ⊢; exact hPB.2)).trans bP1
    have hCC := hC1.trans (hC8.more (cs := [B, D, M]) (by simp))
    clear hC8 hC7 hB5 hB6 hdr q0 h7 hd bP1 k1 h1 hC1 w1B
    have p0 := bP8.cell 0
    have p1 := bP8.cell 1
    have pf0 := bP8.frozen 0
    have pf1 := bP8.frozen 1
    by_cases he : e = 0
    · subst he
      obtain ⟨v8, m1, m2⟩ := h8.wr
      have m3 : w7.cell? ⟨B, 3, none⟩ = some (.int .i64 size) := m1.cell 3
      have mf3 := m1.frozen 3
      have hmB := m1.lt
      have hst := m1.set 3 (.int .i64 (size + b.size))
      have hCB : Chg [B] w7 (w7.setCell ⟨B, 3, none⟩ (.int .i64 (size + b.size))) := Chg.setCell (p := ⟨B, 3, none⟩) (by simp) _
      have hfin : Wk n W D M B X s' lim l (size + b.size) (w7.setCell ⟨B, 3, none⟩ (.int .i64 (size + b.size))) :=
        ⟨⟨h8.dk.at'.chg hCB (by simp; exact h.ne.1.symm) (by simp; exact h.ne.2.symm), h8.dk.below.trans (hCB.below h8.dk.size (by simp; exact h.hB)), h8.dk.hD, h8.dk.hM, h8.dk.ok⟩, h.hB, h.ne, h8.old hCB.size, v8, hst, m2.chg hCB (by simp)⟩
      have hC9 := hCC.trans (hCB.more (cs := [B, D, M]) (by simp))
      have bP9 : Blk (w7.setCell ⟨B, 3, none⟩ (.int .i64 (size + b.size))) w.heap.size 40 #[.int .i64 0, .int .i64 0] := bP8.other (p := ⟨B, 3, none⟩) (by simp at hPB ⊢; exact hPB.1) _
      clear m1 m2 hst hCB h8 bP8 p0 p1 pf0 pf1 hCC
      go_wp2_with fail
      generalize w7.setCell ⟨B, 3, none⟩ (.int .i64 (size + b.size)) = w8 at *
      refine (hac2.out w8 hfin).mono ?_
      clear hac2
      rintro e w9 ⟨rfl, hB9⟩
      have hfin9 := hfin.next hB9
      have bPA := bP9.below hB9 bP9.lt
      have p0 := bPA.cell 0
      have p1 := bPA.cell 1
      have pf0 := bPA.frozen 0
      have pf1 := bPA.frozen 1
      have hCA := hC9.trans (Chg.of_below hB9)
      have hlw := bPA.lt
      clear hfin bP9 hC9 hB9
      have hstP := (bPA.set 0 (.int .i64 x)).set 1 (.int .i64 size)
      have hCP : Chg [w.heap.size] w9 ((w9.setCell ⟨w.heap.size, 0, none⟩ (.int .i64 x)).setCell ⟨w.heap.size, 1, none⟩ (.int .i64 size)) := (Chg.setCell (p := ⟨w.heap.size, 0, none⟩) (by simp) _).trans (Chg.setCell (p := ⟨w.heap.size, 1, none⟩) (by simp) _)
      have r0 := hstP.cell 0
      have r1 := hstP.cell 1
      have hfinA := hfin9.aside h.hn' bPA hpos hPB hCP
      have hCB := hCA.trans_new hCP (by simp)
      generalize hwx : (w9.setCell ⟨w.heap.size, 0, none⟩ (.int .i64 x)).setCell ⟨w.heap.size, 1, none⟩ (.int .i64 size) = wx at *
      have HWX := Lib.hid hwx
      clear hwx hstP hCP
      go_wp2
      rw [HWX.out]
      exact bodyPost_ret (v := .tuple #[.agg #[.int .i64 x, .int .i64 size], .int .i64 0]) (by simp [results, Tryz.f10, go_sem, r0, r1]) rfl ⟨by rw [plc_ok, HX.out], by rw [zAdd_ok]; exact hfinA, hCB⟩
    · have hbe : (e == 0) = false := beq_eq_false_iff_ne.2 he
      have HE := Lib.hid he
      clear he
      have hstP := (bP8.set 0 (.int .i64 0)).set 1 (.int .i64 0)
      have hCP : Chg [w.heap.size] w7 ((w7.setCell ⟨w.heap.size, 0, none⟩ (.int .i64 0)).setCell ⟨w.heap.size, 1, none⟩ (.int .i64 0)) := (Chg.setCell (p := ⟨w.heap.size, 0, none⟩) (by simp) _).trans (Chg.setCell (p := ⟨w.heap.size, 1, none⟩) (by simp) _)
      have r0 := hstP.cell 0
      have r1 := hstP.cell 1
      have hfinA := h8.aside h.hn' bP8 hpos hPB hCP
      have hCB := hCC.trans_new hCP (by simp)
      generalize hwx : (w7.setCell ⟨w.heap.size, 0, none⟩ (.int .i64 0)).setCell ⟨w.heap.size, 1, none⟩ (.int .i64 0) = wx at *
      have HWX := Lib.hid hwx
      clear hwx hstP hCP
      go_wp2
      rw [HWX.out]
      exact bodyPost_ret (v := .tuple #[.agg #[.int .i64 0, .int .i64 0], .int .i64 e]) (by simp [results, Tryz.f10, go_sem, r0, r1]) rfl ⟨by rw [plc_no HE.out], by rw [zAdd_no HE.out]; exact hfinA, hCB⟩
end
end Go.Proofs.YtoaegleieacokaaGreat
