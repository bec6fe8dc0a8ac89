/- slices.Clone at ints; the writer's small functions: active, Sync, Segments, Size, Limit. -/
import Derived.Test.YtoaegleieacokaaGreatMake
import Derived.WalkSpells
import Derived.Laws.OwnMore
namespace Go.Proofs.YtoaegleieacokaaGreat
open Go.RowKit Go.Shelf

set_option maxRecDepth 100000 in
set_option maxHeartbeats 1000000 in
theorem clone_calls (l : List Int) (hne : 0 < l.length) (hl : l.length ≤ 1000000) (v : Value) (w : World) (h : Ints w w.heap.size v l) :
    Calls Tryz.prog 38 #[v] w fun e w' => ∃ v', e = .returned v' ∧ w'.ownsRow w.heap.size 3 1 v' l.length (l.map (Value.int .i64)) ∧ Below w.heap.size w w' := by
  obtain ⟨i0, hi, hz0, hz1, hz2⟩ := info_parts infoInt
  obtain ⟨a, c, rfl⟩ := Rd.val h
  obtain ⟨b, off, rfl, hb, hcs⟩ := h.cell hne
  have hB0 : Below w.heap.size w (w.alloc (.cells #[] 3)) := (Below.refl _ w).alloc (Nat.le_refl _) _
  have hnews := Rd.news (h.below hB0 (Nat.le_refl _))
  have hown : (w.alloc (.cells #[] 3)).ownsRow w.heap.size 3 1 (.slice (some ⟨w.heap.size, 0, none⟩) 0 0) 0 [] := by
    have := World.ownsRow_lit (base := w.heap.size) (e := 3) (size := 1) w #[] 0 (Nat.le_refl _) (Nat.zero_le _) rfl
    exact this
  have hsz : (w.alloc (.cells #[] 3)).heap.size = w.heap.size + 1 := World.size_alloc _ _
  have heq := fun w' => Lib.run_eql_slice_nil (P := Tryz.prog) (w := w') (t := 32) (a := some ⟨b, off, none⟩) (n := l.length) (c := c)
  go_enter Tryz.func38, Tryz.ntmps38
  go_wp2_with (at_builtin; refine wpList_append_own _ rfl _ _ 32 rfl w.heap.size 3 i0 _ 1 8 Tryz.underlying32 hi hz0 hz1 hz2 rfl (by decide) _ _ _ rfl hown ⟨b, off, none⟩ l.length c (l.map (Value.int .i64)) rfl (by simp) hnews (by simp [Value.oneCell']) (by unfold maxLen; omega) (by omega) (by rw [hsz]; omega) ?_; intro v' w2 hown' hgrow _)
  go_ret
  rw [Nat.zero_add, List.nil_append] at hown'
  exact ⟨v', rfl, hown', hB0.grown hgrow (by rw [hsz]; omega) (fun j e => (hown.lt j e).1)⟩
theorem lastI_at {l : List Int} (hne : 0 < l.length) : lastI l = l[l.length - 1]'(by omega) := by
  unfold lastI
  rw [List.getLastD_eq_getLast?, List.getLast?_eq_getElem?, List.getElem?_eq_getElem (by omega)]
  rfl
set_option maxRecDepth 100000 in
set_option maxHeartbeats 1000000 in
theorem active_calls {B D : Nat} {lim size : Int} {l : List Int} {v : Value} (hne : 0 < l.length) (hl : l.length ≤ 1000000) (w : World) (hw : Blk w B 69 #[.pointer (some ⟨D, 0, none⟩), .int .i64 lim, v, .int .i64 size]) (h : Ints w w.heap.size v l) :
    Calls Tryz.prog 36 #[.pointer (some ⟨B, 0, none⟩)] w fun e w' => e = .returned (.int .i64 (lastI l)) ∧ Below w.heap.size w w' := by
  obtain ⟨a, c, rfl⟩ := Rd.val h
  have hcap := Rd.cap h
  obtain ⟨b, off, rfl, hb, hcs⟩ := h.cell hne
  obtain ⟨m, hm⟩ : ∃ m, l.length = m + 1 := ⟨l.length - 1, by omega⟩
  have q2 : w.cell? ⟨B, 2, none⟩ = some (.slice (some ⟨b, off, none⟩) l.length c) := hw.cell 2
  have q3 := hcs m (by omega)
  have hla : l[m]'(by omega) = lastI l := by rw [lastI_at hne]; simp only [hm, Nat.add_sub_cancel]
  rw [hla] at q3
  have z1 : IntKind.i64.wrap ((l.length : Int) - 1) = (m : Int) := by rw [IntKind.wrap_i64]; omega
  have z2 : m < l.length := by omega
  clear hcs hla h
  have HM := Lib.hid hm
  clear hm
  generalize lastI l = x at *
  generalize l.length = n at *
  go_enter Tryz.func36, Tryz.ntmps36
  go_wp2
  go_quiet (fail)
  go_wp2
  go_ret
  exact ⟨rfl, below_drewN (Below.refl _ w) nq⟩
section
variable {n : Nat} {W : World} {D M B : Nat} {X : List Nat} {s : DS} {lim size : Int} {l : List Int} {w : World}
set_option maxRecDepth 100000 in
set_option maxHeartbeats 1000000 in
theorem wsync_wk {N : Int} (hf : s.Fit N) (hN : N < 4611686018427380000) (hne : 0 < l.length) (hl : l.length ≤ 1000000) (h : Wk n W D M B X s lim l size w) :
    Calls Tryz.prog 12 #[.pointer (some ⟨B, 0, none⟩)] w fun e w' => e = .returned (.int .i64 (s.sync (nameB (idN (lastI l)))).1) ∧ Wk n W D M B X (s.sync (nameB (idN (lastI l)))).2 lim l size w' ∧ Chg [D, M] w w' := by
  have hfr := fit_sync hf (nameB (idN (lastI l)))
  obtain ⟨⟨e, s'⟩, hr⟩ : ∃ t, s.sync (nameB (idN (lastI l))) = t := ⟨_, rfl⟩
  rw [hr] at hfr ⊢
  obtain ⟨v, h1, h2⟩ := h.wr
  have hdr : Below w.heap.size w w.drew := (Below.refl _ w).drew
  have q0 : w.drew.cell? ⟨B, 0, none⟩ = some (.pointer (some ⟨D, 0, none⟩)) := h1.cell 0
  have hBl := h1.lt
  have hBn : B ∉ [D, M] := by simp; exact h.ne
  have hac := active_calls hne hl w.drew (h1.below hdr hBl) ((h2.ints.below hdr (Nat.le_refl _)).up hdr.size)
  have hnm := name_calls (lastI l)
  have HNM := Lib.hid hnm
  have hd := h.dk.next hdr
  clear hnm
  generalize nameB (idN (lastI l)) = nm at *
  generalize lastI l = x at *
  go_enter Tryz.func12, Tryz.ntmps12
  go_wp2_with fail
  go_region_held3 (fun w' => w'.cell? ⟨B, 0, none⟩ = some (.pointer (some ⟨D, 0, none⟩)))
    (first | exact q0 | exact (hB6.cell (p := ⟨B, 0, none⟩) (Nat.lt_of_lt_of_le hBl hB5.size)).trans ((hB5.cell (p := ⟨B, 0, none⟩) hBl).trans q0) | exact (hB5.cell (p := ⟨B, 0, none⟩) hBl).trans q0 | exact hC7.cell hBn hBl q0)
    (first | (go_at_call 36; refine hac.mono ?_; clear hac; rintro e w5 ⟨rfl, hB5⟩) | (go_at_call 35; refine (HNM.out _).mono ?_; clear HNM; rintro e w6 ⟨rfl, hB6⟩) | (go_at_call 37; refine (sync_dk hr (hfr.ok (by omega)) ((hd.next hB5).next hB6)).mono ?_; rintro e w7 ⟨rfl, h7, hC⟩; have hC7 := (Chg.of_below (bs := [D, M]) (hB5.trans (hB6.mono hB5.size))).trans hC))
  go_wp2
  go_ret
  exact ⟨rfl, h.disk h7 ((Chg.of_below hdr).trans hC7), (Chg.of_below hdr).trans hC7⟩
theorem wsize_wk (h : Wk n W D M B X s lim l size w) : Calls Tryz.prog 17 #[.pointer (some ⟨B, 0, none⟩)] w fun e w' => e = .returned (.int .i64 size) ∧ w' = w := by
  obtain ⟨v, h1, h2⟩ := h.wr
  have q3 : w.cell? ⟨B, 3, none⟩ = some (.int .i64 size) := h1.cell 3
  go_enter Tryz.func17, Tryz.ntmps17
  go_wp2
  go_ret
  exact ⟨rfl, rfl⟩
theorem wlimit_wk (h : Wk n W D M B X s lim l size w) : Calls Tryz.prog 18 #[.pointer (some ⟨B, 0, none⟩)] w fun e w' => e = .returned (.int .i64 lim) ∧ w' = w := by
  obtain ⟨v, h1, h2⟩ := h.wr
  have q1 : w.cell? ⟨B, 1, none⟩ = some (.int .i64 lim) := h1.cell 1
  go_enter Tryz.func18, Tryz.ntmps18
  go_wp2
  go_ret
  exact ⟨rfl, rfl⟩
theorem wsegs_wk (hne : 0 < l.length) (hl : l.length ≤ 1000000) (h : Wk n W D M B X s lim l size w) : Calls Tryz.prog 16 #[.pointer (some ⟨B, 0, none⟩)] w fun e w' => ∃ v', e = .returned v' ∧ w'.ownsRow w.heap.size 3 1 v' l.length (l.map (Value.int .i64)) ∧ Below w.heap.size w w' := by
  obtain ⟨v, h1, h2⟩ := h.wr
  have hcl := clone_calls l hne hl v w h2.ints
  obtain ⟨a, c, rfl⟩ := Rd.val h2.ints
  have q2 : w.cell? ⟨B, 2, none⟩ = some (.slice a l.length c) := h1.cell 2
  go_enter Tryz.func16, Tryz.ntmps16
  go_wp2_with fail
  refine hcl.mono ?_
  rintro e w1 ⟨v', rfl, hown, hB⟩
  obtain ⟨a', c', rfl⟩ := Rd.val (Rd.of_owns hown)
  go_wp2
  go_ret
  exact ⟨_, rfl, hown, hB⟩
end
end Go.Proofs.YtoaegleieacokaaGreat
