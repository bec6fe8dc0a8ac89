/- writer.begins. -/
import Derived.Test.YtoaegleieacokaaGreatWrOps
import Derived.Deep.AppendLies
import Derived.Deep.CutRange
import Derived.Deep.DeepCutAuto
namespace Go.Proofs.YtoaegleieacokaaGreat
open Go.RowKit Go.Shelf

/-- What begins has laid ahead of its steps: the slice of segments, one more in it, in a variable. -/
structure NxMid (w1 : World) (l : List Int) (id : Int) (Bn : Nat) (v : Value) (wx : World) : Prop where
  below : Below w1.heap.size w1 wx
  box : Boxed wx Bn 32 v
  row : wx.ownsRow w1.heap.size 3 1 v (l.length + 1) ((l ++ [id]).map (Value.int .i64))
  lo : w1.heap.size ≤ Bn
theorem below_undrew {X W' : World} (h : Below X.drew.heap.size X.drew W') : Below X.heap.size X W' := ⟨h.os, h.tape, h.output, h.size, h.block⟩
theorem cells_new' {w : World} {xs : List Value} {t : TypeId} {k : Nat} (hk : k = w.heap.size) : ∀ j u, xs[j]? = some u → (w.alloc (.cells xs.toArray t)).cell? ((⟨k, 0, none⟩ : Addr).add j) = some u := by
  subst hk
  exact cells_new w xs t
theorem news_alloc {W : World} {ad : Addr} {news : List Value} (h : ∀ j u, news[j]? = some u → W.cell? (ad.add j) = some u) (o : Obj) (hk : ad.block < W.heap.size) : ∀ j u, news[j]? = some u → (W.alloc o).cell? (ad.add j) = some u := fun j u hj =>
  (World.cell?_alloc_lt W o (ad.add j) (by unfold Addr.add; split <;> exact hk)).trans (h j u hj)
theorem news_below {W W' : World} {m : Nat} {ad : Addr} {news : List Value} (hb : Below m W W') (h : ∀ j u, news[j]? = some u → W.cell? (ad.add j) = some u) (hk : ad.block < m) : ∀ j u, news[j]? = some u → W'.cell? (ad.add j) = some u := fun j u hj =>
  (hb.cell (p := ad.add j) (by unfold Addr.add; split <;> exact hk)).trans (h j u hj)
section
variable {n : Nat} {W : World} {D M B : Nat} {X : List Nat} {s : DS} {lim size : Int} {l : List Int} {w : World}
/-- The segments behind begins, and how long the active one is. -/
def begL (r : Int) (l : List Int) : List Int := if r = 0 then l ++ [lastI l + 1] else l
def begZ (r size : Int) : Int := if r = 0 then 16 else size
theorem begL_ok (l : List Int) : begL 0 l = l ++ [lastI l + 1] := rfl
theorem begL_no {r : Int} (h : r ≠ 0) (l : List Int) : begL r l = l := if_neg h
theorem begZ_no {r : Int} (h : r ≠ 0) (z : Int) : begZ r z = z := if_neg h
/-- What begins does with the disk. -/
def DS.beginS (s : DS) (l : List Int) : Int × DS :=
  andThen (andThen (s.sync (nameB (idN (lastI l)))) (fun s => s.made (idN (lastI l + 1)))) (fun s => s.save (sheetB (l ++ [lastI l + 1])))
def beginF (l : List Int) (x : Fin 3) (s : DS) : Int × DS := match x.val with | 0 => s.sync (nameB (idN (lastI l))) | 1 => s.made (idN (lastI l + 1)) | _ => s.save (sheetB (l ++ [lastI l + 1]))
theorem beginF_run (l : List Int) (s : DS) : runP (beginF l) (List.finRange 3) s = s.beginS l := rfl
theorem beginF_fit (l : List Int) (x : Fin 3) (s : DS) (N : Int) (h : s.Fit N) : (beginF l x s).2.Fit (N + 8) := by
  unfold beginF
  split
  · exact (fit_sync h _).up (by omega)
  · exact (fit_made h _).up (by omega)
  · exact (fit_save h _).up (by omega)
theorem fit_beginS {N : Int} {s : DS} (h : s.Fit N) (l : List Int) : (s.beginS l).2.Fit (N + 24) := (runP_fit (beginF_fit l) h (List.finRange 3)).up (by simp)
set_option maxRecDepth 100000 in
set_option maxHeartbeats 1000000 in
theorem bclo1_dk {N : Int} (hf : s.Fit N) (hN : N < 4611686018427370000) {Bp Bi Bw : Nat} {cs : Array Value} {id : Int} (hp : Boxed w Bp 27 (.pointer (some ⟨Bw, 0, none⟩))) (hi : Boxed w Bi 3 (.int .i64 id))
    (hw : Blk w Bw 69 cs) (hcs : cs[0]? = some (.pointer (some ⟨D, 0, none⟩))) (h : Dk n W D M s w) : Calls Tryz.prog 62 #[.pointer (some ⟨Bp, 0, none⟩), .pointer (some ⟨Bi, 0, none⟩)] w fun e w' => e = .returned (.int .i64 (s.made (idN id)).1) ∧ Dk n W D M (s.made (idN id)).2 w' ∧ Chg [D, M] w w' := by
  have q1 : w.drew.cell? ⟨Bp, 0, none⟩ = some (.pointer (some ⟨Bw, 0, none⟩)) := hp.cell
  have q2 : w.drew.cell? ⟨Bw, 0, none⟩ = some (.pointer (some ⟨D, 0, none⟩)) := (hw.cell 0).trans hcs
  have q3 : w.drew.cell? ⟨Bi, 0, none⟩ = some (.int .i64 id) := hi.cell
  have hdr : Below w.heap.size w w.drew := (Below.refl _ w).drew
  have d1 := box_aside hp h.at'
  have d2 : Bw ∉ [D, M] := by simp; exact blk_aside hw (by decide) h.at'
  have d3 := box_aside hi h.at'
  have l1 := hp.lt
  have l2 := hw.lt
  have l3 := hi.lt
  have hmd := made_dk hf hN id (h.next hdr)
  go_enter Tryz.func62, Tryz.ntmps62
  go_wp2_with fail
  go_region_held3 (fun w' => w'.cell? ⟨Bp, 0, none⟩ = some (.pointer (some ⟨Bw, 0, none⟩)) ∧ w'.cell? ⟨Bw, 0, none⟩ = some (.pointer (some ⟨D, 0, none⟩)) ∧ w'.cell? ⟨Bi, 0, none⟩ = some (.int .i64 id))
    (first | exact ⟨q1, q2, q3⟩ | exact ⟨hC6.cell d1 l1 q1, hC6.cell d2 l2 q2, hC6.cell d3 l3 q3⟩)
    (first | (go_at_call 28; refine hmd.mono ?_; clear hmd; rintro e w6 ⟨rfl, h6, hC⟩; have hC6 := (Chg.of_below (bs := [D, M]) hdr).trans hC))
  go_wp2
  go_ret
  exact ⟨rfl, h6, hC6⟩
set_option maxRecDepth 100000 in
set_option maxHeartbeats 1000000 in
theorem bclo2_dk {N : Int} (hf : s.Fit N) (hN : N < 4611686018427370000) {Bp Bn Bw : Nat} {cs : Array Value} {a : Option Addr} {c : Nat} {L : List Int} (hL : isL L = true) (hp : Boxed w Bp 27 (.pointer (some ⟨Bw, 0, none⟩))) (hn : Boxed w Bn 32 (.slice a L.length c))
    (hw : Blk w Bw 69 cs) (hcs : cs[0]? = some (.pointer (some ⟨D, 0, none⟩))) (hv : Ints w w.heap.size (.slice a L.length c) L) (h : Dk n W D M s w) : Calls Tryz.prog 63 #[.pointer (some ⟨Bp, 0, none⟩), .pointer (some ⟨Bn, 0, none⟩)] w fun e w' => e = .returned (.int .i64 (s.save (sheetB L)).1) ∧ Dk n W D M (s.save (sheetB L)).2 w' ∧ Chg [D, M] w w' := by
  have q1 : w.drew.cell? ⟨Bp, 0, none⟩ = some (.pointer (some ⟨Bw, 0, none⟩)) := hp.cell
  have q2 : w.drew.cell? ⟨Bw, 0, none⟩ = some (.pointer (some ⟨D, 0, none⟩)) := (hw.cell 0).trans hcs
  have q3 : w.drew.cell? ⟨Bn, 0, none⟩ = some (.slice a L.length c) := hn.cell
  have hdr : Below w.heap.size w w.drew := (Below.refl _ w).drew
  have d1 := box_aside hp h.at'
  have d2 : Bw ∉ [D, M] := by simp; exact blk_aside hw (by decide) h.at'
  have d3 := box_aside hn h.at'
  have l1 := hp.lt
  have l2 := hw.lt
  have l3 := hn.lt
  have hsv := save_dk hf hN a c L hL ((hv.below hdr (Nat.le_refl _)).up hdr.size) (h.next hdr)
  rw [show (⟨(bytesL L).toArray⟩ : ByteArray) = sheetB L from rfl] at hsv
  generalize sheetB L = H at *
  generalize L.length = m at *
  go_enter Tryz.func63, Tryz.ntmps63
  go_wp2_with fail
  go_region_held3 (fun w' => w'.cell? ⟨Bp, 0, none⟩ = some (.pointer (some ⟨Bw, 0, none⟩)) ∧ w'.cell? ⟨Bw, 0, none⟩ = some (.pointer (some ⟨D, 0, none⟩)) ∧ w'.cell? ⟨Bn, 0, none⟩ = some (.slice a m c))
    (first | exact ⟨q1, q2, q3⟩ | exact ⟨hC6.cell d1 l1 q1, hC6.cell d2 l2 q2, hC6.cell d3 l3 q3⟩)
    (first | (go_at_call 30; refine hsv.mono ?_; clear hsv; rintro e w6 ⟨rfl, h6, hC⟩; have hC6 := (Chg.of_below (bs := [D, M]) hdr).trans hC))
  go_wp2
  go_ret
  exact ⟨rfl, h6, hC6⟩
theorem begins_all {N : Int} (hf : s.Fit N) (hN : N < 4611686018427360000) (hne : 0 < l.length) (hL : isL (l ++ [lastI l + 1]) = true) {Bp Bi Bn bs : Nat} {a : Option Addr} {c : Nat} (b0 : Boxed w Bp 27 (.pointer (some ⟨B, 0, none⟩))) (b1 : Boxed w Bi 3 (.int .i64 (lastI l + 1)))
    (b2 : Boxed w Bn 32 (.slice a (l ++ [lastI l + 1]).length c)) (hv : Rx w [D, M] (.slice a (l ++ [lastI l + 1]).length c) (l ++ [lastI l + 1]))
    (bS : Blk w bs 44 #[.func (.func 12) #[.pointer (some ⟨B, 0, none⟩)] #[], .func (.func 62) #[] #[.pointer (some ⟨Bp, 0, none⟩), .pointer (some ⟨Bi, 0, none⟩)], .func (.func 63) #[] #[.pointer (some ⟨Bp, 0, none⟩), .pointer (some ⟨Bn, 0, none⟩)]]) (h : Wk n W D M B X s lim l size w) :
    Calls Tryz.prog 26 #[.slice (some ⟨bs, 0, none⟩) 3 3] w fun e w' => e = .returned (.int .i64 (s.beginS l).1) ∧ Dk n W D M (s.beginS l).2 w' ∧ Chg [D, M] w w' := by
  have d0 := box_aside b0 h.dk.at'
  have d1 := box_aside b1 h.dk.at'
  have d2 := box_aside b2 h.dk.at'
  have hle := (isL_sheet hL).le
  simp only [List.length_append, List.length_cons, List.length_nil] at hle
  obtain ⟨v, hw, hvv⟩ := h.wr
  have d3 : B ∉ [D, M] := by simp; exact h.ne
  have hall := all_steps (n := n) (W0 := W) (D := D) (M := M) [⟨12, #[.pointer (some ⟨B, 0, none⟩)], #[]⟩, ⟨62, #[], #[.pointer (some ⟨Bp, 0, none⟩), .pointer (some ⟨Bi, 0, none⟩)]⟩, ⟨63, #[], #[.pointer (some ⟨Bp, 0, none⟩), .pointer (some ⟨Bn, 0, none⟩)]⟩] (by simp) (beginF l) bs 3 w bS.lt (blk_aside bS (by decide) h.dk.at')
    (fun k hk => by
      have hk4 : k < 3 := hk
      rw [bS.cell]
      match k, hk4 with
      | 0, _ => rfl
      | 1, _ => rfl
      | 2, _ => rfl)
    (fun x => by
      match x with
      | ⟨0, _⟩ => exact enters_of Tryz.func12 (by kernel_rfl) rfl
      | ⟨1, _⟩ => exact enters_of Tryz.func62 (by kernel_rfl) rfl
      | ⟨2, _⟩ => exact enters_of Tryz.func63 (by kernel_rfl) rfl)
    (beginF_fit l) hf (K := 4611686018427370000) (by omega)
    (fun x A t N' hch hd hft hN' => by
      match x with
      | ⟨0, _⟩ => exact (wsync_wk hft (by omega) hne (by omega) (h.disk hd hch)).mono fun e B' ⟨h1, h2, h3⟩ => ⟨h1, h2.dk, h3⟩
      | ⟨1, _⟩ => exact bclo1_dk hft hN' (boxed_chg b0 hch d0) (boxed_chg b1 hch d1) ((hch.block B hw.lt d3).trans hw) rfl hd
      | ⟨2, _⟩ => exact bclo2_dk hft hN' hL (boxed_chg b0 hch d0) (boxed_chg b2 hch d2) ((hch.block B hw.lt d3).trans hw) rfl (hv.chg hch (by simp)).ints hd) h.dk
  exact hall
set_option maxRecDepth 100000 in
set_option maxHeartbeats 4000000 in
theorem begins_wk {N : Int} (hf : s.Fit N) (hN : N < 4611686018427360000) (hne : 0 < l.length) (hL : isL (l ++ [lastI l + 1]) = true) (hid : 0 ≤ lastI l ∧ lastI l ≤ 99999999) (h : Wk n W D M B X s lim l size w) :
    Calls Tryz.prog 33 #[.pointer (some ⟨B, 0, none⟩)] w fun e w' => e = .returned (.int .i64 (s.beginS l).1) ∧ Wk n W D M B X (s.beginS l).2 lim (begL (s.beginS l).1 l) (begZ (s.beginS l).1 size) w' ∧ Chg [B, D, M] w w' := by
  have hle := (isL_sheet hL).le
  have hl : l.length + 1 ≤ 200 := by simpa using hle
  clear hle
  obtain ⟨i0, hi, hz0, hz1, hz2⟩ := info_parts infoInt
  obtain ⟨v, h1, h2⟩ := h.wr
  have b0 := Boxed.new w 27 (.pointer (some ⟨B, 0, none⟩))
  have hB0 : Below w.heap.size w (w.alloc (.cells #[.pointer (some ⟨B, 0, none⟩)] 27)) := (Below.refl _ w).alloc (Nat.le_refl _) _
  have hBl := h1.lt
  have hac := active_calls hne (by omega) _ (h1.below hB0 hBl) ((h2.ints.below hB0 (Nat.le_refl _)).up hB0.size)
  have hcap := Rd.val h2.ints
  obtain ⟨a, c, rfl⟩ := hcap
  have hid1 : Hid (lastI l + 1 = lastI l + 1) := Lib.hid rfl
  generalize hx : lastI l = x at *
  have HX := Lib.hid hx
  clear hx hid1
  go_enter Tryz.func33, Tryz.ntmps33
  go_wp2_with fail
  refine hac.mono ?_
  clear hac
  rintro e w2 ⟨rfl, hB2⟩
  obtain ⟨hx0, hx1⟩ := hid
  go_wp2_with fail
  have hB3 : Below w2.heap.size w2 (w2.alloc (.cells #[.int .i64 (x + 1)] 3)) := (Below.refl _ w2).alloc (Nat.le_refl _) _
  have bI := Boxed.new w2 3 (.int .i64 (x + 1))
  have hz0' : (w.alloc (.cells #[.pointer (some ⟨B, 0, none⟩)] 27)).heap.size = w.heap.size + 1 := World.size_alloc _ _
  have hs2 : w.heap.size + 1 ≤ w2.heap.size := by have := hB2.size; omega
  have b3 := boxed_below (boxed_below b0 hB2 (by omega)) hB3 (by omega)
  have hBw3 := hB0.trans ((hB2.mono (by omega)).trans (hB3.mono (by omega)))
  clear hB0 hB2 hB3 b0 hz0'
  generalize w2.alloc (.cells #[.int .i64 (x + 1)] 3) = w3 at *
  have h1' := h1.below hBw3 hBl
  have hInt := (h2.ints.below hBw3 (Nat.le_refl _)).up hBw3.size
  have lx := b3.lt
  have lb := h1'.lt
  have li := bI.lt
  have hS : ∀ W', Below w3.heap.size w3 W' → W'.cell? ⟨w.heap.size, 0, none⟩ = some (.pointer (some ⟨B, 0, none⟩)) ∧ W'.cell? ⟨B, 2, none⟩ = some (.slice a l.length c) ∧ W'.cell? ⟨w2.heap.size, 0, none⟩ = some (.int .i64 (x + 1)) := fun W' hb =>
    ⟨(hb.cell (p := ⟨w.heap.size, 0, none⟩) lx).trans b3.cell, (hb.cell (p := ⟨B, 2, none⟩) lb).trans (h1'.cell 2), (hb.cell (p := ⟨w2.heap.size, 0, none⟩) li).trans bI.cell⟩
  have hI : ∀ W', Below w3.heap.size w3 W' → Ints W' W'.heap.size (.slice a l.length c) l := fun W' hb => (hInt.below hb (Nat.le_refl _)).up hb.size
  clear h1' hInt
  go_cut [4] from 9 to 16 (fun s4 wx => ∃ Bn v', s4 = .pointer (some ⟨Bn, 0, none⟩) ∧ NxMid w3 l (x + 1) Bn v' wx)
  case first =>
    go_region_held3 (fun w' => w'.cell? ⟨w.heap.size, 0, none⟩ = some (.pointer (some ⟨B, 0, none⟩)) ∧ w'.cell? ⟨B, 2, none⟩ = some (.slice a l.length c) ∧ w'.cell? ⟨w2.heap.size, 0, none⟩ = some (.int .i64 (x + 1)))
      ((refine hS _ ?_; (repeat (first | exact Below.refl _ _ | assumption | refine Below.drew ?_ | refine Below.alloc ?_ (by first | omega | (simp; done) | (simp; omega)) _ | refine Below.setCell ?_ (by first | omega | (simp; done) | (simp; omega)) _))))
      (first | (go_at_call 38; refine (clone_calls l hne (by omega) _ _ (hI _ (by (repeat (first | exact Below.refl _ _ | assumption | refine Below.drew ?_ | refine Below.alloc ?_ (by first | omega | (simp; done) | (simp; omega)) _ | refine Below.setCell ?_ (by first | omega | (simp; done) | (simp; omega)) _))))).mono ?_; rintro e w5 ⟨v5, rfl, hown5, hB5⟩; replace hB5 := below_undrew hB5; have hs5' := hB5.size; (try simp only [World.size_alloc] at hs5'); have hB5w := Below.trans (show Below w3.heap.size w3 _ by (repeat (first | exact Below.refl _ _ | assumption | refine Below.drew ?_ | refine Below.alloc ?_ (by first | omega | (simp; done) | (simp; omega)) _ | refine Below.setCell ?_ (by first | omega | (simp; done) | (simp; omega)) _))) (hB5.mono (by first | omega | (simp; done) | (simp; omega))); have hs5 := hB5w.size; replace hown5 := owns_base hown5 (show w3.heap.size ≤ _ by first | exact Nat.le_refl _ | (simp; done) | (simp; omega)); obtain ⟨a5, c5, rfl⟩ := Rd.val (Rd.of_owns hown5)) | (refine step_append_lies _ (by rfl) _ _ _ (by rfl) w3.heap.size 3 i0 _ 1 8 Tryz.underlying32 hi hz0 hz1 hz2 rfl (by omega) (.slice a5 l.length c5) l.length (l.map (Value.int .i64)) (by rfl) (by first | exact hown5 | exact hown5.alloc _ | exact (hown5.alloc _).alloc _) _ 1 _ [.int .i64 (x + 1)] (by rfl) (by rfl) (by first | (refine cells_new' ?_ <;> (first | omega | rfl | (simp; done) | (simp; omega))) | (refine news_alloc (cells_new' ?_) _ ?_ <;> (first | omega | rfl | (simp; done) | (simp; omega))) | (refine news_below hB5 (cells_new' ?_) ?_ <;> (first | omega | rfl | (simp; done) | (simp; omega))) | (refine news_below hB5 (news_alloc (cells_new' ?_) _ ?_) ?_ <;> (first | omega | rfl | (simp; done) | (simp; omega))) | (refine news_alloc (news_below hB5 (cells_new' ?_) ?_) _ ?_ <;> (first | omega | rfl | (simp; done) | (simp; omega)))) (by simp [Value.oneCell']) (by omega) (by unfold maxLen; omega) (by omega) (by first | omega | (simp; done) | (simp; omega)) _ rfl ?_; intro g cap w6 hown6 hgrow6 _ _; have hB6w := Below.trans (show Below w3.heap.size w3 _ by (repeat (first | exact Below.refl _ _ | assumption | refine Below.drew ?_ | refine Below.alloc ?_ (by first | omega | (simp; done) | (simp; omega)) _ | refine Below.setCell ?_ (by first | omega | (simp; done) | (simp; omega)) _))) ((Below.refl w3.heap.size _).grown hgrow6 (by first | omega | (simp; done) | (simp; omega)) (fun j e => (hown5.lt j e).1)); have hs6 := hB6w.size; (first | (have bVa := boxed_below (Boxed.new w3 32 (.slice none 0 0)) hB5 (by first | omega | (simp; done) | (simp; omega)); have bV6 := bVa.kept hgrow6 (bVa.not_row (e := 3) (by decide) (by first | exact hown5 | exact hown5.alloc _ | exact (hown5.alloc _).alloc _)); have cV := bV6.cell; have fV := bV6.frozen; have lV := bV6.lt; try simp only [World.size_alloc] at bV6 cV fV lV) | (have bVa := boxed_below ((Boxed.new w3 32 (.slice none 0 0)).alloc (.cells #[.int .i64 (x + 1)] 3)) hB5 (by first | omega | (simp; done) | (simp; omega)); have bV6 := bVa.kept hgrow6 (bVa.not_row (e := 3) (by decide) (by first | exact hown5 | exact hown5.alloc _ | exact (hown5.alloc _).alloc _)); have cV := bV6.cell; have fV := bV6.frozen; have lV := bV6.lt; try simp only [World.size_alloc] at bV6 cV fV lV) | (have bVa := boxed_below (Boxed.new (w3.alloc (.cells #[.int .i64 (x + 1)] 3)) 32 (.slice none 0 0)) hB5 (by first | omega | (simp; done) | (simp; omega)); have bV6 := bVa.kept hgrow6 (bVa.not_row (e := 3) (by decide) (by first | exact hown5 | exact hown5.alloc _ | exact (hown5.alloc _).alloc _)); have cV := bV6.cell; have fV := bV6.frozen; have lV := bV6.lt; try simp only [World.size_alloc] at bV6 cV fV lV) | (have bVa := (boxed_below (Boxed.new w3 32 (.slice none 0 0)) hB5 (by first | omega | (simp; done) | (simp; omega))).alloc (.cells #[.int .i64 (x + 1)] 3); have bV6 := bVa.kept hgrow6 (bVa.not_row (e := 3) (by decide) (by first | exact hown5 | exact hown5.alloc _ | exact (hown5.alloc _).alloc _)); have cV := bV6.cell; have fV := bV6.frozen; have lV := bV6.lt; try simp only [World.size_alloc] at bV6 cV fV lV) | (have bVa := (boxed_below ((Boxed.new w3 32 (.slice none 0 0)).alloc (.cells #[.int .i64 (x + 1)] 3)) hB5 (by first | omega | (simp; done) | (simp; omega))).alloc (.cells #[.int .i64 (x + 1)] 3); have bV6 := bVa.kept hgrow6 (bVa.not_row (e := 3) (by decide) (by first | exact hown5 | exact hown5.alloc _ | exact (hown5.alloc _).alloc _)); have cV := bV6.cell; have fV := bV6.frozen; have lV := bV6.lt; try simp only [World.size_alloc] at bV6 cV fV lV) | (have bVa := (boxed_below (Boxed.new (w3.alloc (.cells #[.int .i64 (x + 1)] 3)) 32 (.slice none 0 0)) hB5 (by first | omega | (simp; done) | (simp; omega))).alloc (.cells #[.int .i64 (x + 1)] 3); have bV6 := bVa.kept hgrow6 (bVa.not_row (e := 3) (by decide) (by first | exact hown5 | exact hown5.alloc _ | exact (hown5.alloc _).alloc _)); have cV := bV6.cell; have fV := bV6.frozen; have lV := bV6.lt; try simp only [World.size_alloc] at bV6 cV fV lV) | (have bVa := Boxed.new w5 32 (.slice none 0 0); have bV6 := bVa.kept hgrow6 (bVa.not_row (e := 3) (by decide) (by first | exact hown5 | exact hown5.alloc _ | exact (hown5.alloc _).alloc _)); have cV := bV6.cell; have fV := bV6.frozen; have lV := bV6.lt; try simp only [World.size_alloc] at bV6 cV fV lV) | (have bVa := (Boxed.new w5 32 (.slice none 0 0)).alloc (.cells #[.int .i64 (x + 1)] 3); have bV6 := bVa.kept hgrow6 (bVa.not_row (e := 3) (by decide) (by first | exact hown5 | exact hown5.alloc _ | exact (hown5.alloc _).alloc _)); have cV := bV6.cell; have fV := bV6.frozen; have lV := bV6.lt; try simp only [World.size_alloc] at bV6 cV fV lV) | (have bVa := Boxed.new (w5.alloc (.cells #[.int .i64 (x + 1)] 3)) 32 (.slice none 0 0); have bV6 := bVa.kept hgrow6 (bVa.not_row (e := 3) (by decide) (by first | exact hown5 | exact hown5.alloc _ | exact (hown5.alloc _).alloc _)); have cV := bV6.cell; have fV := bV6.frozen; have lV := bV6.lt; try simp only [World.size_alloc] at bV6 cV fV lV) | skip)))
    all_goals
      go_wp2_with fail
      go_meet
      first
        | exact ⟨_, _, rfl, hB6w.alloc (by first | omega | (simp; done) | (simp; omega)) _, Boxed.new w6 _ _, by rw [List.map_append]; exact hown6.alloc _, hs6⟩
        | exact ⟨_, _, rfl, hB6w.setCell (by first | omega | (simp; done) | (simp; omega)) _, bV6.set _, by rw [List.map_append]; exact ownsRow_setCell_other hown6 (bV6.not_row (by decide) hown6).symm _, (by first | omega | (simp; done) | (simp; omega))⟩
  case rest =>
    obtain ⟨Bn, v', rfl, hmid⟩ := hcut
    obtain ⟨g, cap, rfl⟩ := ownsRow_succ hmid.row
    have cN := hmid.box.cell
    obtain ⟨cX, _, _⟩ := hS wc hmid.below
    have hBc := hBw3.trans (hmid.below.mono (by omega))
    have hsz3 := hmid.below.size
    have hlo := hmid.lo
    have bS := Blk.new wc 44 #[.func (.func 12) #[.pointer (some ⟨B, 0, none⟩)] #[], .func (.func 62) #[] #[.pointer (some ⟨w.heap.size, 0, none⟩), .pointer (some ⟨w2.heap.size, 0, none⟩)], .func (.func 63) #[] #[.pointer (some ⟨w.heap.size, 0, none⟩), .pointer (some ⟨Bn, 0, none⟩)]]
    have hB4 : Below wc.heap.size wc (wc.alloc (.cells #[.func (.func 12) #[.pointer (some ⟨B, 0, none⟩)] #[], .func (.func 62) #[] #[.pointer (some ⟨w.heap.size, 0, none⟩), .pointer (some ⟨w2.heap.size, 0, none⟩)], .func (.func 63) #[] #[.pointer (some ⟨w.heap.size, 0, none⟩), .pointer (some ⟨Bn, 0, none⟩)]] 44)) := (Below.refl _ wc).alloc (Nat.le_refl _) _
    have hrow := hmid.row.alloc (.cells #[.func (.func 12) #[.pointer (some ⟨B, 0, none⟩)] #[], .func (.func 62) #[] #[.pointer (some ⟨w.heap.size, 0, none⟩), .pointer (some ⟨w2.heap.size, 0, none⟩)], .func (.func 63) #[] #[.pointer (some ⟨w.heap.size, 0, none⟩), .pointer (some ⟨Bn, 0, none⟩)]] 44)
    have e0 := boxed_below (boxed_below b3 hmid.below lx) hB4 (by omega)
    have e1 := boxed_below (boxed_below bI hmid.below li) hB4 (by omega)
    have e2 := boxed_below hmid.box hB4 hmid.box.lt
    have h4 := (h.next hBc).next hB4
    have hDl := h.dk.at'.blk.lt
    have hMl := h.dk.at'.map.lt
    have hRx : Rx (wc.alloc (.cells #[.func (.func 12) #[.pointer (some ⟨B, 0, none⟩)] #[], .func (.func 62) #[] #[.pointer (some ⟨w.heap.size, 0, none⟩), .pointer (some ⟨w2.heap.size, 0, none⟩)], .func (.func 63) #[] #[.pointer (some ⟨w.heap.size, 0, none⟩), .pointer (some ⟨Bn, 0, none⟩)]] 44)) (B :: D :: M :: X) (.slice (some ⟨g, 0, none⟩) (l ++ [x + 1]).length cap) (l ++ [x + 1]) := by
      have hr2 := hrow
      rw [show l.length + 1 = (l ++ [x + 1]).length from by simp] at hr2
      refine Rx.of_owns hr2 fun y hy => ?_
      simp only [List.mem_cons] at hy
      rcases hy with rfl | rfl | rfl | hy
      · omega
      · omega
      · omega
      · have := h.hX y hy; have := hBw3.size; omega
    rw [show l.length + 1 = (l ++ [x + 1]).length from by simp] at e2
    rw [← HX.out] at e1 e2 hRx hL
    have hall := begins_all hf hN hne hL e0 e1 e2 (hRx.sub (by simp)) bS h4
    rw [HX.out] at e1 e2 hRx hL
    have hC4 : Chg [B, D, M] w (wc.alloc (.cells #[.func (.func 12) #[.pointer (some ⟨B, 0, none⟩)] #[], .func (.func 62) #[] #[.pointer (some ⟨w.heap.size, 0, none⟩), .pointer (some ⟨w2.heap.size, 0, none⟩)], .func (.func 63) #[] #[.pointer (some ⟨w.heap.size, 0, none⟩), .pointer (some ⟨Bn, 0, none⟩)]] 44)) := (Chg.of_below hBc).trans ((Chg.of_below hB4))
    clear hB4 bS hrow hS hI b3 bI hmid h1 h2
    go_wp2_with fail
    refine hall.mono ?_
    clear hall
    rintro e w5 ⟨rfl, h5, hC5⟩
    obtain ⟨⟨er, s'⟩, hr⟩ : ∃ q, s.beginS l = q := ⟨_, rfl⟩
    rw [hr] at h5
    have hw5 := h4.disk h5 hC5
    have hC6 := hC4.trans (hC5.more (by simp))
    rw [hr]
    have HR := Lib.hid hr
    clear hr
    by_cases he : er = 0
    · subst he
      have g0 := (boxed_chg e0 hC5 (by simp; omega)).cell
      have g2 := (boxed_chg e2 hC5 (by simp; omega)).cell
      simp only [List.length_append, List.length_cons, List.length_nil] at g2
      have hRx5 := hRx.chg hC5 (by simp)
      obtain ⟨v5, hw1, hw2⟩ := hw5.wr
      have k2 : w5.cell? ⟨B, 2, none⟩ = some v5 := hw1.cell 2
      have k3 : w5.cell? ⟨B, 3, none⟩ = some (.int .i64 size) := hw1.cell 3
      obtain ⟨a5, c5, rfl, _⟩ := hw2
      have f2 := hw1.frozen 2
      have f3 := hw1.frozen 3
      have hst := (hw1.set 2 (.slice (some ⟨g, 0, none⟩) (l.length + 1) cap)).set 3 (.int .i64 16)
      have hCB : Chg [B] w5 ((w5.setCell ⟨B, 2, none⟩ (.slice (some ⟨g, 0, none⟩) (l.length + 1) cap)).setCell ⟨B, 3, none⟩ (.int .i64 16)) := (Chg.setCell (p := ⟨B, 2, none⟩) (by simp) _).trans (Chg.setCell (p := ⟨B, 3, none⟩) (by simp) _)
      have hdr := (Below.refl ((w5.setCell ⟨B, 2, none⟩ (.slice (some ⟨g, 0, none⟩) (l.length + 1) cap)).setCell ⟨B, 3, none⟩ (.int .i64 16)).heap.size ((w5.setCell ⟨B, 2, none⟩ (.slice (some ⟨g, 0, none⟩) (l.length + 1) cap)).setCell ⟨B, 3, none⟩ (.int .i64 16))).drew
      have hCD := hCB.trans (Chg.of_below hdr)
      have hBl5 := hw1.lt
      have hfin : Wk n W D M B X s' lim (l ++ [x + 1]) 16 (((w5.setCell ⟨B, 2, none⟩ (.slice (some ⟨g, 0, none⟩) (l.length + 1) cap)).setCell ⟨B, 3, none⟩ (.int .i64 16)).drew) := by
        refine ⟨⟨h5.at'.chg hCD (by simp; exact h.ne.1.symm) (by simp; exact h.ne.2.symm), h5.below.trans (hCD.below h5.size (by simp; exact h.hB)), h5.hD, h5.hM, h5.ok⟩, h.hB, h.ne, hw5.old hCD.size, .slice (some ⟨g, 0, none⟩) (l.length + 1) cap, ?_, ?_⟩
        · exact hst
        · have := hRx5.chg hCD (by simp)
          simp only [List.length_append, List.length_cons, List.length_nil] at this
          exact this
      have HF := Lib.hid hfin
      have HC := Lib.hid (hC6.trans (hCD.more (cs := [B, D, M]) (by simp)))
      clear hfin hCD hdr hCB hst hw1 hRx5 hRx hC6 hC5 hC4 h5 hw5 e0 e1 e2 cN cX h4
      go_wp2_with fail
      go_region
      all_goals
        go_wp2
        go_ret
        rw [HR.out]
        refine ⟨rfl, ?_, HC.out⟩
        rw [begL_ok, HX.out]
        exact HF.out
    · have hbe : (er == 0) = false := beq_eq_false_iff_ne.2 he
      have HE := Lib.hid he
      clear he
      go_wp2
      go_ret
      rw [HR.out]
      refine ⟨rfl, ?_, hC6⟩
      rw [begL_no HE.out, begZ_no HE.out]
      exact hw5
end
end Go.Proofs.YtoaegleieacokaaGreat
