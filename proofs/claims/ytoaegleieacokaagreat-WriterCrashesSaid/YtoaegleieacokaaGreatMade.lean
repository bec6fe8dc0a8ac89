/- writer.made: a segment's file, with nothing but its head. -/
import Derived.Test.YtoaegleieacokaaGreatSteps
import Derived.Test.YtoaegleieacokaaGreatHeadB
namespace Go.Proofs.YtoaegleieacokaaGreat
open Go.RowKit Go.Shelf

/-- The file is let go, if it is there. -/
def DS.rmv (s : DS) (nm : ByteArray) : Int × DS := (if (s.remove nm).1 = 19 then 0 else (s.remove nm).1, (s.remove nm).2)
/-- What made does. -/
def DS.made (s : DS) (m : Nat) : Int × DS :=
  andThen (andThen (andThen (s.rmv (nameB m)) (fun s => s.create (nameB m))) (fun s => s.append (nameB m) (headB m))) (fun s => s.sync (nameB m))
theorem fit_rmv {N : Int} {s : DS} (h : s.Fit N) (nm : ByteArray) : (s.rmv nm).2.Fit (N + 1) := fit_remove h nm
theorem fit_made {N : Int} {s : DS} (h : s.Fit N) (m : Nat) : (s.made m).2.Fit (N + 4) :=
  (fit_then (fit_then (fit_then (fit_rmv h _) (fun s h => fit_create h _)) (fun s h => fit_append h _ _)) (fun s h => fit_sync h _)).up (by omega)
section
variable {n : Nat} {W : World} {D M : Nat} {s : DS} {w : World}
theorem mclo1_dk {N : Int} (hf : s.Fit N) (hN : N < 4611686018427380000) {Bd Bn : Nat} {nm : ByteArray} (hb : Boxed w Bd 25 (.pointer (some ⟨D, 0, none⟩))) (hbn : Boxed w Bn 9 (.string nm)) (h : Dk n W D M s w) : Calls Tryz.prog 48 #[.pointer (some ⟨Bd, 0, none⟩), .pointer (some ⟨Bn, 0, none⟩)] w fun e w' => e = .returned (.int .i64 (s.rmv nm).1) ∧ Dk n W D M (s.rmv nm).2 w' ∧ Chg [D, M] w w' := by
  have hfr := fit_remove hf nm
  have hcl : s.rmv nm = (if (s.remove nm).1 = 19 then 0 else (s.remove nm).1, (s.remove nm).2) := rfl
  obtain ⟨⟨e, s'⟩, hr⟩ : ∃ t, s.remove nm = t := ⟨_, rfl⟩
  rw [hr] at hcl hfr
  simp only at hcl hfr
  rw [hcl]
  obtain ⟨r, hr2⟩ : ∃ r, (if e = 19 then 0 else e) = r := ⟨_, rfl⟩
  rw [hr2]
  have hc := hb.cell
  have hc2 := hbn.cell
  go_enter Tryz.func48, Tryz.ntmps48
  go_wp2_with fail
  refine (remove_dk hr (hfr.ok (by omega)) h).mono ?_
  rintro x w1 ⟨rfl, h1, hC⟩
  by_cases he : e = 19
  · rw [if_pos he] at hr2
    subst hr2 he
    go_wp2
    go_ret
    exact ⟨rfl, h1, hC⟩
  · rw [if_neg he] at hr2
    subst hr2
    go_wp2
    go_ret
    exact ⟨rfl, h1, hC⟩
theorem mclo2_dk {N : Int} (hf : s.Fit N) (hN : N < 4611686018427380000) {Bd Bn : Nat} {nm : ByteArray} (hb : Boxed w Bd 25 (.pointer (some ⟨D, 0, none⟩))) (hbn : Boxed w Bn 9 (.string nm)) (h : Dk n W D M s w) : Calls Tryz.prog 49 #[.pointer (some ⟨Bd, 0, none⟩), .pointer (some ⟨Bn, 0, none⟩)] w fun e w' => e = .returned (.int .i64 (s.create nm).1) ∧ Dk n W D M (s.create nm).2 w' ∧ Chg [D, M] w w' := by
  obtain ⟨⟨e, s'⟩, hr⟩ : ∃ t, s.create nm = t := ⟨_, rfl⟩
  have hfr := fit_create hf nm
  rw [hr] at hfr ⊢
  have hc := hb.cell
  have hc2 := hbn.cell
  go_enter Tryz.func49, Tryz.ntmps49
  go_wp2_with fail
  refine (create_dk hr (hfr.ok (by omega)) h).mono ?_
  rintro x w1 ⟨rfl, h1, hC⟩
  go_wp2
  go_ret
  exact ⟨rfl, h1, hC⟩
theorem mclo4_dk {N : Int} (hf : s.Fit N) (hN : N < 4611686018427380000) {Bd Bn : Nat} {nm : ByteArray} (hb : Boxed w Bd 25 (.pointer (some ⟨D, 0, none⟩))) (hbn : Boxed w Bn 9 (.string nm)) (h : Dk n W D M s w) : Calls Tryz.prog 53 #[.pointer (some ⟨Bd, 0, none⟩), .pointer (some ⟨Bn, 0, none⟩)] w fun e w' => e = .returned (.int .i64 (s.sync nm).1) ∧ Dk n W D M (s.sync nm).2 w' ∧ Chg [D, M] w w' := by
  obtain ⟨⟨e, s'⟩, hr⟩ : ∃ t, s.sync nm = t := ⟨_, rfl⟩
  have hfr := fit_sync hf nm
  rw [hr] at hfr ⊢
  have hc := hb.cell
  have hc2 := hbn.cell
  go_enter Tryz.func53, Tryz.ntmps53
  go_wp2_with fail
  refine (sync_dk hr (hfr.ok (by omega)) h).mono ?_
  rintro x w1 ⟨rfl, h1, hC⟩
  go_wp2
  go_ret
  exact ⟨rfl, h1, hC⟩
/-- A box is no disk. -/
theorem box_aside {B : Nat} {t : TypeId} {v : Value} (hb : Boxed w B t v) (h : DiskAt w D M s) : B ∉ [D, M] := by
  intro hm
  simp only [List.mem_cons, List.not_mem_nil, or_false] at hm
  rcases hm with rfl | rfl
  · have h1 : w.heap[B]? = _ := hb
    have h2 : w.heap[B]? = _ := h.blk
    rw [h1] at h2
    simp at h2
  · obtain ⟨es, clock, he, _⟩ := h.map
    have h1 : w.heap[B]? = _ := hb
    exact absurd (h1.symm.trans he) (fun h => by cases h)
set_option maxRecDepth 100000 in
set_option maxHeartbeats 1000000 in
theorem mclo3_dk {N : Int} (hf : s.Fit N) (hN : N < 4611686018427380000) {Bd Bn Bi : Nat} {nm : ByteArray} {id : Int} (hb : Boxed w Bd 25 (.pointer (some ⟨D, 0, none⟩))) (hbn : Boxed w Bn 9 (.string nm)) (hbi : Boxed w Bi 3 (.int .i64 id)) (h : Dk n W D M s w) : Calls Tryz.prog 51 #[.pointer (some ⟨Bd, 0, none⟩), .pointer (some ⟨Bn, 0, none⟩), .pointer (some ⟨Bi, 0, none⟩)] w fun e w' => e = .returned (.int .i64 (s.append nm (headB (idN id))).1) ∧ Dk n W D M (s.append nm (headB (idN id))).2 w' ∧ Chg [D, M] w w' := by
  obtain ⟨⟨e, s'⟩, hr⟩ : ∃ t, s.append nm (headB (idN id)) = t := ⟨_, rfl⟩
  have hfr := fit_append hf nm (headB (idN id))
  rw [hr] at hfr ⊢
  have hdr : Below w.heap.size w w.drew := (Below.refl _ w).drew
  have h1 := h.next hdr
  have q1 : w.drew.cell? ⟨Bd, 0, none⟩ = some (.pointer (some ⟨D, 0, none⟩)) := hb.cell
  have q2 : w.drew.cell? ⟨Bn, 0, none⟩ = some (.string nm) := hbn.cell
  have q3 : w.drew.cell? ⟨Bi, 0, none⟩ = some (.int .i64 id) := hbi.cell
  have l1 := hb.lt
  have l2 := hbn.lt
  have l3 := hbi.lt
  have hby := hbytes_calls id w.drew
  generalize headB (idN id) = H at *
  go_enter Tryz.func51, Tryz.ntmps51
  go_wp2_with fail
  have d1 := box_aside hb h.at'
  have d2 := box_aside hbn h.at'
  have d3 := box_aside hbi h.at'
  go_region_held3 (fun w' => w'.cell? ⟨Bd, 0, none⟩ = some (.pointer (some ⟨D, 0, none⟩)) ∧ w'.cell? ⟨Bn, 0, none⟩ = some (.string nm) ∧ w'.cell? ⟨Bi, 0, none⟩ = some (.int .i64 id))
    (first | exact ⟨q1, q2, q3⟩ | exact ⟨(hB5.cell (p := ⟨Bd, 0, none⟩) l1).trans q1, (hB5.cell (p := ⟨Bn, 0, none⟩) l2).trans q2, (hB5.cell (p := ⟨Bi, 0, none⟩) l3).trans q3⟩ | exact ⟨hC6.cell d1 l1 q1, hC6.cell d2 l2 q2, hC6.cell d3 l3 q3⟩)
    (first | (go_at_call 52; refine hby.mono ?_; clear hby; rintro e w5 ⟨rfl, hB5⟩) | (go_at_call 34; refine (append_dk hr (hfr.ok (by omega)) (h1.next hB5)).mono ?_; rintro e w6 ⟨rfl, h6, hC⟩; have hC6 := (Chg.of_below (bs := [D, M]) (hdr.trans hB5)).trans hC))
  go_wp2
  go_ret
  exact ⟨rfl, h6, hC6⟩
/-- made's four steps. -/
def madeF (m : Nat) (x : Fin 4) (s : DS) : Int × DS := match x.val with | 0 => s.rmv (nameB m) | 1 => s.create (nameB m) | 2 => s.append (nameB m) (headB m) | _ => s.sync (nameB m)
theorem madeF_run (m : Nat) (s : DS) : runP (madeF m) (List.finRange 4) s = s.made m := rfl
theorem madeF_fit (m : Nat) (x : Fin 4) (s : DS) (N : Int) (h : s.Fit N) : (madeF m x s).2.Fit (N + 8) := by
  unfold madeF
  split
  · exact (fit_rmv h _).up (by omega)
  · exact (fit_create h _).up (by omega)
  · exact (fit_append h _ _).up (by omega)
  · exact (fit_sync h _).up (by omega)
theorem boxed_chg {W W' : World} {bs : List Nat} {B : Nat} {t : TypeId} {v : Value} (h : Boxed W B t v) (hc : Chg bs W W') (hb : B ∉ bs) : Boxed W' B t v := (hc.block B h.lt hb).trans h
theorem blk_aside {B : Nat} {t : TypeId} {cs : Array Value} (hb : Blk w B t cs) (ht : t ≠ 66) (h : DiskAt w D M s) : B ≠ D ∧ B ≠ M := by
  refine ⟨fun e => ?_, fun e => ?_⟩
  · subst e
    have h1 : w.heap[B]? = _ := hb
    have h2 : w.heap[B]? = _ := h.blk
    rw [h1] at h2
    simp at h2
    exact ht h2.2
  · subst e
    obtain ⟨es, clock, he, _⟩ := h.map
    have h1 : w.heap[B]? = _ := hb
    exact absurd (h1.symm.trans he) (fun h => by cases h)
theorem made_all {N : Int} (hf : s.Fit N) (hN : N < 4611686018427370000) (id : Int) {Bd Bn Bi bs : Nat} (b0 : Boxed w Bd 25 (.pointer (some ⟨D, 0, none⟩))) (b1 : Boxed w Bi 3 (.int .i64 id)) (b2 : Boxed w Bn 9 (.string (nameB (idN id))))
    (bS : Blk w bs 44 #[.func (.func 48) #[] #[.pointer (some ⟨Bd, 0, none⟩), .pointer (some ⟨Bn, 0, none⟩)], .func (.func 49) #[] #[.pointer (some ⟨Bd, 0, none⟩), .pointer (some ⟨Bn, 0, none⟩)], .func (.func 51) #[] #[.pointer (some ⟨Bd, 0, none⟩), .pointer (some ⟨Bn, 0, none⟩), .pointer (some ⟨Bi, 0, none⟩)], .func (.func 53) #[] #[.pointer (some ⟨Bd, 0, none⟩), .pointer (some ⟨Bn, 0, none⟩)]]) (h : Dk n W D M s w) :
    Calls Tryz.prog 26 #[.slice (some ⟨bs, 0, none⟩) 4 4] w fun e w' => e = .returned (.int .i64 (s.made (idN id)).1) ∧ Dk n W D M (s.made (idN id)).2 w' ∧ Chg [D, M] w w' := by
  have d0 := box_aside b0 h.at'
  have d1 := box_aside b1 h.at'
  have d2 := box_aside b2 h.at'
  have hall := all_steps (n := n) (W0 := W) (D := D) (M := M) [⟨48, #[], #[.pointer (some ⟨Bd, 0, none⟩), .pointer (some ⟨Bn, 0, none⟩)]⟩, ⟨49, #[], #[.pointer (some ⟨Bd, 0, none⟩), .pointer (some ⟨Bn, 0, none⟩)]⟩, ⟨51, #[], #[.pointer (some ⟨Bd, 0, none⟩), .pointer (some ⟨Bn, 0, none⟩), .pointer (some ⟨Bi, 0, none⟩)]⟩, ⟨53, #[], #[.pointer (some ⟨Bd, 0, none⟩), .pointer (some ⟨Bn, 0, none⟩)]⟩] (by simp) (madeF (idN id)) bs 4 w bS.lt (blk_aside bS (by decide) h.at')
    (fun k hk => by
      have hk4 : k < 4 := hk
      rw [bS.cell]
      match k, hk4 with
      | 0, _ => rfl
      | 1, _ => rfl
      | 2, _ => rfl
      | 3, _ => rfl)
    (fun x => by
      match x with
      | ⟨0, _⟩ => exact enters_of Tryz.func48 (by kernel_rfl) rfl
      | ⟨1, _⟩ => exact enters_of Tryz.func49 (by kernel_rfl) rfl
      | ⟨2, _⟩ => exact enters_of Tryz.func51 (by kernel_rfl) rfl
      | ⟨3, _⟩ => exact enters_of Tryz.func53 (by kernel_rfl) rfl)
    (madeF_fit (idN id)) hf (K := 4611686018427380000) (by omega)
    (fun x A t N' hch hd hft hN' => by
      match x with
      | ⟨0, _⟩ => exact mclo1_dk hft hN' (boxed_chg b0 hch d0) (boxed_chg b2 hch d2) hd
      | ⟨1, _⟩ => exact mclo2_dk hft hN' (boxed_chg b0 hch d0) (boxed_chg b2 hch d2) hd
      | ⟨2, _⟩ => exact mclo3_dk hft hN' (boxed_chg b0 hch d0) (boxed_chg b2 hch d2) (boxed_chg b1 hch d1) hd
      | ⟨3, _⟩ => exact mclo4_dk hft hN' (boxed_chg b0 hch d0) (boxed_chg b2 hch d2) hd) h
  exact hall
set_option maxRecDepth 100000 in
set_option maxHeartbeats 2000000 in
theorem made_dk {N : Int} (hf : s.Fit N) (hN : N < 4611686018427370000) (id : Int) (h : Dk n W D M s w) : Calls Tryz.prog 28 #[.pointer (some ⟨D, 0, none⟩), .int .i64 id] w fun e w' => e = .returned (.int .i64 (s.made (idN id)).1) ∧ Dk n W D M (s.made (idN id)).2 w' ∧ Chg [D, M] w w' := by
  have hD := h.at'.blk.lt
  have hM := h.at'.map.lt
  have hname := name_calls id
  have HNAME := Lib.hid hname
  clear hname
  go_enter Tryz.func28, Tryz.ntmps28
  go_wp2_with fail
  refine (HNAME.out _).mono ?_
  rintro e w2 ⟨rfl, hB2⟩
  have b0 := Boxed.new w 25 (.pointer (some ⟨D, 0, none⟩))
  have b1 := Boxed.new (w.alloc (.cells #[.pointer (some ⟨D, 0, none⟩)] 25)) 3 (.int .i64 id)
  have hB0 : Below w.heap.size w ((w.alloc (.cells #[.pointer (some ⟨D, 0, none⟩)] 25)).alloc (.cells #[.int .i64 id] 3)) := ((Below.refl _ w).alloc (Nat.le_refl _) _).alloc (by simp) _
  go_wp2_with fail
  have hB3 : Below w2.heap.size w2 (w2.alloc (.cells #[.string (nameB (idN id))] 9)) := (Below.refl _ w2).alloc (Nat.le_refl _) _
  have b2 := Boxed.new w2 9 (.string (nameB (idN id)))
  have hz0 : (w.alloc (.cells #[.pointer (some ⟨D, 0, none⟩)] 25)).heap.size = w.heap.size + 1 := World.size_alloc _ _
  rw [hz0] at b1
  have c0 := boxed_below (boxed_below (b0.alloc (.cells #[.int .i64 id] 3)) hB2 (by simp; omega)) hB3 (by have := hB2.size; simp at this; omega)
  have c1 := boxed_below (boxed_below b1 hB2 (by simp)) hB3 (by have := hB2.size; simp at this; omega)
  have hsz2 : w.heap.size + 2 ≤ w2.heap.size := by have := hB2.size; simp at this; omega
  have hBw := hB0.trans ((hB2.mono hB0.size).trans (hB3.mono (by omega)))
  have hz3 : (w2.alloc (.cells #[.string (nameB (idN id))] 9)).heap.size = w2.heap.size + 1 := World.size_alloc _ _
  clear hB0 hB2 hB3 b0 b1
  generalize w2.alloc (.cells #[.string (nameB (idN id))] 9) = w3 at *
  generalize hm : idN id = m at *
  have HM := Lib.hid hm
  clear hm
  have bS := Blk.new w3 44 #[.func (.func 48) #[] #[.pointer (some ⟨w.heap.size, 0, none⟩), .pointer (some ⟨w2.heap.size, 0, none⟩)], .func (.func 49) #[] #[.pointer (some ⟨w.heap.size, 0, none⟩), .pointer (some ⟨w2.heap.size, 0, none⟩)], .func (.func 51) #[] #[.pointer (some ⟨w.heap.size, 0, none⟩), .pointer (some ⟨w2.heap.size, 0, none⟩), .pointer (some ⟨w.heap.size + 1, 0, none⟩)], .func (.func 53) #[] #[.pointer (some ⟨w.heap.size, 0, none⟩), .pointer (some ⟨w2.heap.size, 0, none⟩)]]
  have hB4 : Below w3.heap.size w3 (w3.alloc (.cells #[.func (.func 48) #[] #[.pointer (some ⟨w.heap.size, 0, none⟩), .pointer (some ⟨w2.heap.size, 0, none⟩)], .func (.func 49) #[] #[.pointer (some ⟨w.heap.size, 0, none⟩), .pointer (some ⟨w2.heap.size, 0, none⟩)], .func (.func 51) #[] #[.pointer (some ⟨w.heap.size, 0, none⟩), .pointer (some ⟨w2.heap.size, 0, none⟩), .pointer (some ⟨w.heap.size + 1, 0, none⟩)], .func (.func 53) #[] #[.pointer (some ⟨w.heap.size, 0, none⟩), .pointer (some ⟨w2.heap.size, 0, none⟩)]] 44)) := (Below.refl _ w3).alloc (Nat.le_refl _) _
  have h4 := (h.next hBw).next hB4
  have e0 := boxed_below c0 hB4 c0.lt
  have e1 := boxed_below c1 hB4 c1.lt
  have e2 := boxed_below b2 hB4 b2.lt
  rw [← HM.out] at e2
  rw [hz3] at bS
  have hall := made_all hf hN id e0 e1 e2 bS h4
  rw [HM.out] at hall
  have hChg := Chg.of_below (bs := [D, M]) (hBw.trans (hB4.mono hBw.size))
  clear hB4 e0 e1 e2 bS h4 c0 c1 b2 hBw hz0 hz3 HNAME
  refine hall.mono ?_
  clear hall
  rintro e w5 ⟨rfl, h5, hC5⟩
  go_wp2
  go_ret
  exact ⟨by rw [HM.out]; rfl, by rw [HM.out]; exact h5, hChg.trans hC5⟩
end
end Go.Proofs.YtoaegleieacokaaGreat
