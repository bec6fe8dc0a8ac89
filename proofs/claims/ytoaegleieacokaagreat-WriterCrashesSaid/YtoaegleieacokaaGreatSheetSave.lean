/- sheet.Clear, Load, Save. -/
import Derived.Test.YtoaegleieacokaaGreatSheetRead
import Derived.Test.YtoaegleieacokaaGreatDiskFit
namespace Go.Proofs.YtoaegleieacokaaGreat
open Go.RowKit Go.Shelf

def nSheet : ByteArray := ⟨#[115, 104, 101, 101, 116]⟩
def nFresh : ByteArray := ⟨#[115, 104, 101, 101, 116, 46, 110, 101, 119]⟩
/-- What Clear does. -/
def DS.clear (s : DS) : Int × DS := (if (s.remove nFresh).1 = 19 then 0 else (s.remove nFresh).1, (s.remove nFresh).2)
/-- One step behind another, as long as none errs. -/
def andThen (r : Int × DS) (f : DS → Int × DS) : Int × DS := if r.1 = 0 then f r.2 else r
/-- What Save does with a sheet's bytes. -/
def DS.save (s : DS) (b : ByteArray) : Int × DS :=
  andThen (andThen (andThen (andThen s.clear (fun s => s.create nFresh)) (fun s => s.append nFresh b)) (fun s => s.sync nFresh)) (fun s => s.rename nFresh nSheet)

section
variable {n : Nat} {W : World} {D M : Nat} {s : DS} {w : World}
theorem clear_dk {N : Int} (hf : s.Fit N) (hN : N < 4611686018427380000) (h : Dk n W D M s w) : Calls Tryz.prog 56 #[.pointer (some ⟨D, 0, none⟩)] w fun e w' => e = .returned (.int .i64 s.clear.1) ∧ Dk n W D M s.clear.2 w' ∧ Chg [D, M] w w' := by
  have hfr := fit_remove hf nFresh
  have hcl : s.clear = (if (s.remove nFresh).1 = 19 then 0 else (s.remove nFresh).1, (s.remove nFresh).2) := rfl
  obtain ⟨⟨e, s'⟩, hr⟩ : ∃ t, s.remove nFresh = t := ⟨_, rfl⟩
  rw [hr] at hcl hfr
  simp only at hcl hfr
  rw [hcl]
  obtain ⟨r, hr2⟩ : ∃ r, (if e = 19 then 0 else e) = r := ⟨_, rfl⟩
  rw [hr2]
  go_enter Tryz.func56, Tryz.ntmps56
  go_wp2_with fail
  refine (remove_dk hr (hfr.ok (by omega)) h).mono ?_
  rintro x w1 ⟨rfl, h1, hC⟩
  by_cases he : e = 19
  · rw [if_pos he] at hr2
    subst hr2 he
    go_wp2
    go_ret
    exact ⟨rfl, h1, hC⟩
  · rw [if_neg he] at hr2
    subst hr2
    go_wp2
    go_ret
    exact ⟨rfl, h1, hC⟩
/-- A sheet that is none is not saved. -/
theorem save_bad (a : Option Addr) (c : Nat) (L : List Int) (hreach : L.length ≤ 1000000) (hL : isL L = false) (hs : Ints w w.heap.size (.slice a L.length c) L) (h : Dk n W D M s w) : Calls Tryz.prog 30 #[.pointer (some ⟨D, 0, none⟩), .slice a L.length c] w fun x w' => x = .returned (.int .i64 11) ∧ Dk n W D M s w' ∧ Below w.heap.size w w' := by
  have hB0 : Below w.heap.size w (w.alloc (.cells #[.pointer (some ⟨D, 0, none⟩)] 25)) := (Below.refl _ w).alloc (Nat.le_refl _) _
  have hbc := bytes_calls a c L hreach (w.alloc (.cells #[.pointer (some ⟨D, 0, none⟩)] 25)) ((hs.below hB0 (Nat.le_refl _)).up hB0.size)
  rw [hL, if_neg (by simp), if_neg (by simp)] at hbc
  go_enter Tryz.func30, Tryz.ntmps30
  go_wp2_with fail
  refine hbc.mono ?_
  rintro x w1 ⟨rfl, hB⟩
  have hB1 := hB0.trans (hB.mono hB0.size)
  go_wp2
  go_ret
  exact ⟨rfl, (h.next hB1).next ((Below.refl _ w1).alloc (Nat.le_refl _) _), hB1.alloc hB1.size _⟩

/-- Two boxes of a call that lie aside of the disk. -/
theorem box_chg {B : Nat} {t : TypeId} {v : Value} {w w' : World} (hb : Boxed w B t v) (h1 : B ≠ D) (h2 : B ≠ M) (hc : Chg [D, M] w w') : Boxed w' B t v := (hc.block B hb.lt (by simp; exact ⟨h1, h2⟩)).trans hb
theorem clo1_dk {N : Int} (hf : s.Fit N) (hN : N < 4611686018427380000) {Bd : Nat} (hb : Boxed w Bd 25 (.pointer (some ⟨D, 0, none⟩))) (h : Dk n W D M s w) : Calls Tryz.prog 55 #[.pointer (some ⟨Bd, 0, none⟩)] w fun e w' => e = .returned (.int .i64 s.clear.1) ∧ Dk n W D M s.clear.2 w' ∧ Chg [D, M] w w' := by
  have hc := hb.cell
  go_enter Tryz.func55, Tryz.ntmps55
  go_wp2_with fail
  refine (clear_dk hf hN h).mono ?_
  rintro x w1 ⟨rfl, h1, hC⟩
  go_wp2
  go_ret
  exact ⟨rfl, h1, hC⟩
theorem clo2_dk {N : Int} (hf : s.Fit N) (hN : N < 4611686018427380000) {Bd : Nat} (hb : Boxed w Bd 25 (.pointer (some ⟨D, 0, none⟩))) (h : Dk n W D M s w) : Calls Tryz.prog 57 #[.pointer (some ⟨Bd, 0, none⟩)] w fun e w' => e = .returned (.int .i64 (s.create nFresh).1) ∧ Dk n W D M (s.create nFresh).2 w' ∧ Chg [D, M] w w' := by
  obtain ⟨⟨e, s'⟩, hr⟩ : ∃ t, s.create nFresh = t := ⟨_, rfl⟩
  have hfr := fit_create hf nFresh
  rw [hr] at hfr ⊢
  have hc := hb.cell
  go_enter Tryz.func57, Tryz.ntmps57
  go_wp2_with fail
  refine (create_dk hr (hfr.ok (by omega)) h).mono ?_
  rintro x w1 ⟨rfl, h1, hC⟩
  go_wp2
  go_ret
  exact ⟨rfl, h1, hC⟩
theorem clo3_dk {N : Int} (hf : s.Fit N) (hN : N < 4611686018427380000) {Bd Bb : Nat} {b : ByteArray} (hb : Boxed w Bd 25 (.pointer (some ⟨D, 0, none⟩))) (hbb : Boxed w Bb 9 (.string b)) (h : Dk n W D M s w) : Calls Tryz.prog 58 #[.pointer (some ⟨Bd, 0, none⟩), .pointer (some ⟨Bb, 0, none⟩)] w fun e w' => e = .returned (.int .i64 (s.append nFresh b).1) ∧ Dk n W D M (s.append nFresh b).2 w' ∧ Chg [D, M] w w' := by
  obtain ⟨⟨e, s'⟩, hr⟩ : ∃ t, s.append nFresh b = t := ⟨_, rfl⟩
  have hfr := fit_append hf nFresh b
  rw [hr] at hfr ⊢
  have hc := hb.cell
  have hc2 := hbb.cell
  go_enter Tryz.func58, Tryz.ntmps58
  go_wp2_with fail
  refine (append_dk hr (hfr.ok (by omega)) h).mono ?_
  rintro x w1 ⟨rfl, h1, hC⟩
  go_wp2
  go_ret
  exact ⟨rfl, h1, hC⟩
theorem clo4_dk {N : Int} (hf : s.Fit N) (hN : N < 4611686018427380000) {Bd : Nat} (hb : Boxed w Bd 25 (.pointer (some ⟨D, 0, none⟩))) (h : Dk n W D M s w) : Calls Tryz.prog 59 #[.pointer (some ⟨Bd, 0, none⟩)] w fun e w' => e = .returned (.int .i64 (s.sync nFresh).1) ∧ Dk n W D M (s.sync nFresh).2 w' ∧ Chg [D, M] w w' := by
  obtain ⟨⟨e, s'⟩, hr⟩ : ∃ t, s.sync nFresh = t := ⟨_, rfl⟩
  have hfr := fit_sync hf nFresh
  rw [hr] at hfr ⊢
  have hc := hb.cell
  go_enter Tryz.func59, Tryz.ntmps59
  go_wp2_with fail
  refine (sync_dk hr (hfr.ok (by omega)) h).mono ?_
  rintro x w1 ⟨rfl, h1, hC⟩
  go_wp2
  go_ret
  exact ⟨rfl, h1, hC⟩
theorem clo5_dk {N : Int} (hf : s.Fit N) (hN : N < 4611686018427380000) {Bd : Nat} (hb : Boxed w Bd 25 (.pointer (some ⟨D, 0, none⟩))) (h : Dk n W D M s w) : Calls Tryz.prog 60 #[.pointer (some ⟨Bd, 0, none⟩)] w fun e w' => e = .returned (.int .i64 (s.rename nFresh nSheet).1) ∧ Dk n W D M (s.rename nFresh nSheet).2 w' ∧ Chg [D, M] w w' := by
  obtain ⟨⟨e, s'⟩, hr⟩ : ∃ t, s.rename nFresh nSheet = t := ⟨_, rfl⟩
  have hfr := fit_rename hf nFresh nSheet
  rw [hr] at hfr ⊢
  have hc := hb.cell
  go_enter Tryz.func60, Tryz.ntmps60
  go_wp2_with fail
  refine (rename_dk hr (hfr.ok (by omega)) h).mono ?_
  rintro x w1 ⟨rfl, h1, hC⟩
  go_wp2
  go_ret
  exact ⟨rfl, h1, hC⟩
/-- Behind k of Save's steps. -/
def DS.saveTo (s : DS) (b : ByteArray) : Nat → Int × DS
  | 0 => (0, s)
  | 1 => s.clear
  | 2 => andThen s.clear (fun s => s.create nFresh)
  | 3 => andThen (andThen s.clear (fun s => s.create nFresh)) (fun s => s.append nFresh b)
  | 4 => andThen (andThen (andThen s.clear (fun s => s.create nFresh)) (fun s => s.append nFresh b)) (fun s => s.sync nFresh)
  | _ => s.save b
theorem fit_clear {N : Int} {s : DS} (h : s.Fit N) : s.clear.2.Fit (N + 1) := fit_remove h nFresh
theorem fit_then {N : Int} {r : Int × DS} {f : DS → Int × DS} (h : r.2.Fit N) (hf : ∀ s : DS, s.Fit N → (f s).2.Fit (N + 1)) : (andThen r f).2.Fit (N + 1) := by
  unfold andThen
  split
  · exact hf _ h
  · exact h.up (by omega)
theorem fit_save {N : Int} {s : DS} (h : s.Fit N) (b : ByteArray) : (s.save b).2.Fit (N + 5) := by
  have := fit_then (fit_then (fit_then (fit_then (fit_clear h) (fun s h => fit_create h nFresh)) (fun s h => fit_append h nFresh b)) (fun s h => fit_sync h nFresh)) (fun s h => fit_rename h nFresh nSheet)
  exact this.up (by omega)
theorem ix_0 (g0 g1 g2 g3 g4 : Nat) (c0 c1 c2 c3 c4 : Array Value) (w : World) : (Instr.index 99 (.agg #[.func (.func g0) #[] c0, .func (.func g1) #[] c1, .func (.func g2) #[] c2, .func (.func g3) #[] c3, .func (.func g4) #[] c4]) (.int .i64 0)).run Tryz.prog w = .ok (.func (.func g0) #[] c0) w := by kernel_rfl
theorem ix_1 (g0 g1 g2 g3 g4 : Nat) (c0 c1 c2 c3 c4 : Array Value) (w : World) : (Instr.index 99 (.agg #[.func (.func g0) #[] c0, .func (.func g1) #[] c1, .func (.func g2) #[] c2, .func (.func g3) #[] c3, .func (.func g4) #[] c4]) (.int .i64 1)).run Tryz.prog w = .ok (.func (.func g1) #[] c1) w := by kernel_rfl
theorem ix_2 (g0 g1 g2 g3 g4 : Nat) (c0 c1 c2 c3 c4 : Array Value) (w : World) : (Instr.index 99 (.agg #[.func (.func g0) #[] c0, .func (.func g1) #[] c1, .func (.func g2) #[] c2, .func (.func g3) #[] c3, .func (.func g4) #[] c4]) (.int .i64 2)).run Tryz.prog w = .ok (.func (.func g2) #[] c2) w := by kernel_rfl
theorem ix_3 (g0 g1 g2 g3 g4 : Nat) (c0 c1 c2 c3 c4 : Array Value) (w : World) : (Instr.index 99 (.agg #[.func (.func g0) #[] c0, .func (.func g1) #[] c1, .func (.func g2) #[] c2, .func (.func g3) #[] c3, .func (.func g4) #[] c4]) (.int .i64 3)).run Tryz.prog w = .ok (.func (.func g3) #[] c3) w := by kernel_rfl
theorem ix_4 (g0 g1 g2 g3 g4 : Nat) (c0 c1 c2 c3 c4 : Array Value) (w : World) : (Instr.index 99 (.agg #[.func (.func g0) #[] c0, .func (.func g1) #[] c1, .func (.func g2) #[] c2, .func (.func g3) #[] c3, .func (.func g4) #[] c4]) (.int .i64 4)).run Tryz.prog w = .ok (.func (.func g4) #[] c4) w := by kernel_rfl
theorem store_blk {P : Program} {W : World} {B j : Nat} {t : TypeId} {cs : Array Value} {v : Value} (h : Blk W B t cs) (hj : j < cs.size) (hv : v.oneCell' = true) : (store ⟨B, j, none⟩ v).run P W = .ok () (W.setCell ⟨B, j, none⟩ v) := by
  rw [run_store _ _ _ _ _ hv, h.cell j, Array.getElem?_eq_getElem hj]
  simp only
  rw [h.frozen j, if_neg (by simp)]
theorem then_go {r : Int × DS} {f : DS → Int × DS} (h : r.1 = 0) : andThen r f = f r.2 := by unfold andThen; rw [if_pos h]
theorem then_stop {r : Int × DS} {f : DS → Int × DS} (h : r.1 ≠ 0) : andThen r f = r := by unfold andThen; rw [if_neg h]
theorem fit_saveTo {N : Int} {s : DS} (h : s.Fit N) (b : ByteArray) : ∀ k, k ≤ 5 → (s.saveTo b k).2.Fit (N + 5)
  | 0, _ => h.up (by omega)
  | 1, _ => (fit_clear h).up (by omega)
  | 2, _ => (fit_then (fit_clear h) (fun s h => fit_create h nFresh)).up (by omega)
  | 3, _ => (fit_then (fit_then (fit_clear h) (fun s h => fit_create h nFresh)) (fun s h => fit_append h nFresh b)).up (by omega)
  | 4, _ => (fit_then (fit_then (fit_then (fit_clear h) (fun s h => fit_create h nFresh)) (fun s h => fit_append h nFresh b)) (fun s h => fit_sync h nFresh)).up (by omega)
  | 5, _ => fit_save h b
  | k + 6, h => by omega
theorem saveTo_5 (s : DS) (b : ByteArray) : s.saveTo b 5 = s.save b := rfl
theorem saveTo_stop {s : DS} {b : ByteArray} : ∀ k, k ≤ 5 → (s.saveTo b k).1 ≠ 0 → s.save b = s.saveTo b k
  | 0, _, h => absurd rfl h
  | 1, _, h => by
    have e : s.save b = andThen (andThen (andThen (andThen (s.saveTo b 1) (fun s => s.create nFresh)) (fun s => s.append nFresh b)) (fun s => s.sync nFresh)) (fun s => s.rename nFresh nSheet) := rfl
    rw [e, then_stop h, then_stop h, then_stop h, then_stop h]
  | 2, _, h => by
    have e : s.save b = andThen (andThen (andThen (s.saveTo b 2) (fun s => s.append nFresh b)) (fun s => s.sync nFresh)) (fun s => s.rename nFresh nSheet) := rfl
    rw [e, then_stop h, then_stop h, then_stop h]
  | 3, _, h => by
    have e : s.save b = andThen (andThen (s.saveTo b 3) (fun s => s.sync nFresh)) (fun s => s.rename nFresh nSheet) := rfl
    rw [e, then_stop h, then_stop h]
  | 4, _, h => by
    have e : s.save b = andThen (s.saveTo b 4) (fun s => s.rename nFresh nSheet) := rfl
    rw [e, then_stop h]
  | 5, _, _ => rfl
  | k + 6, h, _ => by omega
set_option maxRecDepth 100000 in
set_option maxHeartbeats 1000000 in
theorem save_dk {N : Int} (hf : s.Fit N) (hN : N < 4611686018427370000) (a : Option Addr) (c : Nat) (L : List Int) (hL : isL L = true) (hs : Ints w w.heap.size (.slice a L.length c) L) (h : Dk n W D M s w) :
    Calls Tryz.prog 30 #[.pointer (some ⟨D, 0, none⟩), .slice a L.length c] w fun x w' => x = .returned (.int .i64 (s.save ⟨(bytesL L).toArray⟩).1) ∧ Dk n W D M (s.save ⟨(bytesL L).toArray⟩).2 w' ∧ Chg [D, M] w w' := by
  have hle := (isL_sheet hL).le
  have hB0 : Below w.heap.size w (w.alloc (.cells #[.pointer (some ⟨D, 0, none⟩)] 25)) := (Below.refl _ w).alloc (Nat.le_refl _) _
  have hbc := bytes_calls a c L (by omega) (w.alloc (.cells #[.pointer (some ⟨D, 0, none⟩)] 25)) ((hs.below hB0 (Nat.le_refl _)).up hB0.size)
  rw [hL, if_pos rfl, if_pos rfl] at hbc
  have hD := h.at'.blk.lt
  have hM := h.at'.map.lt
  have bD := Boxed.new w 25 (.pointer (some ⟨D, 0, none⟩))
  have hfT := fit_saveTo hf ⟨(bytesL L).toArray⟩
  have hst := fun k hk => @saveTo_stop s ⟨(bytesL L).toArray⟩ k hk
  have h0 : ∀ b, (s.saveTo b 0).1 = 0 ∧ (s.saveTo b 0).2 = s := fun b => ⟨rfl, rfl⟩
  have HST := Lib.hid hst
  clear hst hs hf
  generalize (⟨(bytesL L).toArray⟩ : ByteArray) = b at *
  obtain ⟨⟨e5, s5⟩, he5⟩ : ∃ t, s.save b = t := ⟨_, rfl⟩
  rw [he5]
  have HE5 := Lib.hid he5
  clear he5
  go_enter Tryz.func30, Tryz.ntmps30
  go_wp2_with fail
  refine hbc.mono ?_
  clear hbc
  rintro x w1 ⟨rfl, hB⟩
  have hB1 := hB0.trans (hB.mono hB0.size)
  have h1 := h.next hB1
  have bD1 : Boxed w1 w.heap.size 25 (.pointer (some ⟨D, 0, none⟩)) := (hB.block _ bD.lt).trans bD
  have hw1 := hB1.size
  have hlt1 := bD1.lt
  clear hB hB0 bD h
  have xS := Boxed.new w1 9 (.string b)
  have x0 : Blk ((w1.alloc (.cells #[.string b] 9)).alloc (.cells #[.nilFunc, .nilFunc, .nilFunc, .nilFunc, .nilFunc] 99)) (w1.heap.size + 1) 99 #[.nilFunc, .nilFunc, .nilFunc, .nilFunc, .nilFunc] := by
    have := Blk.new (w1.alloc (.cells #[.string b] 9)) 99 #[.nilFunc, .nilFunc, .nilFunc, .nilFunc, .nilFunc]
    rwa [World.size_alloc] at this
  have x1 : Blk ((w1.alloc (.cells #[.string b] 9)).alloc (.cells #[.func (.func 55) #[] #[.pointer (some ⟨w.heap.size, 0, none⟩)], .nilFunc, .nilFunc, .nilFunc, .nilFunc] 99)) (w1.heap.size + 1) 99 #[.func (.func 55) #[] #[.pointer (some ⟨w.heap.size, 0, none⟩)], .nilFunc, .nilFunc, .nilFunc, .nilFunc] := by
    have := Blk.new (w1.alloc (.cells #[.string b] 9)) 99 #[.func (.func 55) #[] #[.pointer (some ⟨w.heap.size, 0, none⟩)], .nilFunc, .nilFunc, .nilFunc, .nilFunc]
    rwa [World.size_alloc] at this
  have x2 : Blk ((w1.alloc (.cells #[.string b] 9)).alloc (.cells #[.func (.func 55) #[] #[.pointer (some ⟨w.heap.size, 0, none⟩)], .func (.func 57) #[] #[.pointer (some ⟨w.heap.size, 0, none⟩)], .nilFunc, .nilFunc, .nilFunc] 99)) (w1.heap.size + 1) 99 #[.func (.func 55) #[] #[.pointer (some ⟨w.heap.size, 0, none⟩)], .func (.func 57) #[] #[.pointer (some ⟨w.heap.size, 0, none⟩)], .nilFunc, .nilFunc, .nilFunc] := by
    have := Blk.new (w1.alloc (.cells #[.string b] 9)) 99 #[.func (.func 55) #[] #[.pointer (some ⟨w.heap.size, 0, none⟩)], .func (.func 57) #[] #[.pointer (some ⟨w.heap.size, 0, none⟩)], .nilFunc, .nilFunc, .nilFunc]
    rwa [World.size_alloc] at this
  have x3 : Blk ((w1.alloc (.cells #[.string b] 9)).alloc (.cells #[.func (.func 55) #[] #[.pointer (some ⟨w.heap.size, 0, none⟩)], .func (.func 57) #[] #[.pointer (some ⟨w.heap.size, 0, none⟩)], .func (.func 58) #[] #[.pointer (some ⟨w.heap.size, 0, none⟩), .pointer (some ⟨w1.heap.size, 0, none⟩)], .nilFunc, .nilFunc] 99)) (w1.heap.size + 1) 99 #[.func (.func 55) #[] #[.pointer (some ⟨w.heap.size, 0, none⟩)], .func (.func 57) #[] #[.pointer (some ⟨w.heap.size, 0, none⟩)], .func (.func 58) #[] #[.pointer (some ⟨w.heap.size, 0, none⟩), .pointer (some ⟨w1.heap.size, 0, none⟩)], .nilFunc, .nilFunc] := by
    have := Blk.new (w1.alloc (.cells #[.string b] 9)) 99 #[.func (.func 55) #[] #[.pointer (some ⟨w.heap.size, 0, none⟩)], .func (.func 57) #[] #[.pointer (some ⟨w.heap.size, 0, none⟩)], .func (.func 58) #[] #[.pointer (some ⟨w.heap.size, 0, none⟩), .pointer (some ⟨w1.heap.size, 0, none⟩)], .nilFunc, .nilFunc]
    rwa [World.size_alloc] at this
  have x4 : Blk ((w1.alloc (.cells #[.string b] 9)).alloc (.cells #[.func (.func 55) #[] #[.pointer (some ⟨w.heap.size, 0, none⟩)], .func (.func 57) #[] #[.pointer (some ⟨w.heap.size, 0, none⟩)], .func (.func 58) #[] #[.pointer (some ⟨w.heap.size, 0, none⟩), .pointer (some ⟨w1.heap.size, 0, none⟩)], .func (.func 59) #[] #[.pointer (some ⟨w.heap.size, 0, none⟩)], .nilFunc] 99)) (w1.heap.size + 1) 99 #[.func (.func 55) #[] #[.pointer (some ⟨w.heap.size, 0, none⟩)], .func (.func 57) #[] #[.pointer (some ⟨w.heap.size, 0, none⟩)], .func (.func 58) #[] #[.pointer (some ⟨w.heap.size, 0, none⟩), .pointer (some ⟨w1.heap.size, 0, none⟩)], .func (.func 59) #[] #[.pointer (some ⟨w.heap.size, 0, none⟩)], .nilFunc] := by
    have := Blk.new (w1.alloc (.cells #[.string b] 9)) 99 #[.func (.func 55) #[] #[.pointer (some ⟨w.heap.size, 0, none⟩)], .func (.func 57) #[] #[.pointer (some ⟨w.heap.size, 0, none⟩)], .func (.func 58) #[] #[.pointer (some ⟨w.heap.size, 0, none⟩), .pointer (some ⟨w1.heap.size, 0, none⟩)], .func (.func 59) #[] #[.pointer (some ⟨w.heap.size, 0, none⟩)], .nilFunc]
    rwa [World.size_alloc] at this
  have x5 : Blk ((w1.alloc (.cells #[.string b] 9)).alloc (.cells #[.func (.func 55) #[] #[.pointer (some ⟨w.heap.size, 0, none⟩)], .func (.func 57) #[] #[.pointer (some ⟨w.heap.size, 0, none⟩)], .func (.func 58) #[] #[.pointer (some ⟨w.heap.size, 0, none⟩), .pointer (some ⟨w1.heap.size, 0, none⟩)], .func (.func 59) #[] #[.pointer (some ⟨w.heap.size, 0, none⟩)], .func (.func 60) #[] #[.pointer (some ⟨w.heap.size, 0, none⟩)]] 99)) (w1.heap.size + 1) 99 #[.func (.func 55) #[] #[.pointer (some ⟨w.heap.size, 0, none⟩)], .func (.func 57) #[] #[.pointer (some ⟨w.heap.size, 0, none⟩)], .func (.func 58) #[] #[.pointer (some ⟨w.heap.size, 0, none⟩), .pointer (some ⟨w1.heap.size, 0, none⟩)], .func (.func 59) #[] #[.pointer (some ⟨w.heap.size, 0, none⟩)], .func (.func 60) #[] #[.pointer (some ⟨w.heap.size, 0, none⟩)]] := by
    have := Blk.new (w1.alloc (.cells #[.string b] 9)) 99 #[.func (.func 55) #[] #[.pointer (some ⟨w.heap.size, 0, none⟩)], .func (.func 57) #[] #[.pointer (some ⟨w.heap.size, 0, none⟩)], .func (.func 58) #[] #[.pointer (some ⟨w.heap.size, 0, none⟩), .pointer (some ⟨w1.heap.size, 0, none⟩)], .func (.func 59) #[] #[.pointer (some ⟨w.heap.size, 0, none⟩)], .func (.func 60) #[] #[.pointer (some ⟨w.heap.size, 0, none⟩)]]
    rwa [World.size_alloc] at this
  have s0 : (store ⟨w1.heap.size + 1, 0, none⟩ (.func (.func 55) #[] #[.pointer (some ⟨w.heap.size, 0, none⟩)])).run Tryz.prog ((w1.alloc (.cells #[.string b] 9)).alloc (.cells #[.nilFunc, .nilFunc, .nilFunc, .nilFunc, .nilFunc] 99)) = .ok () ((w1.alloc (.cells #[.string b] 9)).alloc (.cells #[.func (.func 55) #[] #[.pointer (some ⟨w.heap.size, 0, none⟩)], .nilFunc, .nilFunc, .nilFunc, .nilFunc] 99)) := by
    rw [store_blk x0 (by simp) rfl, World.setCell_alloc_at _ _ _ _ _ (World.size_alloc _ _).symm]
    rfl
  have s1 : (store ⟨w1.heap.size + 1, 1, none⟩ (.func (.func 57) #[] #[.pointer (some ⟨w.heap.size, 0, none⟩)])).run Tryz.prog ((w1.alloc (.cells #[.string b] 9)).alloc (.cells #[.func (.func 55) #[] #[.pointer (some ⟨w.heap.size, 0, none⟩)], .nilFunc, .nilFunc, .nilFunc, .nilFunc] 99)) = .ok () ((w1.alloc (.cells #[.string b] 9)).alloc (.cells #[.func (.func 55) #[] #[.pointer (some ⟨w.heap.size, 0, none⟩)], .func (.func 57) #[] #[.pointer (some ⟨w.heap.size, 0, none⟩)], .nilFunc, .nilFunc, .nilFunc] 99)) := by
    rw [store_blk x1 (by simp) rfl, World.setCell_alloc_at _ _ _ _ _ (World.size_alloc _ _).symm]
    rfl
  have s2 : (store ⟨w1.heap.size + 1, 2, none⟩ (.func (.func 58) #[] #[.pointer (some ⟨w.heap.size, 0, none⟩), .pointer (some ⟨w1.heap.size, 0, none⟩)])).run Tryz.prog ((w1.alloc (.cells #[.string b] 9)).alloc (.cells #[.func (.func 55) #[] #[.pointer (some ⟨w.heap.size, 0, none⟩)], .func (.func 57) #[] #[.pointer (some ⟨w.heap.size, 0, none⟩)], .nilFunc, .nilFunc, .nilFunc] 99)) = .ok () ((w1.alloc (.cells #[.string b] 9)).alloc (.cells #[.func (.func 55) #[] #[.pointer (some ⟨w.heap.size, 0, none⟩)], .func (.func 57) #[] #[.pointer (some ⟨w.heap.size, 0, none⟩)], .func (.func 58) #[] #[.pointer (some ⟨w.heap.size, 0, none⟩), .pointer (some ⟨w1.heap.size, 0, none⟩)], .nilFunc, .nilFunc] 99)) := by
    rw [store_blk x2 (by simp) rfl, World.setCell_alloc_at _ _ _ _ _ (World.size_alloc _ _).symm]
    rfl
  have s3 : (store ⟨w1.heap.size + 1, 3, none⟩ (.func (.func 59) #[] #[.pointer (some ⟨w.heap.size, 0, none⟩)])).run Tryz.prog ((w1.alloc (.cells #[.string b] 9)).alloc (.cells #[.func (.func 55) #[] #[.pointer (some ⟨w.heap.size, 0, none⟩)], .func (.func 57) #[] #[.pointer (some ⟨w.heap.size, 0, none⟩)], .func (.func 58) #[] #[.pointer (some ⟨w.heap.size, 0, none⟩), .pointer (some ⟨w1.heap.size, 0, none⟩)], .nilFunc, .nilFunc] 99)) = .ok () ((w1.alloc (.cells #[.string b] 9)).alloc (.cells #[.func (.func 55) #[] #[.pointer (some ⟨w.heap.size, 0, none⟩)], .func (.func 57) #[] #[.pointer (some ⟨w.heap.size, 0, none⟩)], .func (.func 58) #[] #[.pointer (some ⟨w.heap.size, 0, none⟩), .pointer (some ⟨w1.heap.size, 0, none⟩)], .func (.func 59) #[] #[.pointer (some ⟨w.heap.size, 0, none⟩)], .nilFunc] 99)) := by
    rw [store_blk x3 (by simp) rfl, World.setCell_alloc_at _ _ _ _ _ (World.size_alloc _ _).symm]
    rfl
  have s4 : (store ⟨w1.heap.size + 1, 4, none⟩ (.func (.func 60) #[] #[.pointer (some ⟨w.heap.size, 0, none⟩)])).run Tryz.prog ((w1.alloc (.cells #[.string b] 9)).alloc (.cells #[.func (.func 55) #[] #[.pointer (some ⟨w.heap.size, 0, none⟩)], .func (.func 57) #[] #[.pointer (some ⟨w.heap.size, 0, none⟩)], .func (.func 58) #[] #[.pointer (some ⟨w.heap.size, 0, none⟩), .pointer (some ⟨w1.heap.size, 0, none⟩)], .func (.func 59) #[] #[.pointer (some ⟨w.heap.size, 0, none⟩)], .nilFunc] 99)) = .ok () ((w1.alloc (.cells #[.string b] 9)).alloc (.cells #[.func (.func 55) #[] #[.pointer (some ⟨w.heap.size, 0, none⟩)], .func (.func 57) #[] #[.pointer (some ⟨w.heap.size, 0, none⟩)], .func (.func 58) #[] #[.pointer (some ⟨w.heap.size, 0, none⟩), .pointer (some ⟨w1.heap.size, 0, none⟩)], .func (.func 59) #[] #[.pointer (some ⟨w.heap.size, 0, none⟩)], .func (.func 60) #[] #[.pointer (some ⟨w.heap.size, 0, none⟩)]] 99)) := by
    rw [store_blk x4 (by simp) rfl, World.setCell_alloc_at _ _ _ _ _ (World.size_alloc _ _).symm]
    rfl
  have d0 := x5.cell 0
  have d1 := x5.cell 1
  have d2 := x5.cell 2
  have d3 := x5.cell 3
  have d4 := x5.cell 4
  simp only [List.getElem?_toArray, List.getElem?_cons_zero, List.getElem?_cons_succ] at d0 d1 d2 d3 d4
  go_wp2_with fail
  have hYd : Chg [D, M] w (w1.alloc (.cells #[.string b] 9)) := Chg.of_below (hB1.alloc hw1 _)
  have hbS := xS.alloc (.cells #[.func (.func 55) #[] #[.pointer (some ⟨w.heap.size, 0, none⟩)], .func (.func 57) #[] #[.pointer (some ⟨w.heap.size, 0, none⟩)], .func (.func 58) #[] #[.pointer (some ⟨w.heap.size, 0, none⟩), .pointer (some ⟨w1.heap.size, 0, none⟩)], .func (.func 59) #[] #[.pointer (some ⟨w.heap.size, 0, none⟩)], .func (.func 60) #[] #[.pointer (some ⟨w.heap.size, 0, none⟩)]] 99)
  have hbD := (bD1.alloc (.cells #[.string b] 9)).alloc (.cells #[.func (.func 55) #[] #[.pointer (some ⟨w.heap.size, 0, none⟩)], .func (.func 57) #[] #[.pointer (some ⟨w.heap.size, 0, none⟩)], .func (.func 58) #[] #[.pointer (some ⟨w.heap.size, 0, none⟩), .pointer (some ⟨w1.heap.size, 0, none⟩)], .func (.func 59) #[] #[.pointer (some ⟨w.heap.size, 0, none⟩)], .func (.func 60) #[] #[.pointer (some ⟨w.heap.size, 0, none⟩)]] 99)
  have hch : Chg [D, M] w ((w1.alloc (.cells #[.string b] 9)).alloc (.cells #[.func (.func 55) #[] #[.pointer (some ⟨w.heap.size, 0, none⟩)], .func (.func 57) #[] #[.pointer (some ⟨w.heap.size, 0, none⟩)], .func (.func 58) #[] #[.pointer (some ⟨w.heap.size, 0, none⟩), .pointer (some ⟨w1.heap.size, 0, none⟩)], .func (.func 59) #[] #[.pointer (some ⟨w.heap.size, 0, none⟩)], .func (.func 60) #[] #[.pointer (some ⟨w.heap.size, 0, none⟩)]] 99)) := Chg.of_below ((hB1.alloc hw1 _).alloc (by simp; omega) _)
  have hdk : Dk n W D M s ((w1.alloc (.cells #[.string b] 9)).alloc (.cells #[.func (.func 55) #[] #[.pointer (some ⟨w.heap.size, 0, none⟩)], .func (.func 57) #[] #[.pointer (some ⟨w.heap.size, 0, none⟩)], .func (.func 58) #[] #[.pointer (some ⟨w.heap.size, 0, none⟩), .pointer (some ⟨w1.heap.size, 0, none⟩)], .func (.func 59) #[] #[.pointer (some ⟨w.heap.size, 0, none⟩)], .func (.func 60) #[] #[.pointer (some ⟨w.heap.size, 0, none⟩)]] 99)) := h1.next (((Below.refl _ w1).alloc (Nat.le_refl _) _).alloc (by simp) _)
  have hne1 : w.heap.size ≠ D := by omega
  have hne2 : w.heap.size ≠ M := by omega
  have hne3 : w1.heap.size ≠ D := by omega
  have hne4 : w1.heap.size ≠ M := by omega
  have q0 := ix_0
  have q1 := ix_1
  have q2 := ix_2
  have q3 := ix_3
  have q4 := ix_4
  clear s0 s1 s2 s3 s4 x0 x1 x2 x3 x4 x5 d0 d1 d2 d3 d4 xS bD1 hYd hB1 h1 hlt1
  go_loopw [26] (fun i wr => ∃ k : Nat, k ≤ 5 ∧ i = .int .i64 k ∧ (s.saveTo b k).1 = 0 ∧ Dk n W D M (s.saveTo b k).2 wr ∧ Boxed wr w.heap.size 25 (.pointer (some ⟨D, 0, none⟩)) ∧ Boxed wr w1.heap.size 9 (.string b) ∧ Chg [D, M] w wr) (fun i _ => 5 - (intOf i).toNat)
  case atStart => exact ⟨0, by omega, rfl, rfl, hdk, hbD, hbS, hch⟩
  case round =>
    obtain ⟨k, hk, rfl, hz, hdk', hbD', hbS', hch'⟩ := hrel
    clear hdk hbD hbS hch
    by_cases hlt : k < 5
    · rcases (show k = 0 ∨ k = 1 ∨ k = 2 ∨ k = 3 ∨ k = 4 by omega) with rfl | rfl | rfl | rfl | rfl
      · have hclo := clo1_dk (hfT 0 (by omega)) (by omega) hbD' hdk'
        have hsu : s.saveTo b 1 = (s.saveTo b 0).2.clear := rfl
        obtain ⟨⟨e', s'⟩, hr⟩ : ∃ t, s.saveTo b 1 = t := ⟨_, rfl⟩
        rw [hr] at hsu
        rw [← hsu] at hclo
        simp only at hclo
        have HS := Lib.hid (HST.out 1 (by omega))
        rw [hr] at HS
        have HR := Lib.hid hr
        clear hr hsu hz
        by_cases he : e' = 0
        · subst he
          go_wp2_with fail
          refine hclo.mono ?_
          clear hclo
          rintro x w2 ⟨rfl, h2, hC⟩
          go_wp2
          go_roundw
          case rel => exact ⟨1, by omega, rfl, by rw [HR.out], by rw [HR.out]; exact h2, box_chg hbD' hne1 hne2 hC, box_chg hbS' hne3 hne4 hC, hch'.trans hC⟩
          case measure => simp [intOf]
        · have hee : (e5, s5) = (e', s') := by rw [← HE5.out, HS.out he]
          simp only [Prod.mk.injEq] at hee
          obtain ⟨rfl, rfl⟩ := hee
          go_wp2_with fail
          refine hclo.mono ?_
          clear hclo
          rintro x w2 ⟨rfl, h2, hC⟩
          go_wp2
          go_ret
          exact ⟨rfl, h2, hch'.trans hC⟩
      · have hclo := clo2_dk (hfT 1 (by omega)) (by omega) hbD' hdk'
        have hsu : s.saveTo b 2 = (s.saveTo b 1).2.create nFresh := then_go (r := s.saveTo b 1) (f := (fun s => s.create nFresh)) hz
        obtain ⟨⟨e', s'⟩, hr⟩ : ∃ t, s.saveTo b 2 = t := ⟨_, rfl⟩
        rw [hr] at hsu
        rw [← hsu] at hclo
        simp only at hclo
        have HS := Lib.hid (HST.out 2 (by omega))
        rw [hr] at HS
        have HR := Lib.hid hr
        clear hr hsu hz
        by_cases he : e' = 0
        · subst he
          go_wp2_with fail
          refine hclo.mono ?_
          clear hclo
          rintro x w2 ⟨rfl, h2, hC⟩
          go_wp2
          go_roundw
          case rel => exact ⟨2, by omega, rfl, by rw [HR.out], by rw [HR.out]; exact h2, box_chg hbD' hne1 hne2 hC, box_chg hbS' hne3 hne4 hC, hch'.trans hC⟩
          case measure => simp [intOf]
        · have hee : (e5, s5) = (e', s') := by rw [← HE5.out, HS.out he]
          simp only [Prod.mk.injEq] at hee
          obtain ⟨rfl, rfl⟩ := hee
          go_wp2_with fail
          refine hclo.mono ?_
          clear hclo
          rintro x w2 ⟨rfl, h2, hC⟩
          go_wp2
          go_ret
          exact ⟨rfl, h2, hch'.trans hC⟩
      · have hclo := clo3_dk (hfT 2 (by omega)) (by omega) hbD' hbS' hdk'
        have hsu : s.saveTo b 3 = (s.saveTo b 2).2.append nFresh b := then_go (r := s.saveTo b 2) (f := (fun s => s.append nFresh b)) hz
        obtain ⟨⟨e', s'⟩, hr⟩ : ∃ t, s.saveTo b 3 = t := ⟨_, rfl⟩
        rw [hr] at hsu
        rw [← hsu] at hclo
        simp only at hclo
        have HS := Lib.hid (HST.out 3 (by omega))
        rw [hr] at HS
        have HR := Lib.hid hr
        clear hr hsu hz
        by_cases he : e' = 0
        · subst he
          go_wp2_with fail
          refine hclo.mono ?_
          clear hclo
          rintro x w2 ⟨rfl, h2, hC⟩
          go_wp2
          go_roundw
          case rel => exact ⟨3, by omega, rfl, by rw [HR.out], by rw [HR.out]; exact h2, box_chg hbD' hne1 hne2 hC, box_chg hbS' hne3 hne4 hC, hch'.trans hC⟩
          case measure => simp [intOf]
        · have hee : (e5, s5) = (e', s') := by rw [← HE5.out, HS.out he]
          simp only [Prod.mk.injEq] at hee
          obtain ⟨rfl, rfl⟩ := hee
          go_wp2_with fail
          refine hclo.mono ?_
          clear hclo
          rintro x w2 ⟨rfl, h2, hC⟩
          go_wp2
          go_ret
          exact ⟨rfl, h2, hch'.trans hC⟩
      · have hclo := clo4_dk (hfT 3 (by omega)) (by omega) hbD' hdk'
        have hsu : s.saveTo b 4 = (s.saveTo b 3).2.sync nFresh := then_go (r := s.saveTo b 3) (f := (fun s => s.sync nFresh)) hz
        obtain ⟨⟨e', s'⟩, hr⟩ : ∃ t, s.saveTo b 4 = t := ⟨_, rfl⟩
        rw [hr] at hsu
        rw [← hsu] at hclo
        simp only at hclo
        have HS := Lib.hid (HST.out 4 (by omega))
        rw [hr] at HS
        have HR := Lib.hid hr
        clear hr hsu hz
        by_cases he : e' = 0
        · subst he
          go_wp2_with fail
          refine hclo.mono ?_
          clear hclo
          rintro x w2 ⟨rfl, h2, hC⟩
          go_wp2
          go_roundw
          case rel => exact ⟨4, by omega, rfl, by rw [HR.out], by rw [HR.out]; exact h2, box_chg hbD' hne1 hne2 hC, box_chg hbS' hne3 hne4 hC, hch'.trans hC⟩
          case measure => simp [intOf]
        · have hee : (e5, s5) = (e', s') := by rw [← HE5.out, HS.out he]
          simp only [Prod.mk.injEq] at hee
          obtain ⟨rfl, rfl⟩ := hee
          go_wp2_with fail
          refine hclo.mono ?_
          clear hclo
          rintro x w2 ⟨rfl, h2, hC⟩
          go_wp2
          go_ret
          exact ⟨rfl, h2, hch'.trans hC⟩
      · have hclo := clo5_dk (hfT 4 (by omega)) (by omega) hbD' hdk'
        have hsu : s.saveTo b 5 = (s.saveTo b 4).2.rename nFresh nSheet := then_go (r := s.saveTo b 4) (f := (fun s => s.rename nFresh nSheet)) hz
        obtain ⟨⟨e', s'⟩, hr⟩ : ∃ t, s.saveTo b 5 = t := ⟨_, rfl⟩
        rw [hr] at hsu
        rw [← hsu] at hclo
        simp only at hclo
        have HS := Lib.hid (HST.out 5 (by omega))
        rw [hr] at HS
        have HR := Lib.hid hr
        clear hr hsu hz
        by_cases he : e' = 0
        · subst he
          go_wp2_with fail
          refine hclo.mono ?_
          clear hclo
          rintro x w2 ⟨rfl, h2, hC⟩
          go_wp2
          go_roundw
          case rel => exact ⟨5, by omega, rfl, by rw [HR.out], by rw [HR.out]; exact h2, box_chg hbD' hne1 hne2 hC, box_chg hbS' hne3 hne4 hC, hch'.trans hC⟩
          case measure => simp [intOf]
        · have hee : (e5, s5) = (e', s') := by rw [← HE5.out, HS.out he]
          simp only [Prod.mk.injEq] at hee
          obtain ⟨rfl, rfl⟩ := hee
          go_wp2_with fail
          refine hclo.mono ?_
          clear hclo
          rintro x w2 ⟨rfl, h2, hC⟩
          go_wp2
          go_ret
          exact ⟨rfl, h2, hch'.trans hC⟩
    · obtain rfl : k = 5 := by omega
      have he := HE5.out
      have hs5 : s.saveTo b 5 = (e5, s5) := he
      rw [hs5] at hz hdk'
      simp only at hz hdk'
      subst hz
      go_wp2
      go_ret
      exact ⟨rfl, hdk', hch'⟩
end
end Go.Proofs.YtoaegleieacokaaGreat
