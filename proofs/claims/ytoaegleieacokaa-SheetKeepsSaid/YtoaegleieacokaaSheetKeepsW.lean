/- SheetKeeps: the walk. -/
import Derived.Test.YtoaegleieacokaaSheetKeepsL
namespace Go.Proofs.Ytoaegleieacokaa
open Go.RowKit Go.Shelf

set_option maxRecDepth 100000 in
set_option maxHeartbeats 1000000 in
theorem walk_SheetKeeps {W : World} (a0 : Option Addr) (c0 : Nat) (l0 : List Int) (r0 : Rd W W.heap.size 1 (.slice a0 l0.length c0) l0.length (l0.map (Value.int .i64))) (_ : c0 ≤ maxLen) (_ : ∀ x ∈ l0, (Lit.int .i64 x).wf = true)
    (a1 : Option Addr) (c1 : Nat) (l1 : List Int) (r1 : Rd W W.heap.size 1 (.slice a1 l1.length c1) l1.length (l1.map (Value.int .i64))) (_ : c1 ≤ maxLen) (_ : ∀ x ∈ l1, (Lit.int .i64 x).wf = true) (a2 : Int) (w2 : (Lit.int .u8 a2).wf = true)
    (a3 : Int) (w3 : (Lit.int .u64 a3).wf = true) (a4 : ByteArray) (_ : a4.size ≤ maxLen) :
    Calls Try.prog 16 #[.slice a0 l0.length c0, .slice a1 l1.length c1, .int .u8 a2, .int .u64 a3, .string a4] W fun e w' => e = .returned (.bool true) ∧ Below W.heap.size W w' := by
  obtain ⟨x2, y2⟩ := wf_u8 w2
  obtain ⟨x3, y3⟩ := wf_u64 w3
  have hI : Ints W W.heap.size (.slice a0 l0.length c0) l0 := r0
  have hJ : Ints W W.heap.size (.slice a1 l1.length c1) l1 := r1
  go_enter Try.func16, Try.ntmps16
  go_wp2_with fail
  refine (known9_calls W).mono ?_
  rintro e W1 ⟨rfl, hB1⟩
  by_cases hlen : 250 < l0.length
  · go_wp2
    go_ret
    exact ⟨rfl, hB1⟩
  by_cases hlen2 : 250 < l1.length
  · go_wp2
    go_ret
    exact ⟨rfl, hB1⟩
  have hic : ∀ W', Below W.heap.size W W' → Calls Try.prog 19 #[.slice a0 l0.length c0] W' fun e w' => e = .returned (.bool (isL l0)) ∧ Below W'.heap.size W' w' := fun W' hb => is_calls a0 c0 l0 (by omega) W' ((hI.below hb (Nat.le_refl _)).up hb.size)
  have hjc : ∀ W', Below W.heap.size W W' → Calls Try.prog 19 #[.slice a1 l1.length c1] W' fun e w' => e = .returned (.bool (isL l1)) ∧ Below W'.heap.size W' w' := fun W' hb => is_calls a1 c1 l1 (by omega) W' ((hJ.below hb (Nat.le_refl _)).up hb.size)
  cases hL : isL l0 with
  | false =>
    simp only [hL] at hic
    go_wp2_with fail
    refine (hic W1 hB1).mono ?_
    rintro x W2 ⟨rfl, hB2⟩
    go_wp2
    go_ret
    exact ⟨rfl, hB1.trans (hB2.mono hB1.size)⟩
  | true =>
  cases hM : isL l1 with
  | false =>
    simp only [hL, hM] at hic hjc
    go_wp2_with fail
    refine (hic W1 hB1).mono ?_
    rintro x W2 ⟨rfl, hB2⟩
    replace hB2 := hB1.trans (hB2.mono hB1.size)
    go_wp2_with fail
    refine (hjc W2 hB2).mono ?_
    rintro x W3 ⟨rfl, hB3⟩
    go_wp2
    go_ret
    exact ⟨rfl, hB2.trans (hB3.mono hB2.size)⟩
  | true =>
    simp only [hL, hM] at hic hjc
    have hle := bytesL_len (isL_sheet hL)
    have hle2 := bytesL_len (isL_sheet hM)
    rw [← ba_size] at hle hle2
    by_cases hjk : 100 < a4.size
    · go_wp2_with fail
      refine (hic W1 hB1).mono ?_
      rintro x W2 ⟨rfl, hB2⟩
      replace hB2 := hB1.trans (hB2.mono hB1.size)
      go_wp2_with fail
      refine (hjc W2 hB2).mono ?_
      rintro x W3 ⟨rfl, hB3⟩
      replace hB3 := hB2.trans (hB3.mono hB2.size)
      go_wp2
      go_ret
      exact ⟨rfl, hB3⟩
    have hsa := fun (n N : Nat) (hN : N < 100) (W0 : World) (D M : Nat) (w : World) (s : DS) (hf : DS.Fit N s) (h : Dk n W0 D M s w) (hb : Below W.heap.size W w) => save_dk hf (by omega) a0 c0 l0 hL ((hI.below hb (Nat.le_refl _)).up hb.size) h
    have hsb := fun (n N : Nat) (hN : N < 100) (W0 : World) (D M : Nat) (w : World) (s : DS) (hf : DS.Fit N s) (h : Dk n W0 D M s w) (hb : Below W.heap.size W w) => save_dk hf (by omega) a1 c1 l1 hM ((hJ.below hb (Nat.le_refl _)).up hb.size) h
    have hlo := fun (n : Nat) (W0 : World) (D M : Nat) (w : World) (s : DS) (hr : readOf s nSheet = (⟨(bytesL l0).toArray⟩, 0)) (h : Dk n W0 D M s w) => load_ok hL hr h
    have hlo2 := fun (n : Nat) (W0 : World) (D M : Nat) (w : World) (s : DS) (hr : readOf s nSheet = (⟨(bytesL l1).toArray⟩, 0)) (h : Dk n W0 D M s w) => load_ok hM hr h
    generalize (⟨(bytesL l0).toArray⟩ : ByteArray) = X at *
    generalize (⟨(bytesL l1).toArray⟩ : ByteArray) = Y at *
    have f0 := fit_new 100000
    rw [sf_new (by decide) (by decide)] at f0
    have f1 := fit_create f0 nFresh
    rw [kp9_1] at f1
    have f2 := fit_append f1 nFresh a4
    rw [kp9_2 (by omega)] at f2
    have f3 := fit_save f2 X
    rw [kp9_3 (by omega)] at f3
    obtain ⟨q0, q1⟩ : 0 ≤ a2 % 8 ∧ a2 % 8 < 8 := by omega
    have hlim : ({ (⟨100000, [(nSheet, ⟨X, X.size⟩)], 7, -1⟩ : DS) with left := max (a2 % 8) 0 } : DS) = ⟨100000, [(nSheet, ⟨X, X.size⟩)], 7, a2 % 8⟩ := by rw [show max (a2 % 8) 0 = a2 % 8 from by omega]
    have f4 := fit_limit f3 (n := a2 % 8) (by omega)
    rw [hlim] at f4
    obtain ⟨e5, s5, he5, hs5⟩ := save_cut (n := 100000) (st := 7) q0 X Y (by omega)
    have f5 := fit_save f4 Y
    rw [he5] at f5
    have f6 := fit_crash f5 a3 x3 y3
    have hfok := f5.fok
    have hmany := f5.many
    have hread : (e5 = 18 ∧ readOf (s5.crash a3) nSheet = (X, 0)) ∨ (e5 = 0 ∧ readOf (s5.crash a3) nSheet = (Y, 0)) := by
      rcases hs5 with ⟨h1, rest, h2⟩ | ⟨h1, h2⟩
      · exact .inl ⟨h1, crash_read h2 a3 x3 y3⟩
      · exact .inr ⟨h1, crash_read h2 a3 x3 y3⟩
    have HR := Lib.hid hread
    have o1 := f1.ok (by decide)
    have o2 := f2.ok (by decide)
    have o3 := f3.ok (by decide)
    have o4 := f4.ok (by decide)
    have o6 := f6.ok (by decide)
    simp only at hfok hmany
    obtain ⟨s6, hs6⟩ : ∃ s6, s5.crash a3 = s6 := ⟨_, rfl⟩
    rw [hs6] at o6 HR
    clear hs5 hread f6 f5 f1
    have HS6 := Lib.hid hs6
    have HE5 := Lib.hid he5
    have HL := Lib.hid hlim
    clear he5 hlim hs6
    go_wp2_with fail
    refine (hic W1 hB1).mono ?_
    rintro x W2 ⟨rfl, hB2⟩
    replace hB2 := hB1.trans (hB2.mono hB1.size)
    go_wp2_with fail
    refine (hjc W2 hB2).mono ?_
    rintro x W3 ⟨rfl, hB3⟩
    replace hB3 := hB2.trans (hB3.mono hB2.size)
    have hnew := new_dk 100000 hB3 hB3.size
    rw [sf_new (by decide) (by decide)] at hnew
    clear hic hjc hB1 hB2
    go_wp2_with fail
    refine hnew.mono ?_
    clear hnew
    rintro x w5 ⟨D, rfl, M, h⟩
    go_wp2_with fail
    refine (create_dk kp9_1 o1 h).mono ?_
    clear h
    rintro x w6 ⟨rfl, h, _⟩
    go_wp2_with fail
    refine (append_dk (kp9_2 (by omega)) o2 h).mono ?_
    clear h
    rintro x w7 ⟨rfl, h, _⟩
    have hsd := hsa _ 2 (by omega) _ _ _ _ _ (f2.up (by decide)) h h.below
    rw [kp9_3 (by omega)] at hsd
    clear h hsa
    go_wp2_with fail
    refine hsd.mono ?_
    clear hsd
    rintro x w8 ⟨rfl, h, _⟩
    have hld := hlo _ _ _ _ _ _ (by rfl) h
    clear h
    go_wp2_with fail
    refine hld.mono ?_
    clear hld
    rintro x w9 ⟨v, rfl, ho, h, hB9⟩
    have rv := Rd.of_owns ho
    obtain ⟨av, cv, rfl⟩ := Rd.val rv
    have rI := (hI.below h.below (Nat.le_refl _)).up h.below.size
    have hsm := same_calls av cv l0 a0 c0 l0 (by omega) (by omega) w9 rv rI
    rw [decide_self] at hsm
    clear rv rI ho hB9
    go_wp2_with fail
    refine hsm.mono ?_
    clear hsm
    rintro x w10 ⟨rfl, hB10⟩
    replace h := h.next hB10
    clear hB10
    go_wp2_with fail
    refine (limit_dk HL.out o4 h).mono ?_
    clear h
    rintro x w11 ⟨⟨vx, rfl⟩, h, _⟩
    have hsd := hsb _ 20 (by omega) _ _ _ _ _ (f4.up (by decide)) h h.below
    rw [HE5.out] at hsd
    simp only at hsd
    clear h hsb
    go_wp2_with fail
    refine hsd.mono ?_
    clear hsd
    rintro x w12 ⟨rfl, h, _⟩
    go_wp2_with fail
    refine (crash_dk x3 y3 (by omega) hfok HS6.out o6 h).mono ?_
    clear h
    rintro x w13 ⟨⟨vx, rfl⟩, h, _⟩
    rcases HR.out with ⟨rfl, hr⟩ | ⟨rfl, hr⟩
    · have hld := hlo _ _ _ _ _ _ hr h
      clear hlo hlo2 h HR
      go_wp2_with fail
      refine hld.mono ?_
      clear hld
      rintro x w14 ⟨v, rfl, ho, h, hB14⟩
      have rv := Rd.of_owns ho
      obtain ⟨av, cv, rfl⟩ := Rd.val rv
      have rI := (hI.below h.below (Nat.le_refl _)).up h.below.size
      have hsm := same_calls av cv l0 a0 c0 l0 (by omega) (by omega) w14 rv rI
      rw [decide_self] at hsm
      go_wp2_with fail
      refine hsm.mono ?_
      rintro x w15 ⟨rfl, hB15⟩
      go_wp2
      go_ret
      exact ⟨rfl, (h.next hB15).below⟩
    · have hld := hlo2 _ _ _ _ _ _ hr h
      clear hlo hlo2 h HR
      go_wp2_with fail
      refine hld.mono ?_
      clear hld
      rintro x w14 ⟨v, rfl, ho, h, hB14⟩
      have rv := Rd.of_owns ho
      obtain ⟨av, cv, rfl⟩ := Rd.val rv
      have rI := (hJ.below h.below (Nat.le_refl _)).up h.below.size
      have hsm := same_calls av cv l1 a1 c1 l1 (by omega) (by omega) w14 rv rI
      rw [decide_self] at hsm
      go_wp2_with fail
      refine hsm.mono ?_
      rintro x w15 ⟨rfl, hB15⟩
      go_wp2
      go_ret
      exact ⟨rfl, (h.next hB15).below⟩
end Go.Proofs.Ytoaegleieacokaa
