/- SheetFull: the walk. -/
import Derived.Test.YtoaegleieacokaaBytesIn
namespace Go.Proofs.Ytoaegleieacokaa
open Go.RowKit Go.Shelf

/-- A sheet saved over another: there is room, or there is not. -/
theorem save_over (n k st : Int) (x b : ByteArray) : (⟨n, [(nSheet, ⟨x, k⟩)], st, -1⟩ : DS).save b =
    if n - (x.size : Int) < (b.size : Int) then (17, ⟨n, [(nSheet, ⟨x, k⟩), (nFresh, ⟨⟨#[]⟩, 0⟩)], st + 1, -1⟩) else (0, ⟨n, [(nSheet, ⟨b, b.size⟩)], st + 1 + 1 + 1 + 1, -1⟩) := by
  have e1 : (⟨n, [(nSheet, ⟨x, k⟩)], st, -1⟩ : DS).clear = (0, ⟨n, [(nSheet, ⟨x, k⟩)], st, -1⟩) := by rfl
  have e2 : (⟨n, [(nSheet, ⟨x, k⟩)], st, -1⟩ : DS).create nFresh = (0, ⟨n, [(nSheet, ⟨x, k⟩), (nFresh, ⟨⟨#[]⟩, 0⟩)], st + 1, -1⟩) := by rfl
  have a2 : andThen (⟨n, [(nSheet, ⟨x, k⟩)], st, -1⟩ : DS).clear (fun s => s.create nFresh) = (0, ⟨n, [(nSheet, ⟨x, k⟩), (nFresh, ⟨⟨#[]⟩, 0⟩)], st + 1, -1⟩) := by rw [e1]; exact (then_go rfl).trans e2
  have u : used [(nSheet, (⟨x, k⟩ : F)), (nFresh, ⟨⟨#[]⟩, 0⟩)] = x.size := by rfl
  have o : onOf (⟨n, [(nSheet, ⟨x, k⟩), (nFresh, ⟨⟨#[]⟩, 0⟩)], st + 1, -1⟩ : DS) nFresh true = 0 := by rfl
  by_cases h : n - (x.size : Int) < (b.size : Int)
  · rw [if_pos h]
    have e3 : (⟨n, [(nSheet, ⟨x, k⟩), (nFresh, ⟨⟨#[]⟩, 0⟩)], st + 1, -1⟩ : DS).append nFresh b = (17, ⟨n, [(nSheet, ⟨x, k⟩), (nFresh, ⟨⟨#[]⟩, 0⟩)], st + 1, -1⟩) := by
      unfold DS.append
      rw [if_neg (by rw [o]; decide), if_pos (by simp only; rw [u]; exact h)]
    have a3 : andThen (andThen (⟨n, [(nSheet, ⟨x, k⟩)], st, -1⟩ : DS).clear (fun s => s.create nFresh)) (fun s => s.append nFresh b) = (17, ⟨n, [(nSheet, ⟨x, k⟩), (nFresh, ⟨⟨#[]⟩, 0⟩)], st + 1, -1⟩) := by rw [a2]; exact (then_go rfl).trans e3
    unfold DS.save
    have hs : ∀ (s : DS) (f : DS → Int × DS), andThen (17, s) f = (17, s) := fun s f => then_stop (by show (17 : Int) ≠ 0; decide)
    rw [a3, hs, hs]
  · rw [if_neg h]
    have e3 : (⟨n, [(nSheet, ⟨x, k⟩), (nFresh, ⟨⟨#[]⟩, 0⟩)], st + 1, -1⟩ : DS).append nFresh b = (0, ⟨n, [(nSheet, ⟨x, k⟩), (nFresh, ⟨b, 0⟩)], st + 1 + 1, -1⟩) := by
      unfold DS.append
      rw [if_neg (by rw [o]; decide), if_neg (by simp only; rw [u]; exact h)]
      have e : (⟨#[]⟩ : ByteArray) ++ b = b := ByteArray.empty_append
      have : (⟨n, [(nSheet, ⟨x, k⟩), (nFresh, ⟨⟨#[]⟩, 0⟩)], st + 1, -1⟩ : DS).step nFresh ⟨(⟨#[]⟩ : ByteArray) ++ b, 0⟩ = ⟨n, [(nSheet, ⟨x, k⟩), (nFresh, ⟨b, 0⟩)], st + 1 + 1, -1⟩ := by rw [e]; rfl
      exact congrArg (Prod.mk (0 : Int)) this
    have e4 : (⟨n, [(nSheet, ⟨x, k⟩), (nFresh, ⟨b, 0⟩)], st + 1 + 1, -1⟩ : DS).sync nFresh = (0, ⟨n, [(nSheet, ⟨x, k⟩), (nFresh, ⟨b, b.size⟩)], st + 1 + 1 + 1, -1⟩) := by rfl
    have e5 : (⟨n, [(nSheet, ⟨x, k⟩), (nFresh, ⟨b, b.size⟩)], st + 1 + 1 + 1, -1⟩ : DS).rename nFresh nSheet = (0, ⟨n, [(nSheet, ⟨b, b.size⟩)], st + 1 + 1 + 1 + 1, -1⟩) := by rfl
    have a3 : andThen (andThen (⟨n, [(nSheet, ⟨x, k⟩)], st, -1⟩ : DS).clear (fun s => s.create nFresh)) (fun s => s.append nFresh b) = (0, ⟨n, [(nSheet, ⟨x, k⟩), (nFresh, ⟨b, 0⟩)], st + 1 + 1, -1⟩) := by rw [a2]; exact (then_go rfl).trans e3
    have a4 : andThen (andThen (andThen (⟨n, [(nSheet, ⟨x, k⟩)], st, -1⟩ : DS).clear (fun s => s.create nFresh)) (fun s => s.append nFresh b)) (fun s => s.sync nFresh) = (0, ⟨n, [(nSheet, ⟨x, k⟩), (nFresh, ⟨b, b.size⟩)], st + 1 + 1 + 1, -1⟩) := by rw [a3]; exact (then_go rfl).trans e4
    unfold DS.save
    rw [a4]
    exact (then_go rfl).trans e5
theorem sf_new {n : Int} (h0 : 0 ≤ n) (h1 : n ≤ 1000000) : newDS n = ⟨n, [], 0, -1⟩ := by
  have hm : min (max n 0) 1000000 = n := by omega
  unfold newDS
  rw [hm]
theorem sf_1 (n : Int) : (⟨n, [], 0, -1⟩ : DS).create nSheet = (0, ⟨n, [(nSheet, ⟨⟨#[]⟩, 0⟩)], 1, -1⟩) := by rfl
theorem sf_2 {n : Int} {x : ByteArray} (h : (x.size : Int) ≤ n) : (⟨n, [(nSheet, ⟨⟨#[]⟩, 0⟩)], 1, -1⟩ : DS).append nSheet x = (0, ⟨n, [(nSheet, ⟨x, 0⟩)], 2, -1⟩) := by
  unfold DS.append
  rw [if_neg (by rw [show onOf (⟨n, [(nSheet, ⟨⟨#[]⟩, 0⟩)], 1, -1⟩ : DS) nSheet true = 0 from rfl]; decide), if_neg (by rw [show used [(nSheet, (⟨⟨#[]⟩, 0⟩ : F))] = 0 from rfl]; simp only; omega)]
  have e : (⟨#[]⟩ : ByteArray) ++ x = x := ByteArray.empty_append
  have : (⟨n, [(nSheet, ⟨⟨#[]⟩, 0⟩)], 1, -1⟩ : DS).step nSheet ⟨(⟨#[]⟩ : ByteArray) ++ x, 0⟩ = ⟨n, [(nSheet, ⟨x, 0⟩)], 2, -1⟩ := by rw [e]; rfl
  exact congrArg (Prod.mk (0 : Int)) this
theorem sf_3 (n : Int) (x : ByteArray) : (⟨n, [(nSheet, ⟨x, 0⟩)], 2, -1⟩ : DS).sync nSheet = (0, ⟨n, [(nSheet, ⟨x, x.size⟩)], 3, -1⟩) := by rfl
set_option maxRecDepth 100000 in
set_option maxHeartbeats 1000000 in
theorem walk_SheetFull {W : World} (a0 : Option Addr) (c0 : Nat) (l0 : List Int) (r0 : Rd W W.heap.size 1 (.slice a0 l0.length c0) l0.length (l0.map (Value.int .i64))) (_ : c0 ≤ maxLen) (_ : ∀ x ∈ l0, (Lit.int .i64 x).wf = true)
    (a1 : Option Addr) (c1 : Nat) (l1 : List Int) (r1 : Rd W W.heap.size 1 (.slice a1 l1.length c1) l1.length (l1.map (Value.int .i64))) (_ : c1 ≤ maxLen) (_ : ∀ x ∈ l1, (Lit.int .i64 x).wf = true) (a2 : Int) (w2 : (Lit.int .u8 a2).wf = true) :
    Calls Try.prog 4 #[.slice a0 l0.length c0, .slice a1 l1.length c1, .int .u8 a2] W fun e w' => e = .returned (.bool true) ∧ Below W.heap.size W w' := by
  obtain ⟨x2, y2⟩ := wf_u8 w2
  have hI : Ints W W.heap.size (.slice a0 l0.length c0) l0 := r0
  have hJ : Ints W W.heap.size (.slice a1 l1.length c1) l1 := r1
  go_enter Try.func4, Try.ntmps4
  go_wp2_with fail
  refine (known9_calls W).mono ?_
  rintro e W1 ⟨rfl, hB1⟩
  by_cases hlen : 250 < l0.length
  · go_wp2
    go_ret
    exact ⟨rfl, hB1⟩
  by_cases hlen2 : 250 < l1.length
  · go_wp2
    go_ret
    exact ⟨rfl, hB1⟩
  have hic : ∀ W', Below W.heap.size W W' → Calls Try.prog 19 #[.slice a0 l0.length c0] W' fun e w' => e = .returned (.bool (isL l0)) ∧ Below W'.heap.size W' w' := fun W' hb => is_calls a0 c0 l0 (by omega) W' ((hI.below hb (Nat.le_refl _)).up hb.size)
  have hjc : ∀ W', Below W.heap.size W W' → Calls Try.prog 19 #[.slice a1 l1.length c1] W' fun e w' => e = .returned (.bool (isL l1)) ∧ Below W'.heap.size W' w' := fun W' hb => is_calls a1 c1 l1 (by omega) W' ((hJ.below hb (Nat.le_refl _)).up hb.size)
  cases hL : isL l0 with
  | false =>
    simp only [hL] at hic
    go_wp2_with fail
    refine (hic W1 hB1).mono ?_
    rintro x W2 ⟨rfl, hB2⟩
    go_wp2
    go_ret
    exact ⟨rfl, hB1.trans (hB2.mono hB1.size)⟩
  | true =>
  cases hM : isL l1 with
  | false =>
    simp only [hL, hM] at hic hjc
    go_wp2_with fail
    refine (hic W1 hB1).mono ?_
    rintro x W2 ⟨rfl, hB2⟩
    replace hB2 := hB1.trans (hB2.mono hB1.size)
    go_wp2_with fail
    refine (hjc W2 hB2).mono ?_
    rintro x W3 ⟨rfl, hB3⟩
    go_wp2
    go_ret
    exact ⟨rfl, hB2.trans (hB3.mono hB2.size)⟩
  | true =>
    simp only [hL, hM] at hic hjc
    have hrb := fun W' (hb : Below W.heap.size W W') => refbytes_calls a0 c0 l0 hL W' ((hI.below hb (Nat.le_refl _)).up hb.size)
    have hrc := fun W' (hb : Below W.heap.size W W') => refbytes_calls a1 c1 l1 hM W' ((hJ.below hb (Nat.le_refl _)).up hb.size)
    have hle := bytesL_len (isL_sheet hL)
    have hle2 := bytesL_len (isL_sheet hM)
    rw [← ba_size] at hle hle2
    have hs3 := save_over ((⟨(bytesL l0).toArray⟩ : ByteArray).size + a2) (⟨(bytesL l0).toArray⟩ : ByteArray).size 3 ⟨(bytesL l0).toArray⟩ ⟨(bytesL l1).toArray⟩
    rw [show ∀ x : Int, x + a2 - x = a2 from fun x => by omega] at hs3
    have hsv := fun (n : Nat) (W0 : World) (D M : Nat) (w : World) (hf : DS.Fit 3 ⟨(⟨(bytesL l0).toArray⟩ : ByteArray).size + a2, [(nSheet, ⟨⟨(bytesL l0).toArray⟩, (⟨(bytesL l0).toArray⟩ : ByteArray).size⟩)], 3, -1⟩) (h : Dk n W0 D M ⟨(⟨(bytesL l0).toArray⟩ : ByteArray).size + a2, [(nSheet, ⟨⟨(bytesL l0).toArray⟩, (⟨(bytesL l0).toArray⟩ : ByteArray).size⟩)], 3, -1⟩ w) (hb : Below W.heap.size W w) => save_dk hf (by decide) a1 c1 l1 hM ((hJ.below hb (Nat.le_refl _)).up hb.size) h
    have hlo := fun (n : Nat) (W0 : World) (D M : Nat) (w : World) (s : DS) (hr : readOf s nSheet = (⟨(bytesL l0).toArray⟩, 0)) (h : Dk n W0 D M s w) => load_ok hL hr h
    have hlo2 := fun (n : Nat) (W0 : World) (D M : Nat) (w : World) (s : DS) (hr : readOf s nSheet = (⟨(bytesL l1).toArray⟩, 0)) (h : Dk n W0 D M s w) => load_ok hM hr h
    generalize (⟨(bytesL l0).toArray⟩ : ByteArray) = X at *
    generalize (⟨(bytesL l1).toArray⟩ : ByteArray) = Y at *
    go_wp2_with fail
    refine (hic W1 hB1).mono ?_
    rintro x W2 ⟨rfl, hB2⟩
    replace hB2 := hB1.trans (hB2.mono hB1.size)
    go_wp2_with fail
    refine (hjc W2 hB2).mono ?_
    rintro x W3 ⟨rfl, hB3⟩
    replace hB3 := hB2.trans (hB3.mono hB2.size)
    go_wp2_with fail
    refine (hrb W3 hB3).mono ?_
    rintro x W4 ⟨rfl, hB4⟩
    replace hB4 := hB3.trans (hB4.mono hB3.size)
    clear hic hjc hrb hB1 hB2 hB3
    have hXR : (X.size : Int) ≤ X.size + a2 := by omega
    have hR0 : (0 : Int) ≤ X.size + a2 := by omega
    have hR1 : X.size + a2 ≤ 1000000 := by omega
    have f0 := fit_new (X.size + a2)
    rw [sf_new hR0 hR1] at f0
    have f1 := fit_create f0 nSheet
    rw [sf_1] at f1
    have f2 := fit_append f1 nSheet X
    rw [sf_2 hXR] at f2
    have f3 := fit_sync f2 nSheet
    rw [sf_3] at f3
    have o1 := f1.ok (by decide)
    have o2 := f2.ok (by decide)
    have o3 := f3.ok (by decide)
    simp only at o1 o2 o3
    have hnew := new_dk (X.size + a2) hB4 hB4.size
    rw [sf_new hR0 hR1] at hnew
    have hI2 := hI
    clear f0 f1 f2 hI r0 r1
    go_wp2_with fail
    refine hnew.mono ?_
    clear hnew
    rintro x w5 ⟨D, rfl, M, h⟩
    go_wp2_with fail
    refine (create_dk (sf_1 _) o1 h).mono ?_
    clear h
    rintro x w6 ⟨rfl, h, _⟩
    go_wp2_with fail
    refine (append_dk (sf_2 hXR) o2 h).mono ?_
    clear h
    rintro x w7 ⟨rfl, h, _⟩
    go_wp2_with fail
    refine (sync_dk (sf_3 _ _) o3 h).mono ?_
    clear h
    rintro x w8 ⟨rfl, h, _⟩
    have hsd := hsv _ _ _ _ _ (f3.up (by decide)) h h.below
    rw [hs3] at hsd
    clear hsv hs3 h
    by_cases hroom : a2 < (Y.size : Int)
    · simp only [if_pos hroom] at hsd
      go_wp2_with fail
      refine hsd.mono ?_
      clear hsd
      rintro x w9 ⟨rfl, h, _⟩
      have hld := hlo _ _ _ _ _ _ (by rfl) h
      clear hlo hlo2
      go_wp2_with fail
      refine hld.mono ?_
      clear hld
      rintro x w10 ⟨v, rfl, ho, h2, hB10⟩
      have rv := Rd.of_owns ho
      obtain ⟨av, cv, rfl⟩ := Rd.val rv
      have rI := (hI2.below h2.below (Nat.le_refl _)).up h2.below.size
      have hB11 := h2.below
      go_wp2_with fail
      refine (hrc w10 hB11).mono ?_
      rintro x w11 ⟨rfl, hB12⟩
      have hsm := same_calls av cv l0 a0 c0 l0 (by omega) (by omega) w11 ((rv.below hB12 (Nat.le_refl _)).up hB12.size) ((rI.below hB12 (Nat.le_refl _)).up hB12.size)
      rw [decide_self] at hsm
      replace hB12 := hB11.trans (hB12.mono hB11.size)
      go_wp2_with fail
      refine hsm.mono ?_
      rintro x w12 ⟨rfl, hB13⟩
      go_wp2
      go_ret
      exact ⟨rfl, hB12.trans (hB13.mono hB12.size)⟩
    · simp only [if_neg hroom] at hsd
      go_wp2_with fail
      refine hsd.mono ?_
      clear hsd
      rintro x w9 ⟨rfl, h, _⟩
      have hld := hlo2 _ _ _ _ _ _ (by rfl) h
      clear hlo hlo2
      go_wp2_with fail
      refine hld.mono ?_
      clear hld
      rintro x w10 ⟨v, rfl, ho, h2, hB10⟩
      have rv := Rd.of_owns ho
      obtain ⟨av, cv, rfl⟩ := Rd.val rv
      have rI := (hJ.below h2.below (Nat.le_refl _)).up h2.below.size
      have hB11 := h2.below
      go_wp2_with fail
      refine (hrc w10 hB11).mono ?_
      rintro x w11 ⟨rfl, hB12⟩
      have hsm := same_calls av cv l1 a1 c1 l1 (by omega) (by omega) w11 ((rv.below hB12 (Nat.le_refl _)).up hB12.size) ((rI.below hB12 (Nat.le_refl _)).up hB12.size)
      rw [decide_self] at hsm
      replace hB12 := hB11.trans (hB12.mono hB11.size)
      go_wp2_with fail
      refine hsm.mono ?_
      rintro x w12 ⟨rfl, hB13⟩
      go_wp2
      go_ret
      exact ⟨rfl, hB12.trans (hB13.mono hB12.size)⟩
end Go.Proofs.Ytoaegleieacokaa
