/- ladelaw9.known answers true; ladelaw9.reads. -/
import Derived.Test.YtoaegleieacokaaSheetSave
import Derived.Test.YtoaegleieacokaaRefRead
namespace Go.Proofs.Ytoaegleieacokaa
open Go.RowKit Go.Shelf

/-- Bytes of numbers and what stands behind them are told apart. -/
theorem flat_inj : ∀ (l m : List Int) (t : List UInt8), l.length = m.length → (∀ x ∈ l, 1 ≤ x ∧ x ≤ 99999999) → (∀ x ∈ m, 1 ≤ x ∧ x ≤ 99999999) →
    (l.flatMap fun x => putL x.toNat) = (m.flatMap fun x => putL x.toNat) ++ t → l = m ∧ t = []
  | [], [], t, _, _, _, h => ⟨rfl, by simpa using h.symm⟩
  | [], _ :: _, _, h, _, _, _ => by simp at h
  | _ :: _, [], _, h, _, _, _ => by simp at h
  | x :: l, y :: m, t, hlen, hl, hm, h => by
    have hx := hl x (by simp)
    have hy := hm y (by simp)
    simp only [List.flatMap_cons, List.append_assoc] at h
    have g1 := get_put x.toNat (l.flatMap fun x => putL x.toNat) (by omega)
    have g2 := get_put y.toNat ((m.flatMap fun x => putL x.toNat) ++ t) (by omega)
    rw [h, g2] at g1
    have hxy : x = y := by
      have := congrArg (fun p : Int × Int × Int => p.1) g1
      simp only at this
      omega
    subst hxy
    have h2 := List.append_cancel_left h
    obtain ⟨e1, e2⟩ := flat_inj l m t (by simpa using hlen) (fun z hz => hl z (by simp [hz])) (fun z hz => hm z (by simp [hz])) h2
    exact ⟨by rw [e1], e2⟩
theorem bytesL_prefix {l m : List Int} (hl : isL l = true) (hm : isL m = true) {t : List UInt8} (h : bytesL l = bytesL m ++ t) : l = m ∧ t = [] := by
  have h1 : (bytesL l).drop 4 = (bytesL m ++ t).drop 4 := by rw [h]
  rw [bytesL_drop, List.drop_append_of_le_length (by rw [bytesL, List.length_append, fixedL_len]; omega), bytesL_drop] at h1
  have sl := isL_sheet hl
  have sm := isL_sheet hm
  have hl2 := sl.le
  have hm2 := sm.le
  unfold bodyL bodyOf at h1
  rw [List.append_assoc] at h1
  have g1 := get_put l.length (l.flatMap fun x => putL x.toNat) (by omega)
  have g2 := get_put m.length ((m.flatMap fun x => putL x.toNat) ++ t) (by omega)
  rw [h1, g2] at g1
  have hlen : l.length = m.length := by
    have := congrArg (fun p : Int × Int × Int => p.1) g1
    simp only at this
    omega
  rw [hlen] at h1
  exact flat_inj l m t hlen sl.all sm.all (List.append_cancel_left h1)
theorem bytesL_inj {l m : List Int} (hl : isL l = true) (hm : isL m = true) (h : bytesL l = bytesL m) : l = m := (bytesL_prefix hl hm (t := []) (by simpa using h)).1

theorem decide_self (l : List Int) : decide (l = l) = true := by simp
set_option maxRecDepth 100000 in
set_option maxHeartbeats 1000000 in
theorem reads_calls (S : List UInt8) (hS : S.length ≤ 1000000) (w : World) : Calls Try.prog 22 #[.string ⟨S.toArray⟩] w fun e w' => e = .returned (.bool true) ∧ Below w.heap.size w w' := by
  by_cases hex : ∃ l, isL l = true ∧ S = bytesL l
  · obtain ⟨l, hl, rfl⟩ := hex
    have hle := (isL_sheet hl).le
    have hro := read_ok l hl w
    have hrr := refread_ok l hl
    go_enter Try.func22, Try.ntmps22
    go_wp2_with fail
    refine hro.mono ?_
    clear hro
    rintro x w1 ⟨v1, rfl, o1, hB1⟩
    go_wp2_with fail
    refine (hrr w1).mono ?_
    clear hrr
    rintro x w2 ⟨v2, rfl, o2, hB2⟩
    have r1 := Rd.of_owns (owns_below o1 hB2)
    have r2 := Rd.of_owns o2
    obtain ⟨a1, c1, rfl⟩ := Rd.val r1
    obtain ⟨a2, c2, rfl⟩ := Rd.val r2
    have hsa := same_calls a1 c1 l a2 c2 l (by omega) (by omega) w2 r1 r2
    rw [decide_self] at hsa
    go_wp2_with fail
    refine hsa.mono ?_
    rintro x w3 ⟨rfl, hB3⟩
    go_wp2
    go_ret
    exact ⟨rfl, (hB1.trans (hB2.mono hB1.size)).trans (hB3.mono (Nat.le_trans hB1.size hB2.size))⟩
  · have hs : ∀ l, isL l = true → S ≠ bytesL l := fun l hl e => hex ⟨l, hl, e⟩
    have hro := read_bad S hS hs w
    have hrr := refread_bad S hS hs
    clear hex hs
    go_enter Try.func22, Try.ntmps22
    go_wp2_with fail
    refine hro.mono ?_
    clear hro
    rintro x w1 ⟨rfl, hB1⟩
    go_wp2_with fail
    refine (hrr w1).mono ?_
    clear hrr
    rintro x w2 ⟨rfl, hB2⟩
    have hsa := same_calls none 0 [] none 0 [] (by simp) (by simp) w2 (Rd.nil _ _ _) (Rd.nil _ _ _)
    rw [decide_self] at hsa
    go_wp2_with fail
    refine hsa.mono ?_
    rintro x w3 ⟨rfl, hB3⟩
    go_wp2
    go_ret
    exact ⟨rfl, (hB1.trans (hB2.mono hB1.size)).trans (hB3.mono (Nat.le_trans hB1.size hB2.size))⟩

theorem lit_ints (w : World) (t : TypeId) (l : List Int) : Ints (w.alloc (.cells (l.map (Value.int .i64)).toArray t)) (w.alloc (.cells (l.map (Value.int .i64)).toArray t)).heap.size (.slice (some ⟨w.heap.size, 0, none⟩) l.length l.length) l :=
  ⟨by simp, _, _, rfl, Nat.le_refl _, fun _ => ⟨w.heap.size, 0, rfl, by simp, fun j _ => by rw [Nat.zero_add, (Blk.new w t _).cell j]; simp⟩⟩
/-- A sheet is saved on a disk that is empty. -/
theorem save_new {r : Int} {b : ByteArray} (hr : (b.size : Int) ≤ r) (hr2 : r ≤ 1000000) : (newDS r).save b = (0, ⟨r, [(nSheet, ⟨b, b.size⟩)], 4, -1⟩) := by
  have hm : min (max r 0) 1000000 = r := by omega
  have e0 : newDS r = ⟨r, [], 0, -1⟩ := by unfold newDS; rw [hm]
  have e1 : (newDS r).clear = (0, ⟨r, [], 0, -1⟩) := by rw [e0]; rfl
  have e2 : (⟨r, [], 0, -1⟩ : DS).create nFresh = (0, ⟨r, [(nFresh, ⟨⟨#[]⟩, 0⟩)], 1, -1⟩) := by rfl
  have e3 : (⟨r, [(nFresh, ⟨⟨#[]⟩, 0⟩)], 1, -1⟩ : DS).append nFresh b = (0, ⟨r, [(nFresh, ⟨b, 0⟩)], 2, -1⟩) := by
    unfold DS.append
    rw [if_neg (by rw [show onOf (⟨r, [(nFresh, ⟨⟨#[]⟩, 0⟩)], 1, -1⟩ : DS) nFresh true = 0 from rfl]; decide), if_neg (by rw [show used [(nFresh, (⟨⟨#[]⟩, 0⟩ : F))] = 0 from rfl]; simp only; omega)]
    have e : (⟨#[]⟩ : ByteArray) ++ b = b := ByteArray.empty_append
    have : (⟨r, [(nFresh, ⟨⟨#[]⟩, 0⟩)], 1, -1⟩ : DS).step nFresh ⟨(⟨#[]⟩ : ByteArray) ++ b, 0⟩ = ⟨r, [(nFresh, ⟨b, 0⟩)], 2, -1⟩ := by rw [e]; rfl
    exact congrArg (Prod.mk (0 : Int)) this
  have e4 : (⟨r, [(nFresh, ⟨b, 0⟩)], 2, -1⟩ : DS).sync nFresh = (0, ⟨r, [(nFresh, ⟨b, b.size⟩)], 3, -1⟩) := by rfl
  have e5 : (⟨r, [(nFresh, ⟨b, b.size⟩)], 3, -1⟩ : DS).rename nFresh nSheet = (0, ⟨r, [(nSheet, ⟨b, b.size⟩)], 4, -1⟩) := by rfl
  have a2 : andThen (newDS r).clear (fun s => s.create nFresh) = (0, ⟨r, [(nFresh, ⟨⟨#[]⟩, 0⟩)], 1, -1⟩) := by rw [e1]; exact (then_go rfl).trans e2
  have a3 : andThen (andThen (newDS r).clear (fun s => s.create nFresh)) (fun s => s.append nFresh b) = (0, ⟨r, [(nFresh, ⟨b, 0⟩)], 2, -1⟩) := by rw [a2]; exact (then_go rfl).trans e3
  have a4 : andThen (andThen (andThen (newDS r).clear (fun s => s.create nFresh)) (fun s => s.append nFresh b)) (fun s => s.sync nFresh) = (0, ⟨r, [(nFresh, ⟨b, b.size⟩)], 3, -1⟩) := by rw [a3]; exact (then_go rfl).trans e4
  unfold DS.save
  rw [a4]
  exact (then_go rfl).trans e5
theorem bytes12 : (bytesL [1, 2]).length = 7 := by
  rw [bytesL, List.length_append, fixedL_len, bodyL, bodyOf]
  simp only [List.length_cons, List.length_nil, List.flatMap_cons, List.flatMap_nil, List.append_nil, List.length_append]
  rw [show (1 : Int).toNat = 1 from rfl, show (2 : Int).toNat = 2 from rfl, putL_small (by omega), putL_small (by omega)]
  rfl
theorem bytes1300 : (bytesL [1, 300]).length = 8 := by
  rw [bytesL, List.length_append, fixedL_len, bodyL, bodyOf]
  simp only [List.length_cons, List.length_nil, List.flatMap_cons, List.flatMap_nil, List.append_nil, List.length_append]
  rw [show (1 : Int).toNat = 1 from rfl, show (300 : Int).toNat = 300 from rfl, putL_small (by omega), putL_small (by omega), putL_big (by omega), putL_small (by omega)]
  rfl

set_option maxRecDepth 100000 in
set_option maxHeartbeats 1000000 in
theorem known9_calls (w : World) : Calls Try.prog 17 #[] w fun e w' => e = .returned (.bool true) ∧ Below w.heap.size w w' := by
  have h13 : isL [1, 300] = true := by decide
  have h12 : isL [1, 2] = true := by decide
  have h0 : isL [] = false := by decide
  have h22 : isL [2, 2] = false := by decide
  have b13 := bytes1300
  have b12 := bytes12
  go_enter Try.func17, Try.ntmps17
  go_wp2_with fail
  have i1 := lit_ints w 3 [1, 300]
  have hB0 : Below w.heap.size w (w.alloc (.cells ([1, 300].map (Value.int .i64)).toArray 3)) := (Below.refl _ w).alloc (Nat.le_refl _) _
  have hbc := bytes_calls _ _ [1, 300] (by simp) _ i1
  rw [h13, if_pos rfl, if_pos rfl] at hbc
  simp only [List.map_cons, List.map_nil, List.length_cons, List.length_nil] at hbc hB0
  refine hbc.mono ?_
  clear hbc i1
  rintro x w1 ⟨rfl, hB1⟩
  replace hB1 := hB0.trans (hB1.mono hB0.size)
  clear hB0
  have hro := read_ok [1, 300] h13 w1
  have hrb : ∀ W, Calls Try.prog 30 #[.string (⟨(bytesL [1, 300]).toArray⟩ ++ ⟨#[120]⟩)] W fun e w' => e = .returned (.tuple #[.slice none 0 0, .int .i64 21]) ∧ Below W.heap.size W w' := by
    intro W
    have := read_bad (bytesL [1, 300] ++ [120]) (by rw [List.length_append, b13]; decide) (fun l hl e => by have := (bytesL_prefix hl h13 e.symm).2; simp at this) W
    rw [← ba_snoc] at this
    exact this
  have hsz : (⟨(bytesL [1, 300]).toArray⟩ : ByteArray).size = 8 := by rw [ba_size, b13]
  generalize bytesL [1, 300] = S at *
  go_wp2_with fail
  refine hro.mono ?_
  clear hro
  rintro x w2 ⟨v2, rfl, o2, hB2⟩
  replace hB1 := hB1.trans (hB2.mono hB1.size)
  have r2 := Rd.of_owns o2
  clear o2 hB2
  go_wp2_with fail
  refine (hrb w2).mono ?_
  clear hrb
  rintro x w3 ⟨rfl, hB3⟩
  replace hB1 := hB1.trans (hB3.mono hB1.size)
  replace r2 := (r2.below hB3 (Nat.le_refl _)).up hB3.size
  clear hB3
  have hbn := bytes_calls none 0 [] (by simp) w3 (Rd.nil _ _ _)
  rw [h0, if_neg (by simp), if_neg (by simp)] at hbn
  go_wp2_with fail
  refine hbn.mono ?_
  clear hbn
  rintro x w4 ⟨rfl, hB4⟩
  replace hB1 := hB1.trans (hB4.mono hB1.size)
  replace r2 := (r2.below hB4 (Nat.le_refl _)).up hB4.size
  clear hB4
  go_wp2_with fail
  refine (new_dk 1000 (Below.refl w4.heap.size w4) (Nat.le_refl _)).mono ?_
  rintro x w5 ⟨D, rfl, M, hd⟩
  have hw4 : w4.heap.size ≤ w5.heap.size := hd.size
  go_wp2_with fail
  refine (load_err (e := 19) (b := ⟨#[]⟩) rfl (by decide) hd).mono ?_
  clear hd
  rintro x w6 ⟨rfl, hd, hB6⟩
  clear hB6 hw4
  go_wp2_with fail
  have hBa : Below w6.heap.size w6 (w6.alloc (.cells ([1, 2].map (Value.int .i64)).toArray 3)) := (Below.refl _ w6).alloc (Nat.le_refl _) _
  have i2 := lit_ints w6 3 [1, 2]
  have hsv := save_dk (fit_new 1000) (by decide) _ _ [1, 2] h12 i2 (hd.next hBa)
  have hszb : (⟨(bytesL [1, 2]).toArray⟩ : ByteArray).size = 7 := by rw [ba_size, b12]
  rw [save_new (by rw [hszb]; decide) (by decide)] at hsv
  simp only [List.map_cons, List.map_nil, List.length_cons, List.length_nil] at hsv
  refine hsv.mono ?_
  clear hsv i2 hBa hd
  rintro x w7 ⟨rfl, hd, hC7⟩
  clear hC7
  have hlo := load_ok h12 (s := ⟨1000, [(nSheet, ⟨⟨(bytesL [1, 2]).toArray⟩, ((⟨(bytesL [1, 2]).toArray⟩ : ByteArray).size : Int)⟩)], 4, -1⟩) rfl hd
  clear hd
  go_wp2_with fail
  refine hlo.mono ?_
  clear hlo
  rintro x w8 ⟨v8, rfl, o8, hd, hB8⟩
  have r8 := Rd.of_owns o8
  have r2' := (r2.below hd.below (Nat.le_refl _)).up hd.size
  clear o8 hB8
  obtain ⟨a2, c2, rfl⟩ := Rd.val r2'
  obtain ⟨a8, c8, rfl⟩ := Rd.val r8
  have i3 := lit_ints w8 3 [1, 300]
  have hB9 : Below w8.heap.size w8 (w8.alloc (.cells ([1, 300].map (Value.int .i64)).toArray 3)) := (Below.refl _ w8).alloc (Nat.le_refl _) _
  have hs1 := same_calls a2 c2 [1, 300] _ _ [1, 300] (by simp) (by simp) _ ((r2'.below hB9 (Nat.le_refl _)).up hB9.size) i3
  rw [decide_self] at hs1
  simp only [List.map_cons, List.map_nil, List.length_cons, List.length_nil] at hs1 hB9
  go_wp2_with fail
  refine hs1.mono ?_
  clear hs1 i3
  rintro x w9 ⟨rfl, hBn⟩
  replace hB9 := hB9.trans (hBn.mono hB9.size)
  clear hBn
  have i4 := lit_ints w9 3 [1, 2]
  have hB10 : Below w9.heap.size w9 (w9.alloc (.cells ([1, 2].map (Value.int .i64)).toArray 3)) := (Below.refl _ w9).alloc (Nat.le_refl _) _
  have hs2 := same_calls a8 c8 [1, 2] _ _ [1, 2] (by simp) (by simp) _ (((r8.below hB9 (Nat.le_refl _)).up hB9.size).below hB10 (Nat.le_refl _) |>.up hB10.size) i4
  rw [decide_self] at hs2
  simp only [List.map_cons, List.map_nil, List.length_cons, List.length_nil] at hs2 hB10
  go_wp2_with fail
  refine hs2.mono ?_
  clear hs2 i4
  rintro x w10 ⟨rfl, hBn⟩
  replace hB10 := hB10.trans (hBn.mono hB10.size)
  clear hBn
  replace hB9 := hB9.trans (hB10.mono hB9.size)
  clear hB10
  have his1 := is_calls a2 c2 [1, 300] (by simp) w10 ((r2'.below hB9 (Nat.le_refl _)).up hB9.size)
  rw [h13] at his1
  simp only [List.length_cons, List.length_nil] at his1
  go_wp2_with fail
  refine his1.mono ?_
  clear his1
  rintro x w11 ⟨rfl, hBn⟩
  replace hB9 := hB9.trans (hBn.mono hB9.size)
  clear hBn
  have i5 := lit_ints w11 3 [2, 2]
  have hB12 : Below w11.heap.size w11 (w11.alloc (.cells ([2, 2].map (Value.int .i64)).toArray 3)) := (Below.refl _ w11).alloc (Nat.le_refl _) _
  have his2 := is_calls _ _ [2, 2] (by simp) _ i5
  rw [h22] at his2
  simp only [List.map_cons, List.map_nil, List.length_cons, List.length_nil] at his2 hB12
  go_wp2_with fail
  refine his2.mono ?_
  clear his2 i5
  rintro x w12 ⟨rfl, hBn⟩
  replace hB9 := hB9.trans ((hB12.trans (hBn.mono hB12.size)).mono hB9.size)
  clear hBn hB12
  have hsb := save_bad none 0 [] (by simp) h0 (Rd.nil _ _ _) (hd.next hB9)
  clear hd
  go_wp2_with fail
  refine hsb.mono ?_
  rintro x w13 ⟨rfl, hd, hBn⟩
  go_wp2
  go_ret
  exact ⟨rfl, hB1.trans (hd.below.mono hB1.size)⟩
end Go.Proofs.Ytoaegleieacokaa
