/- ladelaw9.known answers true; ladelaw9.reads. -/
import Derived.Test.YtoaegleieacokaaGreatSheetSave
import Derived.Test.YtoaegleieacokaaGreatRefRead
namespace Go.Proofs.YtoaegleieacokaaGreat
open Go.RowKit Go.Shelf

/-- Bytes of numbers and what stands behind them are told apart. -/
theorem flat_inj : ∀ (l m : List Int) (t : List UInt8), l.length = m.length → (∀ x ∈ l, 1 ≤ x ∧ x ≤ 99999999) → (∀ x ∈ m, 1 ≤ x ∧ x ≤ 99999999) →
    (l.flatMap fun x => putL x.toNat) = (m.flatMap fun x => putL x.toNat) ++ t → l = m ∧ t = []
  | [], [], t, _, _, _, h => ⟨rfl, by simpa using h.symm⟩
  | [], _ :: _, _, h, _, _, _ => by simp at h
  | _ :: _, [], _, h, _, _, _ => by simp at h
  | x :: l, y :: m, t, hlen, hl, hm, h => by
    have hx := hl x (by simp)
    have hy := hm y (by simp)
    simp only [List.flatMap_cons, List.append_assoc] at h
    have g1 := get_put x.toNat (l.flatMap fun x => putL x.toNat) (by omega)
    have g2 := get_put y.toNat ((m.flatMap fun x => putL x.toNat) ++ t) (by omega)
    rw [h, g2] at g1
    have hxy : x = y := by
      have := congrArg (fun p : Int × Int × Int => p.1) g1
      simp only at this
      omega
    subst hxy
    have h2 := List.append_cancel_left h
    obtain ⟨e1, e2⟩ := flat_inj l m t (by simpa using hlen) (fun z hz => hl z (by simp [hz])) (fun z hz => hm z (by simp [hz])) h2
    exact ⟨by rw [e1], e2⟩
theorem bytesL_prefix {l m : List Int} (hl : isL l = true) (hm : isL m = true) {t : List UInt8} (h : bytesL l = bytesL m ++ t) : l = m ∧ t = [] := by
  have h1 : (bytesL l).drop 4 = (bytesL m ++ t).drop 4 := by rw [h]
  rw [bytesL_drop, List.drop_append_of_le_length (by rw [bytesL, List.length_append, fixedL_len]; omega), bytesL_drop] at h1
  have sl := isL_sheet hl
  have sm := isL_sheet hm
  have hl2 := sl.le
  have hm2 := sm.le
  unfold bodyL bodyOf at h1
  rw [List.append_assoc] at h1
  have g1 := get_put l.length (l.flatMap fun x => putL x.toNat) (by omega)
  have g2 := get_put m.length ((m.flatMap fun x => putL x.toNat) ++ t) (by omega)
  rw [h1, g2] at g1
  have hlen : l.length = m.length := by
    have := congrArg (fun p : Int × Int × Int => p.1) g1
    simp only at this
    omega
  rw [hlen] at h1
  exact flat_inj l m t hlen sl.all sm.all (List.append_cancel_left h1)
theorem bytesL_inj {l m : List Int} (hl : isL l = true) (hm : isL m = true) (h : bytesL l = bytesL m) : l = m := (bytesL_prefix hl hm (t := []) (by simpa using h)).1

theorem decide_self (l : List Int) : decide (l = l) = true := by simp
theorem lit_ints (w : World) (t : TypeId) (l : List Int) : Ints (w.alloc (.cells (l.map (Value.int .i64)).toArray t)) (w.alloc (.cells (l.map (Value.int .i64)).toArray t)).heap.size (.slice (some ⟨w.heap.size, 0, none⟩) l.length l.length) l :=
  ⟨by simp, _, _, rfl, Nat.le_refl _, fun _ => ⟨w.heap.size, 0, rfl, by simp, fun j _ => by rw [Nat.zero_add, (Blk.new w t _).cell j]; simp⟩⟩
/-- A sheet is saved on a disk that is empty. -/
theorem save_new {r : Int} {b : ByteArray} (hr : (b.size : Int) ≤ r) (hr2 : r ≤ 1000000) : (newDS r).save b = (0, ⟨r, [(nSheet, ⟨b, b.size⟩)], 4, -1⟩) := by
  have hm : min (max r 0) 1000000 = r := by omega
  have e0 : newDS r = ⟨r, [], 0, -1⟩ := by unfold newDS; rw [hm]
  have e1 : (newDS r).clear = (0, ⟨r, [], 0, -1⟩) := by rw [e0]; rfl
  have e2 : (⟨r, [], 0, -1⟩ : DS).create nFresh = (0, ⟨r, [(nFresh, ⟨⟨#[]⟩, 0⟩)], 1, -1⟩) := by rfl
  have e3 : (⟨r, [(nFresh, ⟨⟨#[]⟩, 0⟩)], 1, -1⟩ : DS).append nFresh b = (0, ⟨r, [(nFresh, ⟨b, 0⟩)], 2, -1⟩) := by
    unfold DS.append
    rw [if_neg (by rw [show onOf (⟨r, [(nFresh, ⟨⟨#[]⟩, 0⟩)], 1, -1⟩ : DS) nFresh true = 0 from rfl]; decide), if_neg (by rw [show used [(nFresh, (⟨⟨#[]⟩, 0⟩ : F))] = 0 from rfl]; simp only; omega)]
    have e : (⟨#[]⟩ : ByteArray) ++ b = b := ByteArray.empty_append
    have : (⟨r, [(nFresh, ⟨⟨#[]⟩, 0⟩)], 1, -1⟩ : DS).step nFresh ⟨(⟨#[]⟩ : ByteArray) ++ b, 0⟩ = ⟨r, [(nFresh, ⟨b, 0⟩)], 2, -1⟩ := by rw [e]; rfl
    exact congrArg (Prod.mk (0 : Int)) this
  have e4 : (⟨r, [(nFresh, ⟨b, 0⟩)], 2, -1⟩ : DS).sync nFresh = (0, ⟨r, [(nFresh, ⟨b, b.size⟩)], 3, -1⟩) := by rfl
  have e5 : (⟨r, [(nFresh, ⟨b, b.size⟩)], 3, -1⟩ : DS).rename nFresh nSheet = (0, ⟨r, [(nSheet, ⟨b, b.size⟩)], 4, -1⟩) := by rfl
  have a2 : andThen (newDS r).clear (fun s => s.create nFresh) = (0, ⟨r, [(nFresh, ⟨⟨#[]⟩, 0⟩)], 1, -1⟩) := by rw [e1]; exact (then_go rfl).trans e2
  have a3 : andThen (andThen (newDS r).clear (fun s => s.create nFresh)) (fun s => s.append nFresh b) = (0, ⟨r, [(nFresh, ⟨b, 0⟩)], 2, -1⟩) := by rw [a2]; exact (then_go rfl).trans e3
  have a4 : andThen (andThen (andThen (newDS r).clear (fun s => s.create nFresh)) (fun s => s.append nFresh b)) (fun s => s.sync nFresh) = (0, ⟨r, [(nFresh, ⟨b, b.size⟩)], 3, -1⟩) := by rw [a3]; exact (then_go rfl).trans e4
  unfold DS.save
  rw [a4]
  exact (then_go rfl).trans e5
theorem bytes12 : (bytesL [1, 2]).length = 7 := by
  rw [bytesL, List.length_append, fixedL_len, bodyL, bodyOf]
  simp only [List.length_cons, List.length_nil, List.flatMap_cons, List.flatMap_nil, List.append_nil, List.length_append]
  rw [show (1 : Int).toNat = 1 from rfl, show (2 : Int).toNat = 2 from rfl, putL_small (by omega), putL_small (by omega)]
  rfl
theorem bytes1300 : (bytesL [1, 300]).length = 8 := by
  rw [bytesL, List.length_append, fixedL_len, bodyL, bodyOf]
  simp only [List.length_cons, List.length_nil, List.flatMap_cons, List.flatMap_nil, List.append_nil, List.length_append]
  rw [show (1 : Int).toNat = 1 from rfl, show (300 : Int).toNat = 300 from rfl, putL_small (by omega), putL_small (by omega), putL_big (by omega), putL_small (by omega)]
  rfl

end Go.Proofs.YtoaegleieacokaaGreat
