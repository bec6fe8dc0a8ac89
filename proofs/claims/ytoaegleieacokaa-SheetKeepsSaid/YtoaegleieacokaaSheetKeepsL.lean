/- SheetKeeps: what is saved under a limit; what the crash leaves. -/
import Derived.Test.YtoaegleieacokaaFitCrash
import Derived.Test.YtoaegleieacokaaSheetFullW
namespace Go.Proofs.Ytoaegleieacokaa
open Go.RowKit Go.Shelf

theorem on_off {s : DS} (h : s.left = 0) (nm : ByteArray) (t : Bool) : onOf s nm t = 18 := by unfold onOf; rw [if_pos h]
theorem create_off {s : DS} (h : s.left = 0) (nm : ByteArray) : s.create nm = (18, s) := by unfold DS.create; rw [on_off h, if_pos (by decide)]
theorem append_off {s : DS} (h : s.left = 0) (nm b : ByteArray) : s.append nm b = (18, s) := by unfold DS.append; rw [on_off h, if_pos (by decide)]
theorem sync_off {s : DS} (h : s.left = 0) (nm : ByteArray) : s.sync nm = (18, s) := by unfold DS.sync; rw [on_off h, if_pos (by decide)]
theorem rename_off {s : DS} (h : s.left = 0) (nm to : ByteArray) : s.rename nm to = (18, s) := by unfold DS.rename; rw [on_off h, if_pos (by decide)]
theorem clear_off {s : DS} (h : s.left = 0) : s.clear = (18, s) := by
  have e : s.remove nFresh = (18, s) := by unfold DS.remove; rw [on_off h, if_pos (by decide)]
  unfold DS.clear
  rw [e]
  rfl
theorem step_left {n st j : Int} {l : List (ByteArray × F)} (hj : 0 < j) (nm : ByteArray) (f : F) : (⟨n, l, st, j⟩ : DS).step nm f = ⟨n, fup l nm f, st + 1, j - 1⟩ := by
  unfold DS.step DS.counted
  simp only
  rw [if_pos hj]
section
variable {n st j : Int} {f g : F} (hj : 0 < j)
include hj
theorem lk_clear : (⟨n, [(nSheet, f)], st, j⟩ : DS).clear = (0, ⟨n, [(nSheet, f)], st, j⟩) := by
  have o : onOf (⟨n, [(nSheet, f)], st, j⟩ : DS) nFresh true = 19 := by unfold onOf; rw [if_neg (by simp only; omega)]; rfl
  have e : (⟨n, [(nSheet, f)], st, j⟩ : DS).remove nFresh = (19, ⟨n, [(nSheet, f)], st, j⟩) := by unfold DS.remove; rw [o, if_pos (by decide)]
  unfold DS.clear
  rw [e]
  rfl
theorem lk_create : (⟨n, [(nSheet, f)], st, j⟩ : DS).create nFresh = (0, ⟨n, [(nSheet, f), (nFresh, ⟨⟨#[]⟩, 0⟩)], st + 1, j - 1⟩) := by
  have o : onOf (⟨n, [(nSheet, f)], st, j⟩ : DS) nFresh false = 0 := by unfold onOf; rw [if_neg (by simp only; omega)]; rfl
  unfold DS.create
  rw [if_neg (by rw [o]; decide), if_neg (by simp), step_left hj]
  rfl
theorem lk_append {b : ByteArray} (hr : (f.b.size + b.size : Int) ≤ n) : (⟨n, [(nSheet, f), (nFresh, ⟨⟨#[]⟩, 0⟩)], st, j⟩ : DS).append nFresh b = (0, ⟨n, [(nSheet, f), (nFresh, ⟨b, 0⟩)], st + 1, j - 1⟩) := by
  have o : onOf (⟨n, [(nSheet, f), (nFresh, ⟨⟨#[]⟩, 0⟩)], st, j⟩ : DS) nFresh true = 0 := by unfold onOf; rw [if_neg (by simp only; omega)]; rfl
  have u : used [(nSheet, f), (nFresh, ⟨⟨#[]⟩, 0⟩)] = f.b.size := by rfl
  unfold DS.append
  rw [if_neg (by rw [o]; decide), if_neg (by simp only; rw [u]; omega), step_left hj]
  have e : (⟨#[]⟩ : ByteArray) ++ b = b := ByteArray.empty_append
  have : fup [(nSheet, f), (nFresh, ⟨⟨#[]⟩, 0⟩)] nFresh ⟨(⟨#[]⟩ : ByteArray) ++ b, 0⟩ = [(nSheet, f), (nFresh, ⟨b, 0⟩)] := by rw [e]; rfl
  exact congrArg (fun l => ((0 : Int), (⟨n, l, st + 1, j - 1⟩ : DS))) this
theorem lk_sync {b : ByteArray} {k : Int} : (⟨n, [(nSheet, f), (nFresh, ⟨b, k⟩)], st, j⟩ : DS).sync nFresh = (0, ⟨n, [(nSheet, f), (nFresh, ⟨b, b.size⟩)], st + 1, j - 1⟩) := by
  have o : onOf (⟨n, [(nSheet, f), (nFresh, ⟨b, k⟩)], st, j⟩ : DS) nFresh true = 0 := by unfold onOf; rw [if_neg (by simp only; omega)]; rfl
  unfold DS.sync
  rw [if_neg (by rw [o]; decide), step_left hj]
  rfl
theorem lk_rename {b : ByteArray} {k : Int} : (⟨n, [(nSheet, f), (nFresh, ⟨b, k⟩)], st, j⟩ : DS).rename nFresh nSheet = (0, ⟨n, [(nSheet, ⟨b, b.size⟩)], st + 1, j - 1⟩) := by
  have o : onOf (⟨n, [(nSheet, f), (nFresh, ⟨b, k⟩)], st, j⟩ : DS) nFresh true = 0 := by unfold onOf; rw [if_neg (by simp only; omega)]; rfl
  unfold DS.rename
  rw [if_neg (by rw [o]; decide), step_left hj]
  rfl
end
/-- Under a limit the sheet is saved, or it stands as it was. -/
theorem save_cut {n st j : Int} (hj : 0 ≤ j) (A b : ByteArray) (hr : (A.size + b.size : Int) ≤ n) : ∃ e s, (⟨n, [(nSheet, ⟨A, A.size⟩)], st, j⟩ : DS).save b = (e, s) ∧
    ((e = 18 ∧ ∃ rest, s.l = (nSheet, ⟨A, A.size⟩) :: rest) ∨ (e = 0 ∧ s.l = [(nSheet, ⟨b, b.size⟩)])) := by
  have hs : ∀ (s : DS) (f : DS → Int × DS), andThen (18, s) f = (18, s) := fun s f => then_stop (by show (18 : Int) ≠ 0; decide)
  have hg : ∀ (s : DS) (f : DS → Int × DS), andThen (0, s) f = f s := fun s f => then_go rfl
  unfold DS.save
  by_cases h0 : j = 0
  · rw [clear_off h0, hs, hs, hs, hs]
    exact ⟨_, _, rfl, .inl ⟨rfl, _, rfl⟩⟩
  rw [lk_clear (by omega), hg, lk_create (by omega), hg]
  by_cases h1 : j - 1 = 0
  · rw [append_off h1, hs, hs]
    exact ⟨_, _, rfl, .inl ⟨rfl, _, rfl⟩⟩
  rw [lk_append (by omega) hr, hg]
  by_cases h2 : j - 1 - 1 = 0
  · rw [sync_off h2, hs]
    exact ⟨_, _, rfl, .inl ⟨rfl, _, rfl⟩⟩
  rw [lk_sync (by omega), hg]
  by_cases h3 : j - 1 - 1 - 1 = 0
  · rw [rename_off h3]
    exact ⟨_, _, rfl, .inl ⟨rfl, _, rfl⟩⟩
  rw [lk_rename (by omega)]
  exact ⟨_, _, rfl, .inr ⟨rfl, rfl⟩⟩
theorem crash_read {s : DS} {A : ByteArray} {rest : List (ByteArray × F)} (h : s.l = (nSheet, ⟨A, A.size⟩) :: rest) (keep : Int) (hk0 : 0 ≤ keep) (hk1 : keep < 18446744073709551616) : readOf (s.crash keep) nSheet = (A, 0) := by
  have e : (s.crash keep).l = (nSheet, ⟨A, A.size⟩) :: crashed keep (names s.l) rest := by
    unfold DS.crash crashed
    rw [h]
    simp only [List.map_cons]
    rw [crashF_whole keep hk0 hk1]
  have l : (s.crash keep).left = -1 := rfl
  generalize s.crash keep = t at *
  have hf : fk t.l nSheet = some ⟨A, A.size⟩ := by rw [e]; simp [fk]
  have o : onOf t nSheet true = 0 := by
    unfold onOf
    rw [l, hf]
    rfl
  unfold readOf
  rw [o, hf]
  rfl
theorem kp9_1 : (⟨100000, [], 0, -1⟩ : DS).create nFresh = (0, ⟨100000, [(nFresh, ⟨⟨#[]⟩, 0⟩)], 1, -1⟩) := by rfl
theorem kp9_2 {x : ByteArray} (h : x.size ≤ 100) : (⟨100000, [(nFresh, ⟨⟨#[]⟩, 0⟩)], 1, -1⟩ : DS).append nFresh x = (0, ⟨100000, [(nFresh, ⟨x, 0⟩)], 2, -1⟩) := by
  unfold DS.append
  rw [if_neg (by rw [show onOf (⟨100000, [(nFresh, ⟨⟨#[]⟩, 0⟩)], 1, -1⟩ : DS) nFresh true = 0 from rfl]; decide), if_neg (by rw [show used [(nFresh, (⟨⟨#[]⟩, 0⟩ : F))] = 0 from rfl]; simp only; omega)]
  have e : (⟨#[]⟩ : ByteArray) ++ x = x := ByteArray.empty_append
  have : (⟨100000, [(nFresh, ⟨⟨#[]⟩, 0⟩)], 1, -1⟩ : DS).step nFresh ⟨(⟨#[]⟩ : ByteArray) ++ x, 0⟩ = ⟨100000, [(nFresh, ⟨x, 0⟩)], 2, -1⟩ := by rw [e]; rfl
  exact congrArg (Prod.mk (0 : Int)) this
theorem kp9_3 {x A : ByteArray} (h : A.size ≤ 5000) : (⟨100000, [(nFresh, ⟨x, 0⟩)], 2, -1⟩ : DS).save A = (0, ⟨100000, [(nSheet, ⟨A, A.size⟩)], 7, -1⟩) := by
  have hg : ∀ (s : DS) (f : DS → Int × DS), andThen (0, s) f = f s := fun s f => then_go rfl
  have e1 : (⟨100000, [(nFresh, ⟨x, 0⟩)], 2, -1⟩ : DS).clear = (0, ⟨100000, [], 3, -1⟩) := by rfl
  have e2 : (⟨100000, [], 3, -1⟩ : DS).create nFresh = (0, ⟨100000, [(nFresh, ⟨⟨#[]⟩, 0⟩)], 4, -1⟩) := by rfl
  have e3 : (⟨100000, [(nFresh, ⟨⟨#[]⟩, 0⟩)], 4, -1⟩ : DS).append nFresh A = (0, ⟨100000, [(nFresh, ⟨A, 0⟩)], 5, -1⟩) := by
    unfold DS.append
    rw [if_neg (by rw [show onOf (⟨100000, [(nFresh, ⟨⟨#[]⟩, 0⟩)], 4, -1⟩ : DS) nFresh true = 0 from rfl]; decide), if_neg (by rw [show used [(nFresh, (⟨⟨#[]⟩, 0⟩ : F))] = 0 from rfl]; simp only; omega)]
    have e : (⟨#[]⟩ : ByteArray) ++ A = A := ByteArray.empty_append
    have : (⟨100000, [(nFresh, ⟨⟨#[]⟩, 0⟩)], 4, -1⟩ : DS).step nFresh ⟨(⟨#[]⟩ : ByteArray) ++ A, 0⟩ = ⟨100000, [(nFresh, ⟨A, 0⟩)], 5, -1⟩ := by rw [e]; rfl
    exact congrArg (Prod.mk (0 : Int)) this
  have e4 : (⟨100000, [(nFresh, ⟨A, 0⟩)], 5, -1⟩ : DS).sync nFresh = (0, ⟨100000, [(nFresh, ⟨A, A.size⟩)], 6, -1⟩) := by rfl
  have e5 : (⟨100000, [(nFresh, ⟨A, A.size⟩)], 6, -1⟩ : DS).rename nFresh nSheet = (0, ⟨100000, [(nSheet, ⟨A, A.size⟩)], 7, -1⟩) := by rfl
  unfold DS.save
  rw [e1, hg, e2, hg, e3, hg, e4, hg, e5]
end Go.Proofs.Ytoaegleieacokaa
