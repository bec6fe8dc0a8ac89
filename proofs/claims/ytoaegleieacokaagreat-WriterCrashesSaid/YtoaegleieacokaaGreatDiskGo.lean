/- The contracts of package disk once more, for a disk that is newer than the world W in which a statement began: each tells the state behind it, and that below n nothing turned. -/
import Derived.Test.YtoaegleieacokaaGreatCrashForm
import Derived.Test.YtoaegleieacokaaGreatDiskOf
namespace Go.Proofs.YtoaegleieacokaaGreat
open Go.RowKit Go.Shelf

/-- The disk lies at D, M, both newer than n; below n nothing turned since W. -/
structure Dk (n : Nat) (W : World) (D M : Nat) (s : DS) (w : World) : Prop where
  at' : DiskAt w D M s
  below : Below n W w
  hD : n ≤ D
  hM : n ≤ M
  ok : s.Ok
theorem Dk.now {n : Nat} {W : World} {D M : Nat} {s : DS} {w w' : World} (h : Dk n W D M s w) (hb : Below w.heap.size w w') (hn : n ≤ w.heap.size) : Dk n W D M s w' := ⟨h.at'.now hb, h.below.trans (hb.mono hn), h.hD, h.hM, h.ok⟩
theorem Dk.size {n : Nat} {W : World} {D M : Nat} {s : DS} {w : World} (h : Dk n W D M s w) : n ≤ w.heap.size := by have := h.at'.blk.lt; have := h.hD; omega
theorem Dk.next {n : Nat} {W : World} {D M : Nat} {s : DS} {w w' : World} (h : Dk n W D M s w) (hb : Below w.heap.size w w') : Dk n W D M s w' := h.now hb h.size
theorem Dk.chg {n : Nat} {W : World} {D M : Nat} {s s' : DS} {w w' : World} (h : Dk n W D M s w) (ha : DiskAt w' D M s') (hc : Chg [D, M] w w') (ok : s'.Ok) : Dk n W D M s' w' :=
  ⟨ha, h.below.trans (hc.below h.size (fun b hb => by simp at hb; have := h.hD; have := h.hM; rcases hb with rfl | rfl <;> assumption)), h.hD, h.hM, ok⟩

theorem ok_newDS (r : Int) : (newDS r).Ok := ⟨by simp [newDS], by simp [newDS], by simp [newDS], by simp [newDS]; omega, by simp [newDS]; omega, by simp [newDS, used]⟩
theorem new_dk (r : Int) {n : Nat} {W w : World} (hB : Below n W w) (hn : n ≤ w.heap.size) : Calls Tryz.prog 7 #[.int .i64 r] w fun e w' => ∃ D, e = .returned (.pointer (some ⟨D, 0, none⟩)) ∧ ∃ M, Dk n W D M (newDS r) w' :=
  (new_calls r w).mono fun _ _ ⟨D, he, M, h, hD, hM, hb⟩ => ⟨D, he, M, h, hB.trans (hb.mono hn), by omega, by omega, ok_newDS r⟩

section
variable {n : Nat} {W : World} {D M : Nat} {s s' : DS} {w : World} {r : Int}
theorem create_dk {nm : ByteArray} (hs : s.create nm = (r, s')) (ok : s'.Ok) (h : Dk n W D M s w) : Calls Tryz.prog 50 #[.pointer (some ⟨D, 0, none⟩), .string nm] w fun e w' => e = .returned (.int .i64 r) ∧ Dk n W D M s' w' ∧ Chg [D, M] w w' :=
  (create_calls D M s h.ok nm w h.at').mono fun _ _ ⟨he, ha, hc⟩ => by rw [hs] at he ha; exact ⟨he, h.chg ha hc ok, hc⟩
theorem append_dk {nm b : ByteArray} (hs : s.append nm b = (r, s')) (ok : s'.Ok) (h : Dk n W D M s w) : Calls Tryz.prog 34 #[.pointer (some ⟨D, 0, none⟩), .string nm, .string b] w fun e w' => e = .returned (.int .i64 r) ∧ Dk n W D M s' w' ∧ Chg [D, M] w w' :=
  (append_calls D M s h.ok nm b w h.at').mono fun _ _ ⟨he, ha, hc⟩ => by rw [hs] at he ha; exact ⟨he, h.chg ha hc ok, hc⟩
theorem sync_dk {nm : ByteArray} (hs : s.sync nm = (r, s')) (ok : s'.Ok) (h : Dk n W D M s w) : Calls Tryz.prog 37 #[.pointer (some ⟨D, 0, none⟩), .string nm] w fun e w' => e = .returned (.int .i64 r) ∧ Dk n W D M s' w' ∧ Chg [D, M] w w' :=
  (sync_calls D M s h.ok nm w h.at').mono fun _ _ ⟨he, ha, hc⟩ => by rw [hs] at he ha; exact ⟨he, h.chg ha hc ok, hc⟩
theorem remove_dk {nm : ByteArray} (hs : s.remove nm = (r, s')) (ok : s'.Ok) (h : Dk n W D M s w) : Calls Tryz.prog 39 #[.pointer (some ⟨D, 0, none⟩), .string nm] w fun e w' => e = .returned (.int .i64 r) ∧ Dk n W D M s' w' ∧ Chg [D, M] w w' :=
  (remove_calls D M s h.ok nm w h.at').mono fun _ _ ⟨he, ha, hc⟩ => by rw [hs] at he ha; exact ⟨he, h.chg ha hc ok, hc⟩
theorem rename_dk {nm to : ByteArray} (hs : s.rename nm to = (r, s')) (ok : s'.Ok) (h : Dk n W D M s w) : Calls Tryz.prog 61 #[.pointer (some ⟨D, 0, none⟩), .string nm, .string to] w fun e w' => e = .returned (.int .i64 r) ∧ Dk n W D M s' w' ∧ Chg [D, M] w w' :=
  (rename_calls D M s h.ok nm to w h.at').mono fun _ _ ⟨he, ha, hc⟩ => by rw [hs] at he ha; exact ⟨he, h.chg ha hc ok, hc⟩
theorem read_dk {nm b : ByteArray} (hs : readOf s nm = (b, r)) (h : Dk n W D M s w) : Calls Tryz.prog 22 #[.pointer (some ⟨D, 0, none⟩), .string nm] w fun e w' => e = .returned (.tuple #[.string b, .int .i64 r]) ∧ Dk n W D M s w' ∧ Chg [D, M] w w' :=
  (dread_calls D M s nm w h.at').mono fun _ _ ⟨he, hb⟩ => by rw [hs] at he; exact ⟨he, h.next hb, Chg.of_below hb⟩
theorem used_dk {u : Int} (hs : (used s.l : Int) = u) (h : Dk n W D M s w) : Calls Tryz.prog 64 #[.pointer (some ⟨D, 0, none⟩)] w fun e w' => e = .returned (.int .i64 u) ∧ Dk n W D M s w' ∧ Chg [D, M] w w' :=
  (used_calls D M s h.ok.used w h.at').mono fun _ _ ⟨he, hb⟩ => by rw [hs] at he; exact ⟨he, h.next hb, Chg.of_below hb⟩
theorem limit_dk {m : Int} (hs : { s with left := max m 0 } = s') (ok : s'.Ok) (h : Dk n W D M s w) : Calls Tryz.prog 20 #[.pointer (some ⟨D, 0, none⟩), .int .i64 m] w fun e w' => (∃ v, e = .returned v) ∧ Dk n W D M s' w' ∧ Chg [D, M] w w' :=
  (limit_calls D M s m w h.at').mono fun _ _ ⟨he, ha, hc⟩ => by subst hs; exact ⟨he, h.chg ha (hc.more (by simp)) ok, hc.more (by simp)⟩
/-- Crash: file by file. -/
def DS.crash (s : DS) (keep : Int) : DS := { s with l := crashed keep (names s.l) s.l, left := -1 }
theorem crash_dk {keep : Int} (hk0 : 0 ≤ keep) (hk1 : keep < 18446744073709551616) (hlen : s.l.length ≤ 1000000) (hok : ∀ p ∈ s.l, FOk p.2) (hs : s.crash keep = s') (ok : s'.Ok) (h : Dk n W D M s w) :
    Calls Tryz.prog 21 #[.pointer (some ⟨D, 0, none⟩), .int .u64 keep] w fun e w' => (∃ v, e = .returned v) ∧ Dk n W D M s' w' ∧ Chg [D, M] w w' :=
  (crash_calls D M s hlen hok keep hk0 hk1 w h.at').mono fun _ _ ⟨he, ha, hc⟩ => by
    rw [crash_names keep s.l h.at'.ok] at ha
    subst hs
    exact ⟨he, h.chg ha hc ok, hc⟩
end
theorem names_one {β : Type} (nm : ByteArray) (f : β) : names [(nm, f)] = [nm] := by simp [names, keyBytes]
theorem wf_i8 {a : Int} (h : (Lit.int .i8 a).wf = true) : -128 ≤ a ∧ a ≤ 127 := by
  simp [Lit.wf, IntKind.min, IntKind.max, IntKind.bits, IntKind.signed] at h
  omega
theorem wf_u8 {a : Int} (h : (Lit.int .u8 a).wf = true) : 0 ≤ a ∧ a ≤ 255 := by
  simp [Lit.wf, IntKind.min, IntKind.max, IntKind.bits, IntKind.signed] at h
  omega
theorem wf_u16 {a : Int} (h : (Lit.int .u16 a).wf = true) : 0 ≤ a ∧ a < 65536 := by
  simp [Lit.wf, IntKind.min, IntKind.max, IntKind.bits, IntKind.signed] at h
  omega
theorem wf_u32 {a : Int} (h : (Lit.int .u32 a).wf = true) : 0 ≤ a ∧ a < 4294967296 := by
  simp [Lit.wf, IntKind.min, IntKind.max, IntKind.bits, IntKind.signed] at h
  omega
theorem wf_u64 {a : Int} (h : (Lit.int .u64 a).wf = true) : 0 ≤ a ∧ a < 18446744073709551616 := by
  simp [Lit.wf, IntKind.min, IntKind.max, IntKind.bits, IntKind.signed] at h
  omega
/-- A file of which all stays. -/
theorem crashF_whole (keep : Int) (_ : 0 ≤ keep) (_ : keep < 18446744073709551616) (i : Nat) (b : ByteArray) : crashF keep i ⟨b, b.size⟩ = ⟨b, b.size⟩ := by
  have : crashSize keep i ⟨b, b.size⟩ = b.size := by
    unfold crashSize
    simp
  unfold crashF
  rw [this]
  simp
theorem crash_whole (s : DS) (keep : Int) (hk0 : 0 ≤ keep) (hk1 : keep < 18446744073709551616) (h : ∀ p ∈ s.l, p.2.k = p.2.b.size) : s.crash keep = { s with left := -1 } := by
  have e : crashed keep (names s.l) s.l = s.l := by
    unfold crashed
    have : ∀ p ∈ s.l, (p.1, crashF keep (place (names s.l) p.1) p.2) = p := by
      rintro ⟨nm, b, k⟩ hp
      have hk : k = b.size := h _ hp
      subst hk
      rw [crashF_whole keep hk0 hk1]
    rw [List.map_congr_left this, List.map_id']
  unfold DS.crash
  rw [e]
/-- The files, rising by name. -/
def files (l : List (ByteArray × F)) : List (ByteArray × F) := (names l).map fun nm => (nm, fileAt l nm)
theorem files_length (l : List (ByteArray × F)) : (files l).length = l.length := by rw [files, List.length_map, names_length]
theorem allCells_files (l : List (ByteArray × F)) : allCells (names l) l (List.finRange (names l).length) = filesCells (files l) := by
  have e : (List.finRange (names l).length).map (fun x => (names l)[x.val]) = names l := by
    apply List.ext_getElem
    · simp
    · intro i h1 h2
      simp
  have : files l = (List.finRange (names l).length).map fun x => ((names l)[x.val], fileAt l (names l)[x.val]) := by
    unfold files
    conv => lhs; rw [← e]
    rw [List.map_map]
    rfl
  rw [this]
  unfold allCells filesCells
  rw [List.flatMap_map]
theorem files_one (nm : ByteArray) (f : F) : files [(nm, f)] = [(nm, f)] := by
  unfold files
  rw [names_one]
  simp [fileAt, fk]
theorem all_dk {n : Nat} {W : World} {D M : Nat} {s : DS} {w : World} {L : List (ByteArray × F)} (hs : files s.l = L) (hlen : s.l.length ≤ 1000000) (h : Dk n W D M s w) :
    Calls Tryz.prog 41 #[.pointer (some ⟨D, 0, none⟩)] w fun e w' => ∃ v, e = .returned v ∧ w'.ownsRow w.heap.size 83 3 v L.length (filesCells L) ∧ Dk n W D M s w' ∧ Below w.heap.size w w' :=
  (all_calls D M s hlen w h.at').mono fun _ _ ⟨v, he, hr, hb⟩ => ⟨v, he, by
    subst hs
    rw [allCells_files] at hr
    rw [files_length, ← names_length]
    exact hr, h.next hb, hb⟩
end Go.Proofs.YtoaegleieacokaaGreat
