/- Files that rise by name; what All tells of a disk. Plain: no program. All files of a writer's disk, in the order of their names. Plain: no program. -/
import Derived.Test.YtoaegleieacokaaGreatFkM
import Derived.Test.YtoaegleieacokaaGreatWrGo
namespace Go.Proofs.YtoaegleieacokaaGreat
open Go.RowKit Go.Shelf

/-- Rising by name. -/
def Up (l : List (ByteArray × F)) : Prop := l.Pairwise fun p q => p.1.data.toList < q.1.data.toList
theorem Up.keys {l : List (ByteArray × F)} (h : Up l) : (l.map (·.1)).Nodup := by
  refine List.Pairwise.map (S := fun a b => a ≠ b) (·.1) (fun a b hab e => ?_) h
  rw [e] at hab
  exact List.lt_irrefl _ hab
theorem toList_inj {x y : ByteArray} (h : x.data.toList = y.data.toList) : x = y := by
  cases x; cases y
  simpa using h
/-- The names of rising files are as they stand. -/
theorem names_up {l : List (ByteArray × F)} (h : Up l) : names l = l.map (·.1) := by
  unfold names
  have hs : (keyBytes l).Pairwise (fun x y => decide (x ≤ y) = true) := by
    unfold keyBytes
    refine List.Pairwise.map _ (fun a b hab => ?_) h
    simpa using List.le_of_lt hab
  rw [List.mergeSort_of_pairwise hs]
  unfold keyBytes
  rw [List.map_map]
  exact List.map_congr_left fun p _ => by simp
/-- All files, where they are known by name. -/
theorem files_up {L l : List (ByteArray × F)} (h : Up L) (hk : (l.map (·.1)).Nodup) (hs : ∀ k, fk L k = fk l k) : files l = L := by
  have hp : L.Perm l := perm_of_fk h.keys hk hs
  have hn : names l = L.map (·.1) := by
    rw [← names_up h]
    unfold names keyBytes
    rw [sort_unique (hp.map fun p => p.1.data.toList)]
  unfold files
  rw [hn, List.map_map]
  conv => rhs; rw [← List.map_id L]
  refine List.map_congr_left fun p hp => ?_
  have := fk_of_mem (k := p.1) (v := p.2) h.keys hp
  rw [hs] at this
  simp [fileAt, this]
end Go.Proofs.YtoaegleieacokaaGreat
namespace Go.Proofs.YtoaegleieacokaaGreat
open Go.RowKit Go.Shelf

theorem u8_lt {a b : Nat} (ha : a < 256) (hb : b < 256) (h : a < b) : UInt8.ofNat a < UInt8.ofNat b := by
  rw [UInt8.lt_iff_toNat_lt, UInt8.toNat_ofNat', UInt8.toNat_ofNat']
  omega
theorem dgT_lt : ∀ (j m k : Nat), m % 10 ^ j < k % 10 ^ j → dgT m j < dgT k j
  | 0, m, k, h => by simp [Nat.mod_one] at h
  | j + 1, m, k, h => by
    have hm := Nat.mod_mul (x := m) (a := 10 ^ j) (b := 10)
    have hk := Nat.mod_mul (x := k) (a := 10 ^ j) (b := 10)
    rw [← Nat.pow_succ] at hm hk
    rw [hm, hk] at h
    rw [dgT_succ, dgT_succ, List.cons_lt_cons_iff]
    have h1 := Nat.mod_lt m (show 0 < 10 ^ j from Nat.pow_pos (by decide))
    have h2 := Nat.mod_lt k (show 0 < 10 ^ j from Nat.pow_pos (by decide))
    have d1 := dg_lt m j
    have d2 := dg_lt k j
    unfold dg at d1 d2 ⊢
    generalize m / 10 ^ j % 10 = a at *
    generalize k / 10 ^ j % 10 = b at *
    rcases Nat.lt_trichotomy a b with hab | hab | hab
    · exact .inl (u8_lt (by omega) (by omega) (by omega))
    · subst hab
      exact .inr ⟨rfl, dgT_lt j m k (by omega)⟩
    · exfalso
      have : 10 ^ j * (b + 1) ≤ 10 ^ j * a := Nat.mul_le_mul_left _ hab
      rw [Nat.mul_add] at this
      omega
theorem nameB_lt {m k : Nat} (hk : k < 100000000) (h : m < k) : (nameB m).data.toList < (nameB k).data.toList := by
  have := dgT_lt 8 m k (by omega)
  rw [dgT_8, dgT_8] at this
  simp [nameB]
  exact this
theorem nameB_lt_sheet (m : Nat) : (nameB m).data.toList < nSheet.data.toList := by
  simp only [nameB, nSheet, List.cons_append, List.cons_lt_cons_iff]
  exact .inr ⟨trivial, .inl (by decide)⟩
/-- The segments' files; kp: how much of the last one stays. -/
def segF (a : Nat) (cs : List ByteArray) (kp : Int) : List (ByteArray × F) :=
  (List.range cs.length).map fun i => (nameB (a + i), ⟨headB (a + i) ++ cs.getD i ⟨#[]⟩, if i + 1 < cs.length then 16 + ((cs.getD i ⟨#[]⟩).size : Int) else kp⟩)
theorem segF_len (a : Nat) (cs : List ByteArray) (kp : Int) : (segF a cs kp).length = cs.length := by simp [segF]
theorem segF_at (a : Nat) (cs : List ByteArray) (kp : Int) (i : Nat) (h : i < (segF a cs kp).length) (h2 : i < cs.length) : (segF a cs kp)[i] = (nameB (a + i), ⟨headB (a + i) ++ cs[i], if i + 1 < cs.length then 16 + (cs[i].size : Int) else kp⟩) := by
  simp [segF, h2]
def sheetF (a n : Nat) : ByteArray × F := (nSheet, ⟨sheetB (segL a n), (sheetB (segL a n)).size⟩)
theorem segF_up {a : Nat} {cs : List ByteArray} (kp : Int) (hb : a + cs.length ≤ 100000000) : Up (segF a cs kp ++ [sheetF a cs.length]) := by
  unfold Up
  rw [List.pairwise_append]
  refine ⟨?_, by simp, fun p hp q hq => ?_⟩
  · rw [List.pairwise_iff_getElem]
    intro i j hi hj hij
    rw [segF_len] at hi hj
    rw [segF_at _ _ _ _ _ hi, segF_at _ _ _ _ _ hj]
    exact nameB_lt (by omega) (by omega)
  · rw [List.mem_singleton.1 hq]
    obtain ⟨i, _, rfl⟩ := List.mem_map.1 hp
    exact nameB_lt_sheet _
theorem all_files {N : Int} {s : DS} {a : Nat} {cs : List ByteArray} {c : ByteArray} (hu : Uns N s) (hi : Img s a (cs ++ [c])) (ho : Only s a (cs.length + 1)) (hb : a + cs.length + 1 ≤ 100000000) :
    ∃ kp : Int, files s.l = segF a (cs ++ [c]) kp ++ [sheetF a (cs.length + 1)] := by
  obtain ⟨kp, hl⟩ := hi.last
  have hlen : (cs ++ [c]).length = cs.length + 1 := by simp
  have hup := segF_up (a := a) (cs := cs ++ [c]) kp (by omega)
  rw [hlen] at hup
  refine ⟨kp, files_up hup hu.fit.keys fun k => ?_⟩
  by_cases hk : ∃ i, i < cs.length + 1 ∧ nameB (a + i) = k
  · obtain ⟨i, hik, rfl⟩ := hk
    obtain ⟨kq, h1, h2⟩ := hi.seg i ((cs ++ [c])[i]'(by omega)) (List.getElem?_eq_getElem (by omega))
    rw [h1]
    refine fk_of_mem hup.keys (List.mem_append.2 (.inl ?_))
    have hm := List.getElem_mem (l := segF a (cs ++ [c]) kp) (n := i) (by rw [segF_len]; omega)
    rw [segF_at _ _ _ _ _ (by omega)] at hm
    have hkq : (if i + 1 < (cs ++ [c]).length then 16 + (((cs ++ [c])[i]'(by omega)).size : Int) else kp) = kq := by
      by_cases hlt : i + 1 < (cs ++ [c]).length
      · rw [if_pos hlt, h2 hlt]
      · rw [if_neg hlt]
        obtain rfl : i = cs.length := by omega
        rw [hl] at h1
        simp only [Option.some.injEq, F.mk.injEq] at h1
        exact h1.2
    rw [hkq] at hm
    exact hm
  · have hk' : ∀ i, i < cs.length + 1 → nameB (a + i) ≠ k := fun i h e => hk ⟨i, h, e⟩
    by_cases hs : nSheet = k
    · subst hs
      have := hi.sheet
      rw [hlen] at this
      rw [this]
      exact fk_of_mem hup.keys (by simp [sheetF])
    · rw [ho.only k hk' hs, fk_none]
      intro hm
      rw [List.map_append, List.mem_append] at hm
      rcases hm with hm | hm
      · obtain ⟨p, hp, rfl⟩ := List.mem_map.1 hm
        obtain ⟨i, hil, rfl⟩ := List.mem_map.1 hp
        exact hk' i (by rw [List.mem_range, hlen] at hil; exact hil) rfl
      · simp [sheetF] at hm
        exact hs hm.symm
end Go.Proofs.YtoaegleieacokaaGreat
