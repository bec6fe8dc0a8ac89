/- The disk's state and the reference's: the same files, the reference's rising by name; every operation keeps that and gives one error. Plain: no program. -/
import Derived.Test.YtoaegleieacokaaRefCrash
namespace Go.Proofs.Ytoaegleieacokaa
open Go.RowKit Go.Shelf

/-- Rising by name. -/
def Up (l : List (ByteArray × F)) : Prop := l.Pairwise fun p q => p.1.data.toList < q.1.data.toList
/-- The reference's state r and the disk's s. -/
structure Br (r s : DS) : Prop where
  room : r.room = s.room
  steps : r.steps = s.steps
  left : r.left = s.left
  up : Up r.l
  keys : (s.l.map (·.1)).Nodup
  same : ∀ k, fk r.l k = fk s.l k

section
variable {κ β : Type} [DecidableEq κ]
theorem fk_nil (k : κ) : fk ([] : List (κ × β)) k = none := rfl
theorem fk_cons (p : κ × β) (l : List (κ × β)) (k : κ) : fk (p :: l) k = if p.1 = k then some p.2 else fk l k := by
  unfold fk
  by_cases h : p.1 = k <;> simp [h]
theorem fk_append (l m : List (κ × β)) (k : κ) : fk (l ++ m) k = (fk l k).or (fk m k) := by
  induction l with
  | nil => rfl
  | cons p l ih =>
    rw [List.cons_append, fk_cons, fk_cons, ih]
    by_cases h : p.1 = k <;> simp [h]
theorem fk_fup (l : List (κ × β)) (k k' : κ) (v : β) : fk (fup l k v) k' = if k = k' then some v else fk l k' := by
  unfold fup
  by_cases hk : k ∈ l.map (·.1)
  · rw [if_pos hk]
    induction l with
    | nil => simp at hk
    | cons p l ih =>
      rw [List.map_cons, fk_cons, fk_cons]
      by_cases hp : p.1 = k
      · subst hp
        by_cases he : p.1 = k'
        · simp [he]
        · simp only [if_true, if_neg he]
          by_cases hk2 : p.1 ∈ l.map (·.1)
          · rw [ih hk2, if_neg he]
          · have : l.map (fun q => if q.1 = p.1 then (p.1, v) else q) = l := by
              conv => rhs; rw [← List.map_id l]
              refine List.map_congr_left fun q hq => ?_
              rw [if_neg (fun e => hk2 (List.mem_map.2 ⟨q, hq, e⟩))]
              rfl
            rw [this]
      · have hk2 : k ∈ l.map (·.1) := by
          rcases List.mem_cons.1 (by simpa using hk : k ∈ p.1 :: l.map (·.1)) with h | h
          · exact absurd h.symm hp
          · exact h
        rw [if_neg hp, ih hk2]
        by_cases he : k = k'
        · subst he
          simp [hp]
        · simp [he]
  · rw [if_neg hk, fk_append]
    have hn := fk_none.2 hk
    rw [fk_cons, fk_nil]
    by_cases he : k = k'
    · subst he
      simp [hn]
    · simp [he]
theorem fk_fdl (l : List (κ × β)) (k k' : κ) : fk (fdl l k) k' = if k = k' then none else fk l k' := by
  unfold fdl
  induction l with
  | nil => simp [fk_nil]
  | cons p l ih =>
    by_cases hp : p.1 = k
    · rw [List.filter_cons_of_neg (by simp [hp]), ih, fk_cons]
      by_cases he : k = k'
      · simp [he]
      · rw [if_neg he, if_neg he, if_neg (by rw [hp]; exact he)]
    · rw [List.filter_cons_of_pos (by simp [hp]), fk_cons, fk_cons, ih]
      by_cases he : k = k'
      · subst he
        simp [hp]
      · simp [he]
theorem fk_map (l : List (κ × β)) (g : κ → β → β) (k : κ) : fk (l.map fun p => (p.1, g p.1 p.2)) k = (fk l k).map (g k) := by
  induction l with
  | nil => rfl
  | cons p l ih =>
    rw [List.map_cons, fk_cons, fk_cons, ih]
    by_cases h : p.1 = k
    · subst h; simp
    · simp [h]
/-- Two lists that tell the same, each key once, have the same entries. -/
theorem perm_of_fk {l m : List (κ × β)} (hl : (l.map (·.1)).Nodup) (hm : (m.map (·.1)).Nodup) (h : ∀ k, fk l k = fk m k) : l.Perm m := by
  have nd : ∀ {x : List (κ × β)}, (x.map (·.1)).Nodup → x.Nodup := fun hx => by
    refine List.Pairwise.of_map (S := fun a b => a ≠ b) (·.1) (fun a b hab e => hab (by rw [e])) hx
  refine (List.perm_ext_iff_of_nodup (nd hl) (nd hm)).2 fun p => ?_
  have go : ∀ {x y : List (κ × β)}, (x.map (·.1)).Nodup → (∀ k, fk x k = fk y k) → p ∈ x → p ∈ y := fun hx hxy hp => by
    have := fk_of_mem (k := p.1) (v := p.2) hx hp
    rw [hxy] at this
    exact fk_mem this
  exact ⟨go hl h, go hm fun k => (h k).symm⟩
end
theorem Up.keys {l : List (ByteArray × F)} (h : Up l) : (l.map (·.1)).Nodup := by
  refine List.Pairwise.map (S := fun a b => a ≠ b) (·.1) (fun a b hab e => ?_) h
  rw [e] at hab
  exact List.lt_irrefl _ hab
theorem Br.perm {r s : DS} (h : Br r s) : r.l.Perm s.l := perm_of_fk h.up.keys h.keys h.same
theorem Br.used {r s : DS} (h : Br r s) : used r.l = used s.l := used_perm h.perm
theorem Br.len {r s : DS} (h : Br r s) : r.l.length = s.l.length := h.perm.length_eq

theorem toList_inj {x y : ByteArray} (h : x.data.toList = y.data.toList) : x = y := by
  cases x; cases y
  simpa using h
/-- The names of rising files are as they stand. -/
theorem names_up {l : List (ByteArray × F)} (h : Up l) : names l = l.map (·.1) := by
  unfold names
  have hs : (keyBytes l).Pairwise (fun x y => decide (x ≤ y) = true) := by
    unfold keyBytes
    refine List.Pairwise.map _ (fun a b hab => ?_) h
    simpa using List.le_of_lt hab
  rw [List.mergeSort_of_pairwise hs]
  unfold keyBytes
  rw [List.map_map]
  exact List.map_congr_left fun p _ => by simp
theorem Br.names {r s : DS} (h : Br r s) : names s.l = r.l.map (·.1) := by
  rw [← names_up h.up]
  unfold Go.Proofs.Ytoaegleieacokaa.names keyBytes
  rw [sort_unique (h.perm.map fun p => p.1.data.toList)]
theorem Br.files {r s : DS} (h : Br r s) : files s.l = r.l := by
  unfold Go.Proofs.Ytoaegleieacokaa.files
  rw [h.names, List.map_map]
  conv => rhs; rw [← List.map_id r.l]
  refine List.map_congr_left fun p hp => ?_
  have := fk_of_mem (k := p.1) (v := p.2) h.up.keys hp
  rw [h.same] at this
  simp [fileAt, this]
theorem atI_neg {l : List (ByteArray × F)} {nm : ByteArray} : atI l nm < 0 ↔ fk l nm = none := by
  rw [fk_none]
  constructor
  · intro h hm
    obtain ⟨p, hp, rfl⟩ := List.mem_map.1 hm
    unfold atI ix at h
    rw [if_pos (List.findIdx_lt_length_of_exists ⟨p, hp, by simp⟩)] at h
    omega
  · intro h
    rw [ix_end fun j hj e => h (List.mem_map.2 ⟨l[j], List.getElem_mem hj, e⟩)]
    decide
theorem fileI_fk {l : List (ByteArray × F)} {nm : ByteArray} (hn : (l.map (·.1)).Nodup) (h : ¬ atI l nm < 0) : fk l nm = some (fileI l nm) := by
  obtain ⟨i, hi, hil, he⟩ := atI_at h
  unfold fileI
  rw [hi]
  have := fk_of_mem (k := nm) (v := l[i].2) hn (by rw [← he]; exact List.getElem_mem hil)
  rw [this]
  simp [hil]
theorem Br.file {r s : DS} (h : Br r s) {nm : ByteArray} (h0 : ¬ atI r.l nm < 0) : (fk s.l nm).getD ⟨⟨#[]⟩, 0⟩ = fileI r.l nm := by
  rw [← h.same, fileI_fk h.up.keys h0]
  rfl
theorem Br.on {r s : DS} (h : Br r s) (nm : ByteArray) (t : Bool) : onOf s nm t = if r.left = 0 then 18 else if t && decide (atI r.l nm < 0) then 19 else if !t && decide (0 ≤ atI r.l nm) then 20 else 0 := by
  unfold onOf
  rw [← h.left, ← h.same]
  have hi := @atI_neg r.l nm
  cases hf : fk r.l nm with
  | none =>
    have h1 := hi.2 hf
    have h2 : ¬ 0 ≤ atI r.l nm := by omega
    simp [h1, h2]
  | some x =>
    have h1 : ¬ atI r.l nm < 0 := fun h => by rw [hi.1 h] at hf; cases hf
    have h2 : 0 ≤ atI r.l nm := by omega
    simp [h1, h2]
theorem up_insL {l : List (ByteArray × F)} (h : Up l) (p : ByteArray × F) (hp : fk l p.1 = none) : Up (insL p l) ∧ ∀ q, q ∈ insL p l → q = p ∨ q ∈ l := by
  induction l with
  | nil => exact ⟨by simp [insL, Up], fun q hq => by simpa [insL] using hq⟩
  | cons x l ih =>
    have hx : ¬ x.1 = p.1 := fun e => by rw [fk_cons, if_pos e] at hp; cases hp
    rw [fk_cons, if_neg hx] at hp
    obtain ⟨h1, h2⟩ := List.pairwise_cons.1 h
    unfold insL
    by_cases hl : p.1.data.toList < x.1.data.toList
    · rw [if_pos hl]
      refine ⟨List.pairwise_cons.2 ⟨fun q hq => ?_, h⟩, fun q hq => by simpa using hq⟩
      rcases List.mem_cons.1 hq with rfl | hq
      · exact hl
      · exact List.lt_trans hl (h1 q hq)
    · rw [if_neg hl]
      obtain ⟨i1, i2⟩ := ih h2 hp
      refine ⟨List.pairwise_cons.2 ⟨fun q hq => ?_, i1⟩, fun q hq => ?_⟩
      · rcases i2 q hq with rfl | hq
        · rcases List.le_iff_lt_or_eq.1 (List.not_lt.1 hl) with h3 | h3
          · exact h3
          · exact absurd (toList_inj h3) hx
        · exact h1 q hq
      · rcases List.mem_cons.1 hq with rfl | hq
        · exact .inr (by simp)
        · rcases i2 q hq with h3 | h3
          · exact .inl h3
          · exact .inr (by simp [h3])
theorem fk_insL (p : ByteArray × F) (l : List (ByteArray × F)) (k : ByteArray) (hp : fk l p.1 = none) : fk (insL p l) k = if p.1 = k then some p.2 else fk l k := by
  induction l with
  | nil => rw [insL, fk_cons]
  | cons x l ih =>
    have hx : ¬ x.1 = p.1 := fun e => by rw [fk_cons, if_pos e] at hp; cases hp
    rw [fk_cons, if_neg hx] at hp
    unfold insL
    by_cases hl : p.1.data.toList < x.1.data.toList
    · rw [if_pos hl, fk_cons]
    · rw [if_neg hl, fk_cons, fk_cons, ih hp]
      by_cases he : p.1 = k
      · rw [if_pos he, if_pos he, if_neg (fun e => hx (e.trans he.symm))]
      · rw [if_neg he, if_neg he]
theorem up_fdl {l : List (ByteArray × F)} (h : Up l) (k : ByteArray) : Up (fdl l k) := List.Pairwise.sublist List.filter_sublist h
theorem rput_map {l : List (ByteArray × F)} (hn : (l.map (·.1)).Nodup) {nm : ByteArray} (h : ¬ atI l nm < 0) (f : F) : l.set (atI l nm).toNat (nm, f) = l.map fun p => (p.1, if p.1 = nm then f else p.2) := by
  obtain ⟨i, hi, hil, he⟩ := atI_at h
  rw [hi, Int.toNat_natCast]
  apply List.ext_getElem
  · simp
  · intro j h1 h2
    rw [List.getElem_map]
    simp only [List.length_set] at h1
    by_cases e : i = j
    · subst e
      simp [he]
    · rw [List.getElem_set_ne e]
      have : l[j].1 ≠ nm := fun e2 => by
        have h3 := (List.getElem_inj (xs := l.map (·.1)) (h₀ := by simpa using hil) (h₁ := by simpa using h1) hn).1 (by simp [he, e2])
        exact e h3
      rw [if_neg this]
theorem up_map {l : List (ByteArray × F)} (h : Up l) (g : ByteArray → F → F) : Up (l.map fun p => (p.1, g p.1 p.2)) := List.Pairwise.map _ (fun _ _ hab => hab) h
theorem Br.counted {r s : DS} (h : Br r s) : Br r.counted s.counted := ⟨h.room, by simp [DS.counted, h.steps], by simp [DS.counted, h.left], h.up, h.keys, h.same⟩
theorem Br.put {r s : DS} (h : Br r s) {nm : ByteArray} (h0 : ¬ atI r.l nm < 0) (f : F) : Br (r.rput nm f).counted (s.step nm f) := by
  have hr : r.rput nm f = { r with l := r.l.map fun p => (p.1, if p.1 = nm then f else p.2) } := by
    unfold DS.rput
    rw [rput_map h.up.keys h0]
  rw [hr]
  refine Br.counted ⟨h.room, h.steps, h.left, up_map h.up (fun a b => if a = nm then f else b), fup_keys h.keys, fun k => ?_⟩
  show fk (r.l.map fun p => (p.1, if p.1 = nm then f else p.2)) k = fk (fup s.l nm f) k
  rw [fk_fup, fk_map r.l (fun a b => if a = nm then f else b), h.same]
  by_cases e : nm = k
  · subst e
    have := fileI_fk h.up.keys h0
    rw [h.same] at this
    rw [this]
    simp
  · rw [if_neg e]
    have e2 : ¬ k = nm := fun e2 => e e2.symm
    cases fk s.l k <;> simp [e2]
theorem Br.sync {r s : DS} (h : Br r s) (nm : ByteArray) : (r.rsync nm).1 = (s.sync nm).1 ∧ Br (r.rsync nm).2 (s.sync nm).2 := by
  unfold DS.rsync DS.sync
  rw [h.on nm true]
  by_cases h0 : r.left = 0
  · simp [h0, h]
  by_cases h1 : atI r.l nm < 0
  · simp [h0, h1, h]
  · simp only [h0, h1, h.file h1, if_false, decide_false, Bool.and_false, Bool.not_true, Bool.false_and, Bool.false_eq_true, ne_eq, not_true_eq_false]
    exact ⟨trivial, h.put h1 _⟩
theorem Br.append {r s : DS} (h : Br r s) (nm b : ByteArray) : (r.rappend nm b).1 = (s.append nm b).1 ∧ Br (r.rappend nm b).2 (s.append nm b).2 := by
  unfold DS.rappend DS.append
  rw [h.on nm true]
  by_cases h0 : r.left = 0
  · simp [h0, h]
  by_cases h1 : atI r.l nm < 0
  · simp [h0, h1, h]
  · simp only [h0, h1, h.file h1, if_false, decide_false, Bool.and_false, Bool.not_true, Bool.false_and, Bool.false_eq_true, ne_eq, not_true_eq_false]
    rw [h.used, h.room]
    by_cases h2 : s.room < (Go.Proofs.Ytoaegleieacokaa.used s.l : Int) + b.size
    · rw [if_pos h2, if_pos (by omega)]
      exact ⟨rfl, h⟩
    · rw [if_neg h2, if_neg (by omega)]
      exact ⟨rfl, h.put h1 _⟩
theorem Br.cut {r s : DS} (h : Br r s) (nm : ByteArray) (m : Int) : (r.rcut nm m).1 = (s.cut nm m).1 ∧ Br (r.rcut nm m).2 (s.cut nm m).2 := by
  unfold DS.rcut DS.cut
  rw [h.on nm true]
  by_cases h0 : r.left = 0
  · simp [h0, h]
  by_cases h1 : atI r.l nm < 0
  · simp [h0, h1, h]
  · simp only [h0, h1, h.file h1, if_false, decide_false, Bool.and_false, Bool.not_true, Bool.false_and, Bool.false_eq_true, ne_eq, not_true_eq_false]
    have e1 : cutB (fileI r.l nm).b m = (fileI r.l nm).b.extract 0 (min (max m 0) ((fileI r.l nm).b.size : Int)).toNat := by
      unfold cutB
      rw [show max 0 (min m ((fileI r.l nm).b.size : Int)) = min (max m 0) ((fileI r.l nm).b.size : Int) from by omega]
    have e2 : ((cutB (fileI r.l nm).b m).size : Int) = min (max m 0) ((fileI r.l nm).b.size : Int) := by
      rw [e1, ByteArray.size_extract]
      omega
    rw [e2, e1]
    exact ⟨trivial, h.put h1 _⟩
theorem Br.create {r s : DS} (h : Br r s) (nm : ByteArray) : (r.rcreate nm).1 = (s.create nm).1 ∧ Br (r.rcreate nm).2 (s.create nm).2 := by
  unfold DS.rcreate DS.create
  rw [h.on nm false]
  by_cases h0 : r.left = 0
  · simp [h0, h]
  by_cases h1 : 0 ≤ atI r.l nm
  · simp [h0, h1, h]
  · simp only [h0, h1, if_false, decide_false, Bool.and_false, Bool.false_and, Bool.false_eq_true, ne_eq, not_true_eq_false, h.len]
    by_cases h2 : 1000 ≤ s.l.length
    · simp only [h2, if_true]
      exact ⟨trivial, h⟩
    · simp only [h2, if_false]
      refine ⟨trivial, ?_⟩
      have hn := atI_neg.1 (show atI r.l nm < 0 by omega)
      refine Br.counted ⟨h.room, h.steps, h.left, (up_insL h.up (nm, ⟨⟨#[]⟩, 0⟩) hn).1, fup_keys h.keys, fun k => ?_⟩
      show fk (insL (nm, ⟨⟨#[]⟩, 0⟩) r.l) k = fk (fup s.l nm ⟨⟨#[]⟩, 0⟩) k
      rw [fk_insL _ _ _ hn, fk_fup, h.same]
theorem Br.remove {r s : DS} (h : Br r s) (nm : ByteArray) : (r.rremove nm).1 = (s.remove nm).1 ∧ Br (r.rremove nm).2 (s.remove nm).2 := by
  unfold DS.rremove DS.remove
  rw [h.on nm true]
  by_cases h0 : r.left = 0
  · simp [h0, h]
  by_cases h1 : atI r.l nm < 0
  · simp [h0, h1, h]
  · simp only [h0, h1, if_false, decide_false, Bool.and_false, Bool.not_true, Bool.false_and, Bool.false_eq_true, ne_eq, not_true_eq_false]
    refine ⟨trivial, Br.counted ⟨h.room, h.steps, h.left, up_fdl h.up _, fdl_keys h.keys, fun k => ?_⟩⟩
    show fk (fdl r.l nm) k = fk (fdl s.l nm) k
    rw [fk_fdl, fk_fdl, h.same]
theorem Br.rename {r s : DS} (h : Br r s) (nm to : ByteArray) : (r.rrename nm to).1 = (s.rename nm to).1 ∧ Br (r.rrename nm to).2 (s.rename nm to).2 := by
  unfold DS.rrename DS.rename
  rw [h.on nm true]
  by_cases h0 : r.left = 0
  · simp [h0, h]
  by_cases h1 : atI r.l nm < 0
  · simp [h0, h1, h]
  · simp only [h0, h1, h.file h1, if_false, decide_false, Bool.and_false, Bool.not_true, Bool.false_and, Bool.false_eq_true, ne_eq, not_true_eq_false]
    refine ⟨trivial, ?_⟩
    have hn : fk (fdl (fdl r.l nm) to) to = none := by rw [fk_fdl, if_pos rfl]
    refine Br.counted ⟨h.room, h.steps, h.left, (up_insL (up_fdl (up_fdl h.up _) _) _ hn).1, fup_keys (fdl_keys h.keys), fun k => ?_⟩
    show fk (insL _ (fdl (fdl r.l nm) to)) k = fk (fup (fdl s.l nm) to _) k
    rw [fk_insL _ _ _ hn, fk_fup, fk_fdl, fk_fdl, fk_fdl, h.same]
    by_cases e : to = k
    · simp [e]
    · simp [e]
theorem Br.read {r s : DS} (h : Br r s) (nm : ByteArray) : r.rread nm = readOf s nm := by
  unfold DS.rread readOf
  rw [h.on nm true]
  by_cases h0 : r.left = 0
  · simp [h0]
  by_cases h1 : atI r.l nm < 0
  · simp [h0, h1]
  · simp only [h0, h1, if_false, decide_false, Bool.and_false, Bool.not_true, Bool.false_and, Bool.false_eq_true, ne_eq, not_true_eq_false]
    rw [← h.same, fileI_fk h.up.keys h1]
    rfl
theorem Br.limit {r s : DS} (h : Br r s) (m : Int) : Br { r with left := max m 0 } { s with left := max m 0 } := ⟨h.room, h.steps, rfl, h.up, h.keys, h.same⟩
theorem crUp_all (keep : Int) {l : List (ByteArray × F)} (h : Up l) : crUp keep l.length l = l.map fun p => (p.1, crashF keep (place (l.map (·.1)) p.1) p.2) := by
  unfold crUp
  apply List.ext_getElem
  · simp
  · intro i h1 h2
    simp only [List.length_mapIdx] at h1
    have hp := place_at (ns := l.map (·.1)) h.keys (k := i) (by simpa using h1)
    simp only [List.getElem_map] at hp
    simp [h1, hp]
theorem Br.map {r s : DS} (h : Br r s) (g : ByteArray → F → F) (q : Int) : Br { r with l := r.l.map fun p => (p.1, g p.1 p.2), left := q } { s with l := s.l.map fun p => (p.1, g p.1 p.2), left := q } := by
  refine ⟨h.room, h.steps, rfl, up_map h.up g, ?_, fun k => ?_⟩
  · show ((s.l.map fun p => (p.1, g p.1 p.2)).map (·.1)).Nodup
    rw [List.map_map]
    exact h.keys
  · show fk (r.l.map fun p => (p.1, g p.1 p.2)) k = fk (s.l.map fun p => (p.1, g p.1 p.2)) k
    rw [fk_map, fk_map, h.same]
theorem Br.crash {r s : DS} (h : Br r s) (keep : Int) : Br { r with l := crUp keep r.l.length r.l, left := -1 } (s.crash keep) := by
  rw [crUp_all keep h.up]
  unfold DS.crash crashed
  rw [h.names]
  exact h.map (fun a b => crashF keep (place (r.l.map (·.1)) a) b) (-1)
theorem br_new (room : Int) : Br (newDS room) (newDS room) := ⟨rfl, rfl, rfl, by simp [newDS, Up], by simp [newDS], fun _ => rfl⟩
/-- One file laid onto the reference's new disk. -/
def rofStep (l : List (ByteArray × F)) (x : ByteArray × F) : List (ByteArray × F) :=
  if atI l x.1 < 0 ∧ l.length < 1000 then insL (x.1, ⟨x.2.b, max 0 (min x.2.k x.2.b.size)⟩) l else l
def rofDS (room : Int) (L : List (ByteArray × F)) : DS := { newDS room with l := L.foldl rofStep [] }
theorem br_ofStep {r s : DS} (h : Br r s) (x : ByteArray × F) : Br { r with l := rofStep r.l x } { s with l := ofStep s.l x } := by
  unfold rofStep ofStep
  rw [← h.same, ← h.len]
  have hi := @atI_neg r.l x.1
  by_cases h0 : atI r.l x.1 < 0
  · have hn := hi.1 h0
    by_cases h1 : r.l.length < 1000
    · rw [if_pos ⟨h0, h1⟩, if_neg (by rw [hn]; simp; omega)]
      have hn' : fk r.l ((x.1, ⟨x.2.b, max 0 (min x.2.k x.2.b.size)⟩) : ByteArray × F).1 = none := hn
      refine ⟨h.room, h.steps, h.left, (up_insL h.up _ hn').1, fup_keys h.keys, fun k => ?_⟩
      show fk (insL (x.1, _) r.l) k = fk (fup s.l x.1 _) k
      rw [fk_insL _ _ _ hn', fk_fup, h.same, show max 0 (min x.2.k (x.2.b.size : Int)) = min (max x.2.k 0) (x.2.b.size : Int) from by omega]
    · rw [if_neg (fun e => h1 e.2), if_pos (.inr (by omega))]
      exact h
  · rw [if_neg (fun e => h0 e.1), if_pos (.inl (by rw [fileI_fk h.up.keys h0, Option.isSome_some]))]
    exact h
theorem br_of (room : Int) (L : List (ByteArray × F)) : Br (rofDS room L) (ofDS room L) := by
  unfold rofDS ofDS
  have : ∀ (L : List (ByteArray × F)) (r s : DS), Br r s → Br { r with l := L.foldl rofStep r.l } { s with l := L.foldl ofStep s.l } := by
    intro L
    induction L with
    | nil => intro r s h; exact h
    | cons x L ih => intro r s h; exact ih _ _ (br_ofStep h x)
  exact this L _ _ (br_new room)
end Go.Proofs.Ytoaegleieacokaa
