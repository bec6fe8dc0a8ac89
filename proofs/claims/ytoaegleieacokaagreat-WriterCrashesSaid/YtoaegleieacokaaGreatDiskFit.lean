/- What every step keeps: the bytes fit the room, no name twice, as many steps as were counted. Plain: no program. -/
import Derived.Test.YtoaegleieacokaaGreatDiskGo
namespace Go.Proofs.YtoaegleieacokaaGreat
open Go.RowKit Go.Shelf

section
variable {l : List (ByteArray × F)} {k : ByteArray} {v : F}
def sizeAt (l : List (ByteArray × F)) (k : ByteArray) : Nat := ((fk l k).map fun x => x.b.size).getD 0
theorem used_cons (p : ByteArray × F) (l : List (ByteArray × F)) : used (p :: l) = p.2.b.size + used l := by simp [used]
theorem sizeAt_none (h : k ∉ l.map (·.1)) : sizeAt l k = 0 := by rw [sizeAt, fk_none.2 h]; rfl
theorem sizeAt_here (p : ByteArray × F) (l : List (ByteArray × F)) : sizeAt (p :: l) p.1 = p.2.b.size := by simp [sizeAt, fk]
theorem sizeAt_other {p : ByteArray × F} (l : List (ByteArray × F)) (h : p.1 ≠ k) : sizeAt (p :: l) k = sizeAt l k := by simp [sizeAt, fk, h]
theorem used_map (hn : (l.map (·.1)).Nodup) (hk : k ∈ l.map (·.1)) : used (l.map fun p => if p.1 = k then (k, v) else p) + sizeAt l k = used l + v.b.size := by
  induction l with
  | nil => simp at hk
  | cons p l ih =>
    rw [List.map_cons, List.nodup_cons] at hn
    by_cases hp : p.1 = k
    · subst hp
      have hid : (l.map fun q => if q.1 = p.1 then (p.1, v) else q) = l := by
        conv => rhs; rw [← List.map_id l]
        refine List.map_congr_left fun q hq => ?_
        rw [if_neg (fun e => hn.1 (List.mem_map.2 ⟨q, hq, e⟩))]
        rfl
      rw [List.map_cons, if_pos rfl, hid, sizeAt_here, used_cons, used_cons]
      simp only
      omega
    · have hk' : k ∈ l.map (·.1) := by
        rcases List.mem_cons.1 (by simpa using hk : k ∈ p.1 :: l.map (·.1)) with h | h
        · exact absurd h.symm hp
        · exact h
      rw [List.map_cons, if_neg hp, sizeAt_other l hp, used_cons, used_cons]
      have := ih hn.2 hk'
      omega
theorem used_fup (hn : (l.map (·.1)).Nodup) : used (fup l k v) + sizeAt l k = used l + v.b.size := by
  unfold fup
  by_cases hk : k ∈ l.map (·.1)
  · rw [if_pos hk]
    exact used_map hn hk
  · rw [if_neg hk, sizeAt_none hk]
    simp [used]
theorem used_fdl (hn : (l.map (·.1)).Nodup) : used (fdl l k) + sizeAt l k = used l := by
  unfold fdl
  induction l with
  | nil => simp [used, sizeAt, fk]
  | cons p l ih =>
    rw [List.map_cons, List.nodup_cons] at hn
    by_cases hp : p.1 = k
    · subst hp
      have hid : l.filter (fun q => decide (q.1 ≠ p.1)) = l := List.filter_eq_self.2 fun q hq => by
        simp only [decide_eq_true_eq]
        exact fun e => hn.1 (List.mem_map.2 ⟨q, hq, e⟩)
      rw [List.filter_cons_of_neg (by simp), hid, sizeAt_here, used_cons]
      omega
    · rw [List.filter_cons_of_pos (by simp [hp]), sizeAt_other l hp, used_cons, used_cons]
      have := ih hn.2
      omega
theorem fup_keys (hn : (l.map (·.1)).Nodup) : ((fup l k v).map (·.1)).Nodup := by
  unfold fup
  by_cases hk : k ∈ l.map (·.1)
  · rw [if_pos hk, List.map_map]
    have e : l.map ((fun p => p.1) ∘ fun p => if p.1 = k then (k, v) else p) = l.map (·.1) := List.map_congr_left fun p _ => by
      simp only [Function.comp]
      by_cases h : p.1 = k
      · rw [if_pos h, h]
      · rw [if_neg h]
    rw [e]
    exact hn
  · rw [if_neg hk, List.map_append]
    refine List.nodup_append.2 ⟨hn, by simp, fun a ha b hb e => hk ?_⟩
    simp only [List.map_cons, List.map_nil, List.mem_singleton] at hb
    rw [← hb, ← e]
    exact ha
theorem fdl_keys (hn : (l.map (·.1)).Nodup) : ((fdl l k).map (·.1)).Nodup := hn.sublist (List.filter_sublist.map _)
theorem fdl_len : (fdl l k).length ≤ l.length := List.length_filter_le _ _
theorem fup_len_in (hk : k ∈ l.map (·.1)) : (fup l k v).length = l.length := by unfold fup; rw [if_pos hk, List.length_map]
theorem fup_len : (fup l k v).length ≤ l.length + 1 := by
  unfold fup
  split
  · rw [List.length_map]; omega
  · simp
theorem fdl_len_in (hk : k ∈ l.map (·.1)) : (fdl l k).length < l.length := by
  obtain ⟨p, hp, e⟩ := List.mem_map.1 hk
  exact List.length_filter_lt_length_iff_exists.2 ⟨p, hp, by simp [e]⟩
end
theorem sizeAt_getD (l : List (ByteArray × F)) (k : ByteArray) : ((fk l k).getD ⟨⟨#[]⟩, 0⟩).b.size = sizeAt l k := by
  unfold sizeAt
  cases fk l k with
  | none => rfl
  | some x => rfl

/-- A file of which no more stays than there is. -/
def Sound (f : F) : Prop := 0 ≤ f.k ∧ f.k ≤ f.b.size
/-- What every step keeps. -/
structure DS.Fit (N : Int) (s : DS) : Prop where
  steps0 : 0 ≤ s.steps
  steps : s.steps ≤ N
  left : s.left ≤ 9223372036854775807
  room0 : 0 ≤ s.room
  room : s.room ≤ 1000000
  used : (used s.l : Int) ≤ s.room
  keys : (s.l.map (·.1)).Nodup
  many : s.l.length ≤ 1000
  sound : ∀ p ∈ s.l, Sound p.2
theorem DS.Fit.ok {N : Int} {s : DS} (h : s.Fit N) (hN : N < 4611686018427387904) : s.Ok := ⟨h.steps0, by have := h.steps; omega, h.left, h.room0, h.room, by have := h.used; have := h.room; omega⟩
theorem DS.Fit.up {N M : Int} {s : DS} (h : s.Fit N) (hM : N ≤ M) : s.Fit M := ⟨h.steps0, Int.le_trans h.steps hM, h.left, h.room0, h.room, h.used, h.keys, h.many, h.sound⟩
theorem fit_new (r : Int) : (newDS r).Fit 0 := ⟨by simp [newDS], by simp [newDS], by simp [newDS], by simp [newDS]; omega, by simp [newDS]; omega, by simp [newDS, Go.Proofs.YtoaegleieacokaaGreat.used]; omega, by simp [newDS], by simp [newDS], by simp [newDS]⟩
theorem DS.Fit.fok {N : Int} {s : DS} (h : s.Fit N) : ∀ p ∈ s.l, FOk p.2 := fun p hp => by
  have h1 := h.sound p hp
  have h2 : p.2.b.size ≤ Go.Proofs.YtoaegleieacokaaGreat.used s.l := le_sum (List.mem_map.2 ⟨p, hp, rfl⟩)
  have h3 := h.used
  have h4 := h.room
  exact ⟨h1.1, h1.2, by omega⟩
theorem mem_fup' {l : List (ByteArray × F)} {k : ByteArray} {v : F} {p : ByteArray × F} (h : p ∈ fup l k v) : p ∈ l ∨ p = (k, v) := mem_fup h
theorem fit_counted {N : Int} {s : DS} (h : s.Fit N) : s.counted.Fit (N + 1) := by
  refine ⟨?_, ?_, ?_, h.room0, h.room, h.used, h.keys, h.many, h.sound⟩
  · have := h.steps0; simp only [DS.counted]; omega
  · have := h.steps; simp only [DS.counted]; omega
  · have := h.left; simp only [DS.counted]; split <;> omega
theorem fit_step {N : Int} {s : DS} (h : s.Fit N) {k : ByteArray} {v : F} (hv : Sound v) (hu : (used s.l : Int) + v.b.size ≤ s.room + sizeAt s.l k) (hm : k ∈ s.l.map (·.1) ∨ s.l.length < 1000) : (s.step k v).Fit (N + 1) := by
  refine fit_counted ⟨h.steps0, h.steps, h.left, h.room0, h.room, ?_, fup_keys h.keys, ?_, fun p hp => ?_⟩
  · have := used_fup (k := k) (v := v) h.keys
    simp only
    omega
  · rcases hm with hm | hm
    · show (fup s.l k v).length ≤ 1000
      rw [fup_len_in hm]
      exact h.many
    · have := fup_len (l := s.l) (k := k) (v := v)
      show (fup s.l k v).length ≤ 1000
      omega
  · rcases mem_fup hp with hp | rfl
    · exact h.sound p hp
    · exact hv
theorem mem_of_on {s : DS} {k : ByteArray} (h : onOf s k true = 0) : k ∈ s.l.map (·.1) := by
  obtain ⟨x, hx⟩ := onOf_some h
  exact List.mem_map.2 ⟨_, fk_mem hx, rfl⟩
theorem sound_at {N : Int} {s : DS} (h : s.Fit N) (k : ByteArray) : Sound ((fk s.l k).getD ⟨⟨#[]⟩, 0⟩) := by
  cases hf : fk s.l k with
  | none => exact ⟨by simp, by simp [ByteArray.size]⟩
  | some x => exact h.sound _ (fk_mem hf)
theorem fit_create {N : Int} {s : DS} (h : s.Fit N) (k : ByteArray) : (s.create k).2.Fit (N + 1) := by
  unfold DS.create
  split
  · exact h.up (by omega)
  · split
    · exact h.up (by omega)
    · refine fit_step h ⟨by simp, by simp [ByteArray.size]⟩ ?_ (.inr (by omega))
      have := h.used
      have e : (⟨#[]⟩ : ByteArray).size = 0 := rfl
      simp only [e]
      omega
theorem fit_append {N : Int} {s : DS} (h : s.Fit N) (k b : ByteArray) : (s.append k b).2.Fit (N + 1) := by
  unfold DS.append
  split
  · exact h.up (by omega)
  · split
    · exact h.up (by omega)
    · rename_i h1 h2
      have hs := sound_at h k
      refine fit_step h ⟨hs.1, ?_⟩ ?_ (.inl (mem_of_on (by omega)))
      · have := hs.2
        simp only [ByteArray.size_append]
        omega
      · simp only [ByteArray.size_append, sizeAt_getD]
        omega
theorem fit_sync {N : Int} {s : DS} (h : s.Fit N) (k : ByteArray) : (s.sync k).2.Fit (N + 1) := by
  unfold DS.sync
  split
  · exact h.up (by omega)
  · rename_i h1
    refine fit_step h ⟨by simp, by simp⟩ ?_ (.inl (mem_of_on (by omega)))
    have := h.used
    simp only [sizeAt_getD]
    omega
theorem fit_remove {N : Int} {s : DS} (h : s.Fit N) (k : ByteArray) : (s.remove k).2.Fit (N + 1) := by
  unfold DS.remove
  split
  · exact h.up (by omega)
  · refine fit_counted ⟨h.steps0, h.steps, h.left, h.room0, h.room, ?_, fdl_keys h.keys, Nat.le_trans fdl_len h.many, fun p hp => h.sound p (List.mem_filter.1 hp |>.1)⟩
    have := used_fdl (k := k) h.keys
    have := h.used
    simp only
    omega
theorem fit_rename {N : Int} {s : DS} (h : s.Fit N) (k to : ByteArray) : (s.rename k to).2.Fit (N + 1) := by
  unfold DS.rename
  split
  · exact h.up (by omega)
  · rename_i h1
    have hm := mem_of_on (s := s) (k := k) (by omega)
    have hu := used_fdl (k := k) h.keys
    have h2 : ({ s with l := fdl s.l k } : DS).Fit N := ⟨h.steps0, h.steps, h.left, h.room0, h.room, by have := h.used; simp only; omega, fdl_keys h.keys, Nat.le_trans fdl_len h.many, fun p hp => h.sound p (List.mem_filter.1 hp |>.1)⟩
    refine fit_step h2 ⟨by simp, by simp⟩ ?_ (.inr ?_)
    · have := h.used
      simp only [sizeAt_getD]
      omega
    · have := fdl_len_in hm
      have := h.many
      simp only
      omega
theorem fit_cut {N : Int} {s : DS} (h : s.Fit N) (k : ByteArray) (n : Int) : (s.cut k n).2.Fit (N + 1) := by
  unfold DS.cut
  split
  · exact h.up (by omega)
  · rename_i h1
    have hz := sizeAt_getD s.l k
    refine fit_step h ⟨by simp only; omega, ?_⟩ ?_ (.inl (mem_of_on (by omega)))
    · simp only [ByteArray.size_extract]
      omega
    · have := h.used
      simp only [ByteArray.size_extract]
      omega
theorem fit_limit {N : Int} {s : DS} (h : s.Fit N) {n : Int} (hn : n ≤ 9223372036854775807) : ({ s with left := max n 0 } : DS).Fit N := ⟨h.steps0, h.steps, by simp only; omega, h.room0, h.room, h.used, h.keys, h.many, h.sound⟩
end Go.Proofs.YtoaegleieacokaaGreat
