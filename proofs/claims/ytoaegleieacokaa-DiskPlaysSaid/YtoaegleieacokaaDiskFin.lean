/- What every step keeps, for a disk that came with files: there may be more bytes than room. -/
import Derived.Test.YtoaegleieacokaaFitCrash
namespace Go.Proofs.Ytoaegleieacokaa
open Go.RowKit Go.Shelf

/-- What every step keeps. -/
structure DS.Fin (N : Int) (s : DS) : Prop where
  steps0 : 0 ≤ s.steps
  steps : s.steps ≤ N
  left : s.left ≤ 9223372036854775807
  room0 : 0 ≤ s.room
  room : s.room ≤ 1000000
  used : used s.l ≤ 1000000
  keys : (s.l.map (·.1)).Nodup
  many : s.l.length ≤ 1000
  sound : ∀ p ∈ s.l, Sound p.2
theorem DS.Fin.ok {N : Int} {s : DS} (h : s.Fin N) (hN : N < 4611686018427387904) : s.Ok := ⟨h.steps0, by have := h.steps; omega, h.left, h.room0, h.room, by have := h.used; have := h.room; omega⟩
theorem DS.Fin.up {N M : Int} {s : DS} (h : s.Fin N) (hM : N ≤ M) : s.Fin M := ⟨h.steps0, Int.le_trans h.steps hM, h.left, h.room0, h.room, h.used, h.keys, h.many, h.sound⟩
theorem fin_new (r : Int) : (newDS r).Fin 0 := ⟨by simp [newDS], by simp [newDS], by simp [newDS], by simp [newDS]; omega, by simp [newDS]; omega, by simp [newDS, Go.Proofs.Ytoaegleieacokaa.used], by simp [newDS], by simp [newDS], by simp [newDS]⟩
theorem DS.Fin.fok {N : Int} {s : DS} (h : s.Fin N) : ∀ p ∈ s.l, FOk p.2 := fun p hp => by
  have h1 := h.sound p hp
  have h2 : p.2.b.size ≤ Go.Proofs.Ytoaegleieacokaa.used s.l := le_sum (List.mem_map.2 ⟨p, hp, rfl⟩)
  have h3 := h.used
  have h4 := h.room
  exact ⟨h1.1, h1.2, by omega⟩
theorem fin_counted {N : Int} {s : DS} (h : s.Fin N) : s.counted.Fin (N + 1) := by
  refine ⟨?_, ?_, ?_, h.room0, h.room, h.used, h.keys, h.many, h.sound⟩
  · have := h.steps0; simp only [DS.counted]; omega
  · have := h.steps; simp only [DS.counted]; omega
  · have := h.left; simp only [DS.counted]; split <;> omega
theorem fin_step {N : Int} {s : DS} (h : s.Fin N) {k : ByteArray} {v : F} (hv : Sound v) (hu : used s.l + v.b.size ≤ 1000000 + sizeAt s.l k) (hm : k ∈ s.l.map (·.1) ∨ s.l.length < 1000) : (s.step k v).Fin (N + 1) := by
  refine fin_counted ⟨h.steps0, h.steps, h.left, h.room0, h.room, ?_, fup_keys h.keys, ?_, fun p hp => ?_⟩
  · have := used_fup (k := k) (v := v) h.keys
    simp only
    omega
  · rcases hm with hm | hm
    · show (fup s.l k v).length ≤ 1000
      rw [fup_len_in hm]
      exact h.many
    · have := fup_len (l := s.l) (k := k) (v := v)
      show (fup s.l k v).length ≤ 1000
      omega
  · rcases mem_fup hp with hp | rfl
    · exact h.sound p hp
    · exact hv
theorem sound_atn {N : Int} {s : DS} (h : s.Fin N) (k : ByteArray) : Sound ((fk s.l k).getD ⟨⟨#[]⟩, 0⟩) := by
  cases hf : fk s.l k with
  | none => exact ⟨by simp, by simp [ByteArray.size]⟩
  | some x => exact h.sound _ (fk_mem hf)
theorem fin_create {N : Int} {s : DS} (h : s.Fin N) (k : ByteArray) : (s.create k).2.Fin (N + 1) := by
  unfold DS.create
  split
  · exact h.up (by omega)
  · split
    · exact h.up (by omega)
    · refine fin_step h ⟨by simp, by simp [ByteArray.size]⟩ ?_ (.inr (by omega))
      have := h.used
      have e : (⟨#[]⟩ : ByteArray).size = 0 := rfl
      simp only [e]
      omega
theorem fin_append {N : Int} {s : DS} (h : s.Fin N) (k b : ByteArray) : (s.append k b).2.Fin (N + 1) := by
  unfold DS.append
  split
  · exact h.up (by omega)
  · split
    · exact h.up (by omega)
    · rename_i h1 h2
      have hs := sound_atn h k
      refine fin_step h ⟨hs.1, ?_⟩ ?_ (.inl (mem_of_on (by omega)))
      · have := hs.2
        simp only [ByteArray.size_append]
        omega
      · have := h.room
        simp only [ByteArray.size_append, sizeAt_getD]
        omega
theorem fin_sync {N : Int} {s : DS} (h : s.Fin N) (k : ByteArray) : (s.sync k).2.Fin (N + 1) := by
  unfold DS.sync
  split
  · exact h.up (by omega)
  · rename_i h1
    refine fin_step h ⟨by simp, by simp⟩ ?_ (.inl (mem_of_on (by omega)))
    have := h.used
    simp only [sizeAt_getD]
    omega
theorem fin_remove {N : Int} {s : DS} (h : s.Fin N) (k : ByteArray) : (s.remove k).2.Fin (N + 1) := by
  unfold DS.remove
  split
  · exact h.up (by omega)
  · refine fin_counted ⟨h.steps0, h.steps, h.left, h.room0, h.room, ?_, fdl_keys h.keys, Nat.le_trans fdl_len h.many, fun p hp => h.sound p (List.mem_filter.1 hp |>.1)⟩
    have := used_fdl (k := k) h.keys
    have := h.used
    simp only
    omega
theorem fin_rename {N : Int} {s : DS} (h : s.Fin N) (k to : ByteArray) : (s.rename k to).2.Fin (N + 1) := by
  unfold DS.rename
  split
  · exact h.up (by omega)
  · rename_i h1
    have hm := mem_of_on (s := s) (k := k) (by omega)
    have hu := used_fdl (k := k) h.keys
    have h2 : ({ s with l := fdl s.l k } : DS).Fin N := ⟨h.steps0, h.steps, h.left, h.room0, h.room, by have := h.used; simp only; omega, fdl_keys h.keys, Nat.le_trans fdl_len h.many, fun p hp => h.sound p (List.mem_filter.1 hp |>.1)⟩
    refine fin_step h2 ⟨by simp, by simp⟩ ?_ (.inr ?_)
    · have := h.used
      simp only [sizeAt_getD]
      omega
    · have := fdl_len_in hm
      have := h.many
      simp only
      omega
theorem fin_cut {N : Int} {s : DS} (h : s.Fin N) (k : ByteArray) (n : Int) : (s.cut k n).2.Fin (N + 1) := by
  unfold DS.cut
  split
  · exact h.up (by omega)
  · rename_i h1
    have hz := sizeAt_getD s.l k
    refine fin_step h ⟨by simp only; omega, ?_⟩ ?_ (.inl (mem_of_on (by omega)))
    · simp only [ByteArray.size_extract]
      omega
    · have := h.used
      simp only [ByteArray.size_extract]
      omega
theorem fin_limit {N : Int} {s : DS} (h : s.Fin N) {n : Int} (hn : n ≤ 9223372036854775807) : ({ s with left := max n 0 } : DS).Fin N := ⟨h.steps0, h.steps, by simp only; omega, h.room0, h.room, h.used, h.keys, h.many, h.sound⟩
theorem fin_crash {N : Int} {s : DS} (h : s.Fin N) (keep : Int) (hk0 : 0 ≤ keep) (hk1 : keep < 18446744073709551616) : (s.crash keep).Fin N := by
  have hu := crashed_used keep hk0 hk1 (names s.l) s.l h.sound
  have h2 := h.used
  refine ⟨h.steps0, h.steps, by simp [DS.crash], h.room0, h.room, ?_, ?_, ?_, ?_⟩
  · simp only [DS.crash]
    omega
  · simp only [DS.crash]
    rw [crashed_keys]
    exact h.keys
  · simp only [DS.crash, crashed, List.length_map]
    exact h.many
  · intro p hp
    simp only [DS.crash, crashed, List.mem_map] at hp
    obtain ⟨q, hq, rfl⟩ := hp
    obtain ⟨a, b⟩ := h.sound q hq
    have := crashF_sound a b keep hk0 hk1 (place (names s.l) q.1)
    exact ⟨this.1, this.2.1⟩
theorem DS.Fit.fin {N : Int} {s : DS} (h : s.Fit N) : s.Fin N := ⟨h.steps0, h.steps, h.left, h.room0, h.room, by have := h.used; have := h.room; omega, h.keys, h.many, h.sound⟩
theorem of_keep (L : List (ByteArray × F)) (hL : ∀ p ∈ L, p.2.b.size ≤ 200) : ∀ (l : List (ByteArray × F)), (l.map (·.1)).Nodup → l.length ≤ 1000 → (∀ p ∈ l, Sound p.2) →
    ((L.foldl ofStep l).map (·.1)).Nodup ∧ (L.foldl ofStep l).length ≤ 1000 ∧ (∀ p ∈ L.foldl ofStep l, Sound p.2) ∧ used (L.foldl ofStep l) ≤ used l + 200 * L.length := by
  induction L with
  | nil => intro l h1 h2 h3; exact ⟨h1, h2, h3, by simp⟩
  | cons x L ih =>
    intro l h1 h2 h3
    have hx := hL x (by simp)
    obtain ⟨g1, g2, g3, g4⟩ : ((ofStep l x).map (·.1)).Nodup ∧ (ofStep l x).length ≤ 1000 ∧ (∀ p ∈ ofStep l x, Sound p.2) ∧ used (ofStep l x) ≤ used l + 200 := by
      unfold ofStep
      split
      · exact ⟨h1, h2, h3, by omega⟩
      · rename_i hc
        refine ⟨fup_keys h1, ?_, fun p hp => ?_, ?_⟩
        · have := fup_len (l := l) (k := x.1) (v := (⟨x.2.b, min (max x.2.k 0) x.2.b.size⟩ : F))
          have : ¬ 1000 ≤ l.length := fun h => hc (.inr h)
          omega
        · rcases mem_fup hp with hp | rfl
          · exact h3 p hp
          · exact ⟨by simp only; omega, by simp only; omega⟩
        · have := used_fup (k := x.1) (v := (⟨x.2.b, min (max x.2.k 0) x.2.b.size⟩ : F)) h1
          simp only at this
          omega
    obtain ⟨k1, k2, k3, k4⟩ := ih (fun p hp => hL p (by simp [hp])) (ofStep l x) g1 g2 g3
    exact ⟨k1, k2, k3, by simp only [List.foldl_cons, List.length_cons]; omega⟩
theorem fin_of (room : Int) (L : List (ByteArray × F)) (hL : ∀ p ∈ L, p.2.b.size ≤ 200) (hn : L.length ≤ 6) : (ofDS room L).Fin 0 := by
  obtain ⟨k1, k2, k3, k4⟩ := of_keep L hL [] (by simp) (by simp) (by simp)
  have h := fin_new room
  exact ⟨h.steps0, h.steps, h.left, h.room0, h.room, by have : used ([] : List (ByteArray × F)) = 0 := rfl; simp only [ofDS]; omega, k1, k2, k3⟩
end Go.Proofs.Ytoaegleieacokaa
