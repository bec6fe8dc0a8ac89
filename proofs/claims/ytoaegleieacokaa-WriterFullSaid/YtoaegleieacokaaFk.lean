/- Rows of files, by name: what is found. Plain: no program. -/
import Derived.Test.YtoaegleieacokaaDiskFit
namespace Go.Proofs.Ytoaegleieacokaa
open Go.RowKit Go.Shelf

section
variable {κ β : Type} [DecidableEq κ]
theorem fk_nil (k : κ) : fk ([] : List (κ × β)) k = none := rfl
theorem fk_cons (p : κ × β) (l : List (κ × β)) (k : κ) : fk (p :: l) k = if p.1 = k then some p.2 else fk l k := by
  unfold fk
  by_cases h : p.1 = k <;> simp [h]
theorem fk_append (l m : List (κ × β)) (k : κ) : fk (l ++ m) k = (fk l k).or (fk m k) := by
  induction l with
  | nil => rfl
  | cons p l ih =>
    rw [List.cons_append, fk_cons, fk_cons, ih]
    by_cases h : p.1 = k <;> simp [h]
theorem fk_fup (l : List (κ × β)) (k k' : κ) (v : β) : fk (fup l k v) k' = if k = k' then some v else fk l k' := by
  unfold fup
  by_cases hk : k ∈ l.map (·.1)
  · rw [if_pos hk]
    induction l with
    | nil => simp at hk
    | cons p l ih =>
      rw [List.map_cons, fk_cons, fk_cons]
      by_cases hp : p.1 = k
      · subst hp
        by_cases he : p.1 = k'
        · simp [he]
        · simp only [if_true, if_neg he]
          by_cases hk2 : p.1 ∈ l.map (·.1)
          · rw [ih hk2, if_neg he]
          · have : l.map (fun q => if q.1 = p.1 then (p.1, v) else q) = l := by
              conv => rhs; rw [← List.map_id l]
              refine List.map_congr_left fun q hq => ?_
              rw [if_neg (fun e => hk2 (List.mem_map.2 ⟨q, hq, e⟩))]
              rfl
            rw [this]
      · have hk2 : k ∈ l.map (·.1) := by
          rcases List.mem_cons.1 (by simpa using hk : k ∈ p.1 :: l.map (·.1)) with h | h
          · exact absurd h.symm hp
          · exact h
        rw [if_neg hp, ih hk2]
        by_cases he : k = k'
        · subst he
          simp [hp]
        · simp [he]
  · rw [if_neg hk, fk_append]
    have hn := fk_none.2 hk
    rw [fk_cons, fk_nil]
    by_cases he : k = k'
    · subst he
      simp [hn]
    · simp [he]
theorem fk_fdl (l : List (κ × β)) (k k' : κ) : fk (fdl l k) k' = if k = k' then none else fk l k' := by
  unfold fdl
  induction l with
  | nil => simp [fk_nil]
  | cons p l ih =>
    by_cases hp : p.1 = k
    · rw [List.filter_cons_of_neg (by simp [hp]), ih, fk_cons]
      by_cases he : k = k'
      · simp [he]
      · rw [if_neg he, if_neg he, if_neg (by rw [hp]; exact he)]
    · rw [List.filter_cons_of_pos (by simp [hp]), fk_cons, fk_cons, ih]
      by_cases he : k = k'
      · subst he
        simp [hp]
      · simp [he]
theorem fk_map (l : List (κ × β)) (g : κ → β → β) (k : κ) : fk (l.map fun p => (p.1, g p.1 p.2)) k = (fk l k).map (g k) := by
  induction l with
  | nil => rfl
  | cons p l ih =>
    rw [List.map_cons, fk_cons, fk_cons, ih]
    by_cases h : p.1 = k
    · subst h; simp
    · simp [h]
/-- Two lists that tell the same, each key once, have the same entries. -/
theorem perm_of_fk {l m : List (κ × β)} (hl : (l.map (·.1)).Nodup) (hm : (m.map (·.1)).Nodup) (h : ∀ k, fk l k = fk m k) : l.Perm m := by
  have nd : ∀ {x : List (κ × β)}, (x.map (·.1)).Nodup → x.Nodup := fun hx => by
    refine List.Pairwise.of_map (S := fun a b => a ≠ b) (·.1) (fun a b hab e => hab (by rw [e])) hx
  refine (List.perm_ext_iff_of_nodup (nd hl) (nd hm)).2 fun p => ?_
  have go : ∀ {x y : List (κ × β)}, (x.map (·.1)).Nodup → (∀ k, fk x k = fk y k) → p ∈ x → p ∈ y := fun hx hxy hp => by
    have := fk_of_mem (k := p.1) (v := p.2) hx hp
    rw [hxy] at this
    exact fk_mem this
  exact ⟨go hl h, go hm fun k => (h k).symm⟩
end
end Go.Proofs.Ytoaegleieacokaa
