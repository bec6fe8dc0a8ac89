/- What Crash leaves, file by file. Plain: no program. -/
import Derived.Test.YtoaegleieacokaaGreatDiskOf
namespace Go.Proofs.YtoaegleieacokaaGreat
open Go.RowKit Go.Shelf

theorem fk_of_mem {κ β : Type} [DecidableEq κ] : ∀ {l : List (κ × β)} {k : κ} {v : β}, (l.map (·.1)).Nodup → (k, v) ∈ l → fk l k = some v
  | [], _, _, _, h => by simp at h
  | q :: l, k, v, hn, h => by
    rw [List.map_cons, List.nodup_cons] at hn
    unfold fk
    rcases List.mem_cons.1 h with h | h
    · subst h
      simp
    · have hne : ¬ q.1 = k := fun e => hn.1 (List.mem_map.2 ⟨(k, v), h, e.symm⟩)
      simp only [List.find?_cons, hne, decide_false]
      exact fk_of_mem hn.2 h
/-- The place of a name among the names, rising. -/
def place (ns : List ByteArray) (nm : ByteArray) : Nat := ns.findIdx fun x => decide (x = nm)
theorem place_at {ns : List ByteArray} (hn : ns.Nodup) {k : Nat} (hk : k < ns.length) : place ns ns[k] = k := by
  unfold place
  rw [List.findIdx_eq hk]
  refine ⟨by simp, fun j hj => ?_⟩
  simp only [decide_eq_false_iff_not]
  intro e
  have := (List.getElem_inj (h₀ := by omega) (h₁ := hk) hn).1 e
  omega
theorem at_place' {ns : List ByteArray} {nm : ByteArray} (hk : place ns nm < ns.length) : ns[place ns nm] = nm := by
  have := List.findIdx_getElem (w := hk)
  exact of_decide_eq_true this
theorem at_place {ns : List ByteArray} {nm : ByteArray} (h : nm ∈ ns) : ∃ hk : place ns nm < ns.length, ns[place ns nm] = nm := by
  have hk : place ns nm < ns.length := List.findIdx_lt_length_of_exists ⟨nm, h, by simp⟩
  refine ⟨hk, ?_⟩
  exact at_place' hk
/-- What Crash makes of the files. -/
def crashed (keep : Int) (ns : List ByteArray) (l : List (ByteArray × F)) : List (ByteArray × F) := l.map fun p => (p.1, crashF keep (place ns p.1) p.2)
theorem crash_upto (keep : Int) (ns : List ByteArray) (l : List (ByteArray × F)) (hns : ns.Nodup) (hl : (l.map (·.1)).Nodup) (hin : ∀ nm ∈ ns, nm ∈ l.map (·.1)) :
    ∀ k, k ≤ ns.length → crashTo keep ns l ((List.finRange ns.length).take k) = l.map fun p => if place ns p.1 < k then (p.1, crashF keep (place ns p.1) p.2) else p
  | 0, _ => by simp [crashTo]
  | k + 1, hk => by
    have ih := crash_upto keep ns l hns hl hin k (by omega)
    have hk' : k < ns.length := hk
    rw [fin_take ns.length k hk', show crashTo keep ns l ((List.finRange ns.length).take k ++ [⟨k, hk'⟩]) = crashStep keep ns (crashTo keep ns l ((List.finRange ns.length).take k)) ⟨k, hk'⟩ from by simp [crashTo], ih]
    unfold crashStep
    simp only
    have hpl := place_at hns hk'
    obtain ⟨p, hp, hpe⟩ := List.mem_map.1 (hin ns[k] (List.getElem_mem hk'))
    generalize hnm : ns[k] = nm at *
    have hnmin : nm ∈ ns := hnm ▸ List.getElem_mem hk'
    have hkeys : ∀ (g : ByteArray × F → ByteArray × F), (∀ q, (g q).1 = q.1) → (l.map g).map (·.1) = l.map (·.1) := fun g hg => by rw [List.map_map]; exact List.map_congr_left fun q _ => hg q
    have hK := hkeys (fun p => if place ns p.1 < k then (p.1, crashF keep (place ns p.1) p.2) else p) (fun q => by split <;> rfl)
    have hf : fileAt (l.map fun p => if place ns p.1 < k then (p.1, crashF keep (place ns p.1) p.2) else p) nm = p.2 := by
      unfold fileAt
      rw [fk_of_mem (v := p.2) (by rw [hK]; exact hl) (List.mem_map.2 ⟨p, hp, by rw [hpe, hpl, if_neg (by omega), ← hpe]⟩)]
      rfl
    rw [hf]
    unfold fup
    rw [if_pos (by rw [hK]; exact hin nm hnmin), List.map_map]
    refine List.map_congr_left fun q hq => ?_
    simp only [Function.comp]
    have hfst : (if place ns q.1 < k then (q.1, crashF keep (place ns q.1) q.2) else q).1 = q.1 := by split <;> rfl
    by_cases hqn : q.1 = nm
    · have : q = p := inj_of_nodup (·.1) hl hq hp (by rw [hqn, hpe])
      subst this
      rw [if_pos (by rw [hfst]; exact hqn), if_pos (by rw [hqn, hpl]; omega), hqn, hpl]
    · have hne : place ns q.1 ≠ k := fun e => by
        have h1 : place ns q.1 < ns.length := by rw [e]; exact hk'
        have h2 := at_place' h1
        simp only [e] at h2
        exact hqn (h2.symm.trans hnm)
      rw [if_neg (by rw [hfst]; exact hqn)]
      by_cases h1 : place ns q.1 < k
      · rw [if_pos h1, if_pos (by omega)]
      · rw [if_neg h1, if_neg (by omega)]
theorem crash_form (keep : Int) (ns : List ByteArray) (l : List (ByteArray × F)) (hns : ns.Nodup) (hl : (l.map (·.1)).Nodup) (hin : ∀ nm ∈ ns, nm ∈ l.map (·.1)) (hin2 : ∀ p ∈ l, p.1 ∈ ns) :
    crashTo keep ns l (List.finRange ns.length) = crashed keep ns l := by
  have h := crash_upto keep ns l hns hl hin ns.length (Nat.le_refl _)
  rw [List.take_of_length_le (by simp)] at h
  rw [h]
  refine List.map_congr_left fun p hp => ?_
  rw [if_pos (at_place (hin2 p hp)).1]

theorem names_perm {β : Type} (l : List (ByteArray × β)) : (names l).Perm (l.map (·.1)) := by
  unfold names
  have h := (List.mergeSort_perm (keyBytes l) (fun x y => decide (x ≤ y))).map fun x : List UInt8 => (⟨x.toArray⟩ : ByteArray)
  refine h.trans ?_
  unfold keyBytes
  rw [List.map_map]
  refine List.Perm.of_eq (List.map_congr_left fun p _ => ?_)
  simp
theorem crash_names (keep : Int) (l : List (ByteArray × F)) (hl : (l.map (·.1)).Nodup) : crashTo keep (names l) l (List.finRange (names l).length) = crashed keep (names l) l :=
  crash_form keep (names l) l ((names_perm l).nodup_iff.2 hl) hl (fun _ h => (names_perm l).mem_iff.1 h) (fun p hp => (names_perm l).mem_iff.2 (List.mem_map.2 ⟨p, hp, rfl⟩))
end Go.Proofs.YtoaegleieacokaaGreat
