/- The crash keeps what fits. -/
import Derived.Test.YtoaegleieacokaaDiskFit
namespace Go.Proofs.Ytoaegleieacokaa
open Go.RowKit Go.Shelf

theorem crashSize_in {f : F} (_ : 0 ≤ f.k) (h1 : f.k ≤ f.b.size) (keep : Int) (hk0 : 0 ≤ keep) (hk1 : keep < 18446744073709551616) (i : Nat) : f.k ≤ crashSize keep i f ∧ crashSize keep i f ≤ f.b.size := by
  obtain ⟨q0, q1⟩ := crashK_le keep hk0 hk1 i
  unfold crashSize
  generalize crashK keep i = q at *
  have h2 : 0 ≤ ((f.b.size : Int) - f.k) * q := Int.mul_nonneg (by omega) q0
  have h3 : ((f.b.size : Int) - f.k) * q ≤ ((f.b.size : Int) - f.k) * 255 := Int.mul_le_mul_of_nonneg_left q1 (by omega)
  rw [Int.tdiv_eq_ediv_of_nonneg h2]
  omega
theorem crashF_sound {f : F} (h0 : 0 ≤ f.k) (h1 : f.k ≤ f.b.size) (keep : Int) (hk0 : 0 ≤ keep) (hk1 : keep < 18446744073709551616) (i : Nat) :
    0 ≤ (crashF keep i f).k ∧ (crashF keep i f).k ≤ (crashF keep i f).b.size ∧ (crashF keep i f).b.size ≤ f.b.size := by
  obtain ⟨a, b⟩ := crashSize_in h0 h1 keep hk0 hk1 i
  unfold crashF
  simp only [ByteArray.size_extract]
  omega
theorem crashed_keys (keep : Int) (ns : List ByteArray) (l : List (ByteArray × F)) : (crashed keep ns l).map (·.1) = l.map (·.1) := by
  unfold crashed
  rw [List.map_map]
  rfl
theorem crashed_used (keep : Int) (hk0 : 0 ≤ keep) (hk1 : keep < 18446744073709551616) (ns : List ByteArray) : ∀ l : List (ByteArray × F), (∀ p ∈ l, 0 ≤ p.2.k ∧ p.2.k ≤ p.2.b.size) → used (crashed keep ns l) ≤ used l
  | [], _ => Nat.le_refl _
  | p :: l, h => by
    have h1 := crashed_used keep hk0 hk1 ns l (fun q hq => h q (by simp [hq]))
    obtain ⟨a, b⟩ := h p (by simp)
    have h2 := (crashF_sound a b keep hk0 hk1 (place ns p.1)).2.2
    have e : crashed keep ns (p :: l) = (p.1, crashF keep (place ns p.1) p.2) :: crashed keep ns l := rfl
    rw [e, used_cons, used_cons]
    simp only
    omega
theorem fit_crash {N : Int} {s : DS} (h : s.Fit N) (keep : Int) (hk0 : 0 ≤ keep) (hk1 : keep < 18446744073709551616) : (s.crash keep).Fit N := by
  have hu := crashed_used keep hk0 hk1 (names s.l) s.l h.sound
  have h2 := h.used
  refine ⟨h.steps0, h.steps, by simp [DS.crash], h.room0, h.room, ?_, ?_, ?_, ?_⟩
  · simp only [DS.crash]
    omega
  · simp only [DS.crash]
    rw [crashed_keys]
    exact h.keys
  · simp only [DS.crash, crashed, List.length_map]
    exact h.many
  · intro p hp
    simp only [DS.crash, crashed, List.mem_map] at hp
    obtain ⟨q, hq, rfl⟩ := hp
    obtain ⟨a, b⟩ := h.sound q hq
    have := crashF_sound a b keep hk0 hk1 (place (names s.l) q.1)
    exact ⟨this.1, this.2.1⟩
end Go.Proofs.Ytoaegleieacokaa
