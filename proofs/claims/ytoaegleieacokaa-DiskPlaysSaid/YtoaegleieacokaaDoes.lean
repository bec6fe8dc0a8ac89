/- does: one step on both disks, whatever step. -/
import Derived.Test.YtoaegleieacokaaBoth
namespace Go.Proofs.Ytoaegleieacokaa
open Go.RowKit Go.Shelf

set_option maxRecDepth 100000 in
set_option maxHeartbeats 1000000 in
theorem does_limit {n : Nat} {W : World} {D M R : Nat} {X : List Nat} {r s : DS} {N : Int} (hf : s.Fin N) (hN : N < 4611686018427380000) (t : St) (hm : t.n ≤ 9223372036854775807) (h0 : t.what = 9) (w : World) (h : Both n W D M R X r s w) :
    Calls Try.prog 45 #[.pointer (some ⟨D, 0, none⟩), .pointer (some ⟨R, 0, none⟩), t.val] w fun e w' => e = .returned (.tuple #[.int .i64 0, .int .i64 0]) ∧ Both n W D M R X { r with left := max t.n 0 } { s with left := max t.n 0 } w' ∧ Kx X w w' := by
  have hfr := (fin_limit hf hm).ok (by omega)
  obtain ⟨s1, hs1⟩ : ∃ q, { s with left := max t.n 0 } = q := ⟨_, rfl⟩
  rw [hs1] at hfr ⊢
  obtain ⟨what, m, nm, to, b, keep⟩ := t
  simp only at h0 hs1 hm
  subst h0
  have hB0 : Below w.heap.size w (w.alloc (.cells #[.int .i64 9, .int .i64 m, .string nm, .string to, .string b, .int .u64 keep] 71)) := (Below.refl _ w).alloc (Nat.le_refl _) _
  have bF := Blk.new w 71 #[.int .i64 9, .int .i64 m, .string nm, .string to, .string b, .int .u64 keep]
  have h1' := h.next hB0
  have hX := h.xs
  have hFb : w.heap.size ∉ [D, M] := fun hm => Nat.lt_irrefl _ (hX _ (by simp at hm ⊢; rcases hm with hm | hm <;> simp [hm]))
  have HKx := Lib.hid fun w' (hk : Kx X _ w') => (h.kx hB0).trans hk
  have HM := Lib.hid hm
  clear hm
  unfold St.val
  go_enter Try.func45, Try.ntmps45
  go_wp2_with fail
  obtain ⟨v, hv0⟩ := h.rf
  have hv1 := hv0.more hB0 (Nat.le_refl _)
  clear hB0 h hv0
  generalize w.heap.size = Fb at *
  generalize w.alloc (.cells #[.int .i64 9, .int .i64 m, .string nm, .string to, .string b, .int .u64 keep] 71) = w0 at *
  refine (limit_dk hs1 hfr h1'.dk).mono ?_
  rintro e w5 ⟨⟨u, rfl⟩, h5, hC5⟩
  have q1 : w5.cell? ⟨Fb, 1, none⟩ = some (.int .i64 m) := hC5.cell hFb bF.lt (bF.cell 1)
  have hv5 := hv1.chgX hC5 (by simp)
  go_wp2_with fail
  refine (rlimit_calls m w5 hv5).mono ?_
  rintro e w6 ⟨⟨u2, rfl⟩, h6, hK6⟩
  have hend := both_end h1' h5 hC5 h6 hK6
  go_wp2
  go_ret2
  exact ⟨rfl, hend.1, HKx.out _ hend.2⟩
set_option maxRecDepth 100000 in
set_option maxHeartbeats 1000000 in
theorem does_crash {n : Nat} {W : World} {D M R : Nat} {X : List Nat} {r s : DS} {N : Int} (hb : Br r s) (hf : s.Fin N) (hN : N < 4611686018427380000) (t : St) (hk0 : 0 ≤ t.keep) (hk1 : t.keep < 18446744073709551616) (h0 : 9 < t.what) (w : World) (h : Both n W D M R X r s w) :
    Calls Try.prog 45 #[.pointer (some ⟨D, 0, none⟩), .pointer (some ⟨R, 0, none⟩), t.val] w fun e w' => e = .returned (.tuple #[.int .i64 0, .int .i64 0]) ∧ Both n W D M R X (r.rcrash t.keep) (s.crash t.keep) w' ∧ Kx X w w' := by
  have ok := hb.ok hf hN
  have hfr := (fin_crash hf t.keep hk0 hk1).ok (by omega)
  obtain ⟨s1, hs1⟩ : ∃ q, s.crash t.keep = q := ⟨_, rfl⟩
  rw [hs1] at hfr ⊢
  obtain ⟨what, m, nm, to, b, keep⟩ := t
  simp only at h0 hs1 hk0 hk1
  have hw0 : ¬ what ≤ 0 := by omega
  have hw3 : ¬ what ≤ 3 := by omega
  have hw5 : ¬ what ≤ 5 := by omega
  have hw6 : (what == 6) = false := beq_eq_false_iff_ne.2 (by omega)
  have hw7 : (what == 7) = false := beq_eq_false_iff_ne.2 (by omega)
  have hw8 : (what == 8) = false := beq_eq_false_iff_ne.2 (by omega)
  have hw9 : (what == 9) = false := beq_eq_false_iff_ne.2 (by omega)
  have hB0 : Below w.heap.size w (w.alloc (.cells #[.int .i64 what, .int .i64 m, .string nm, .string to, .string b, .int .u64 keep] 71)) := (Below.refl _ w).alloc (Nat.le_refl _) _
  have bF := Blk.new w 71 #[.int .i64 what, .int .i64 m, .string nm, .string to, .string b, .int .u64 keep]
  have h1' := h.next hB0
  have hX := h.xs
  have hFb : w.heap.size ∉ [D, M] := fun hm => Nat.lt_irrefl _ (hX _ (by simp at hm ⊢; rcases hm with hm | hm <;> simp [hm]))
  have HKx := Lib.hid fun w' (hk : Kx X _ w') => (h.kx hB0).trans hk
  have hlen : s.l.length ≤ 1000000 := by have := hf.many; omega
  have hcr := crash_dk hk0 hk1 hlen hf.fok hs1 hfr h1'.dk
  have hrc := fun (v : Value) (w5 : World) (hv5 : RefAt n (w.heap.size :: D :: M :: X) w5 R v r) => rcrash_calls ok.len ok.sound keep hk0 hk1 w5 hv5
  have HR := Lib.hid hrc
  clear hk0 hk1 hrc
  unfold St.val
  go_enter Try.func45, Try.ntmps45
  go_wp2_with fail
  obtain ⟨v, hv0⟩ := h.rf
  have hv1 := hv0.more hB0 (Nat.le_refl _)
  clear hB0 h hv0
  generalize w.heap.size = Fb at *
  generalize w.alloc (.cells #[.int .i64 what, .int .i64 m, .string nm, .string to, .string b, .int .u64 keep] 71) = w0 at *
  refine hcr.mono ?_
  clear hcr
  rintro e w5 ⟨⟨u, rfl⟩, h5, hC5⟩
  have q1 : w5.cell? ⟨Fb, 5, none⟩ = some (.int .u64 keep) := hC5.cell hFb bF.lt (bF.cell 5)
  have hv5 := hv1.chgX hC5 (by simp)
  go_wp2_with fail
  refine (HR.out v w5 hv5).mono ?_
  rintro e w6 ⟨⟨u2, rfl⟩, h6, hK6⟩
  have hend := both_end h1' h5 hC5 h6 hK6
  go_wp2
  go_ret2
  exact ⟨rfl, hend.1, HKx.out _ hend.2⟩
/-- A step that may be taken. -/
structure St.Ok (t : St) : Prop where
  n : t.n ≤ 9223372036854775807
  k0 : 0 ≤ t.keep
  k1 : t.keep < 18446744073709551616
  b : t.b.size ≤ 1099511627776
theorem does_calls {n : Nat} {W : World} {D M R : Nat} {X : List Nat} {r s : DS} {N : Int} (hb : Br r s) (hf : s.Fin N) (hN : N < 4611686018427380000) (t : St) (ht : t.Ok) (w : World) (h : Both n W D M R X r s w) :
    Calls Try.prog 45 #[.pointer (some ⟨D, 0, none⟩), .pointer (some ⟨R, 0, none⟩), t.val] w fun e w' => e = .returned (.tuple #[.int .i64 (s.does t).1, .int .i64 (s.does t).1]) ∧ Both n W D M R X (r.rdoes t).2 (s.does t).2 w' ∧ Kx X w w' := by
  have he := (br_does hb t).1
  suffices hs : Calls Try.prog 45 #[.pointer (some ⟨D, 0, none⟩), .pointer (some ⟨R, 0, none⟩), t.val] w fun e w' => e = .returned (.tuple #[.int .i64 (s.does t).1, .int .i64 (r.rdoes t).1]) ∧ Both n W D M R X (r.rdoes t).2 (s.does t).2 w' ∧ Kx X w w' by
    rw [he] at hs
    exact hs
  clear he
  unfold DS.rdoes DS.does
  by_cases h0 : t.what ≤ 0
  · rw [if_pos h0, if_pos h0]; exact does_create hb hf hN t h0 w h
  rw [if_neg h0, if_neg h0]
  by_cases h1 : t.what ≤ 3
  · rw [if_pos h1, if_pos h1]; exact does_append hb hf hN t (by omega) h1 ht.b w h
  rw [if_neg h1, if_neg h1]
  by_cases h2 : t.what ≤ 5
  · rw [if_pos h2, if_pos h2]; exact does_sync hb hf hN t (by omega) h2 w h
  rw [if_neg h2, if_neg h2]
  by_cases h3 : t.what = 6
  · rw [if_pos h3, if_pos h3]; exact does_rename hb hf hN t h3 w h
  rw [if_neg h3, if_neg h3]
  by_cases h4 : t.what = 7
  · rw [if_pos h4, if_pos h4]; exact does_remove hb hf hN t h4 w h
  rw [if_neg h4, if_neg h4]
  by_cases h5 : t.what = 8
  · rw [if_pos h5, if_pos h5]; exact does_cut hb hf hN t h5 w h
  rw [if_neg h5, if_neg h5]
  by_cases h6 : t.what = 9
  · rw [if_pos h6, if_pos h6]; exact does_limit hf hN t ht.n h6 w h
  rw [if_neg h6, if_neg h6]
  exact does_crash hb hf hN t ht.k0 ht.k1 (by omega) w h
end Go.Proofs.Ytoaegleieacokaa
