/- The reference's disk: Rename. -/
import Derived.Test.YtoaegleieacokaaRefRead8
namespace Go.Proofs.Ytoaegleieacokaa
open Go.RowKit Go.Shelf

theorem RefAt.more {n : Nat} {X : List Nat} {w w' : World} {R : Nat} {v : Value} {s : DS} (h : RefAt n X w R v s) (hb : Below w.heap.size w w') {F : Nat} (hF : w.heap.size ≤ F) : RefAt n (F :: X) w' R v s := by
  have hR := h.blk.lt
  have h2 := h.next hb
  refine ⟨h2.blk, h2.own, h2.hR, h2.ne, fun hx => ?_, fun b hx e => ?_⟩
  · rcases List.mem_cons.1 hx with rfl | hx
    · omega
    · exact h.RX hx
  · rcases List.mem_cons.1 hx with rfl | hx
    · have := (h.own.lt _ e).2; omega
    · exact h.vX b hx e
theorem RefAt.less {n : Nat} {X : List Nat} {w : World} {R F : Nat} {v : Value} {s : DS} (h : RefAt n (F :: X) w R v s) : RefAt n X w R v s := ⟨h.blk, h.own, h.hR, h.ne, fun hx => h.RX (by simp [hx]), fun b hx => h.vX b (by simp [hx])⟩
theorem Kp.less {n F : Nat} {X : List Nat} {w w' : World} (h : Kp n (F :: X) w w') : Kp n X w w' := ⟨h.below, fun b hb => h.keep b (by simp [hb])⟩
def DS.rrename (s : DS) (nm to : ByteArray) : Int × DS :=
  if s.left = 0 then (18, s) else if atI s.l nm < 0 then (19, s) else (0, { s with l := insL (to, ⟨(fileI s.l nm).b, (fileI s.l nm).b.size⟩) (fdl (fdl s.l nm) to) }.counted)
set_option maxRecDepth 100000 in
set_option maxHeartbeats 1000000 in
theorem rrename_calls {n : Nat} {X : List Nat} {R : Nat} {v : Value} {s : DS} (hst : 0 ≤ s.steps ∧ s.steps < 4611686018427387904) (hl : s.left ≤ 9223372036854775807) (hlen : s.l.length ≤ 1000000) (nm to : ByteArray) (w : World) (hX : ∀ b ∈ X, b < w.heap.size) (h : RefAt n X w R v s) :
    Calls Try.prog 94 #[.pointer (some ⟨R, 0, none⟩), .string nm, .string to] w fun e w' => e = .returned (.int .i64 (s.rrename nm to).1) ∧ ∃ v', RefAt n X w' R v' (s.rrename nm to).2 ∧ Kp n X w w' := by
  have d3 : w.cell? ⟨R, 3, none⟩ = some (.int .i64 s.left) := h.blk.cell 3
  have d1 : w.cell? ⟨R, 1, none⟩ = some v := h.blk.cell 1
  have hat := rat_calls hlen nm w h
  have hE : s.rrename nm to = if s.left = 0 then (18, s) else if atI s.l nm < 0 then (19, s) else (0, { s with l := insL (to, ⟨(fileI s.l nm).b, (fileI s.l nm).b.size⟩) (fdl (fdl s.l nm) to) }.counted) := rfl
  have HE := Lib.hid hE
  clear hE
  go_enter Try.func94, Try.ntmps94
  by_cases h0 : s.left = 0
  · have hb : (s.left == 0) = true := by simp [h0]
    go_wp2_with fail
    refine hat.mono ?_
    clear hat
    rintro e w1 ⟨rfl, rfl⟩
    go_wp2
    go_ret
    rw [HE.out, if_pos h0]
    refine ⟨rfl, ?_⟩; first | exact ⟨_, h, Kp.refl _ _ _⟩ | exact ⟨⟨_, h⟩, Kp.refl _ _ _⟩
  have hb : (s.left == 0) = false := by simp [h0]
  by_cases h1 : atI s.l nm < 0
  · go_wp2_with fail
    refine hat.mono ?_
    clear hat
    rintro e w1 ⟨rfl, rfl⟩
    go_wp2
    go_ret
    rw [HE.out, if_neg h0, if_pos h1]
    refine ⟨rfl, ?_⟩; first | exact ⟨_, h, Kp.refl _ _ _⟩ | exact ⟨⟨_, h⟩, Kp.refl _ _ _⟩
  rw [if_neg h0, if_neg h1] at HE
  obtain ⟨i, hi, hil, hnm⟩ := atI_at h1
  obtain ⟨g, c, rfl⟩ := h.row (by omega)
  have c0 := h.own.cellAt (i * 3 + 0) (by omega)
  rw [filesCells_get s.l i 0 hil (by omega)] at c0
  have c1 := h.own.cellAt (i * 3 + 1) (by omega)
  rw [filesCells_get s.l i 1 hil (by omega)] at c1
  have c2 := h.own.cellAt (i * 3 + 2) (by omega)
  rw [filesCells_get s.l i 2 hil (by omega)] at c2
  simp only [fileCells, List.getElem?_cons_succ, List.getElem?_cons_zero, Nat.add_zero] at c0 c1 c2
  have hfi : fileI s.l nm = s.l[i].2 := by simp [fileI, hi, hil]
  rw [hfi] at HE
  rw [hi] at hat
  clear h1 hfi hnm
  generalize s.l[i].1 = A at *
  generalize s.l[i].2.b = B at *
  generalize s.l[i].2.k = K at *
  go_wp2_with fail
  refine hat.mono ?_
  clear hat
  rintro e w1 ⟨rfl, rfl⟩
  have hn : n ≤ w1.heap.size := Nat.le_trans h.hR (Nat.le_of_lt h.blk.lt)
  have bF := Blk.new w1 65 #[.string to, .string B, .int .i64 (B.size : Int)]
  have hB2 : Below w1.heap.size w1 (w1.alloc (.cells #[.string to, .string B, .int .i64 (B.size : Int)] 65)) := (Below.refl _ w1).alloc (Nat.le_refl _) _
  have hm := h.more hB2 (Nat.le_refl _)
  have hX2 : ∀ b ∈ w1.heap.size :: X, b < (w1.alloc (.cells #[.string to, .string B, .int .i64 (B.size : Int)] 65)).heap.size := by
    intro b hb'
    rw [World.size_alloc]
    rcases List.mem_cons.1 hb' with rfl | hb'
    · omega
    · have := hX b hb'; omega
  have kp2 : Kp n X w1 (w1.alloc (.cells #[.string to, .string B, .int .i64 (B.size : Int)] 65)) := Kp.of_below hB2 hn (Nat.le_refl _)
  go_wp2_with fail
  clear c0 c1 c2 d1 d3 h
  generalize w1.alloc (.cells #[.string to, .string B, .int .i64 (B.size : Int)] 65) = W2 at *
  refine (rgone_calls hlen nm W2 (Nat.le_trans hn hB2.size) hX2 hm).mono ?_
  rintro e W3 ⟨⟨u, rfl⟩, v3, h3, k3⟩
  have hs3 := k3.below.size
  have hX3 : ∀ b ∈ w1.heap.size :: X, b < W3.heap.size := fun b hb' => Nat.lt_of_lt_of_le (hX2 b hb') hs3
  have hn3 : n ≤ W3.heap.size := Nat.le_trans (Nat.le_trans hn hB2.size) hs3
  have bF3 : Blk W3 w1.heap.size 65 #[.string to, .string B, .int .i64 (B.size : Int)] := (k3.keep _ (by simp) bF.lt).trans bF
  have hl3 : (fdl s.l nm).length ≤ 1000000 := by unfold fdl; exact Nat.le_trans (List.length_filter_le _ _) hlen
  have hg2 := rgone_calls (s := { s with l := fdl s.l nm }) hl3 to W3 hn3 hX3 h3
  clear h3 hm
  go_wp2_with fail
  refine hg2.mono ?_
  clear hg2
  rintro e W4 ⟨⟨u, rfl⟩, v4, h4, k4⟩
  have hs4 := k4.below.size
  have hX4 : ∀ b ∈ w1.heap.size :: X, b < W4.heap.size := fun b hb' => Nat.lt_of_lt_of_le (hX3 b hb') hs4
  have hn4 : n ≤ W4.heap.size := Nat.le_trans hn3 hs4
  have bF4 : Blk W4 w1.heap.size 65 #[.string to, .string B, .int .i64 (B.size : Int)] := (k4.keep _ (by simp) bF3.lt).trans bF3
  have hl4 : (fdl (fdl s.l nm) to).length ≤ 1000000 := by unfold fdl at hl3 ⊢; exact Nat.le_trans (List.length_filter_le _ _) hl3
  have e0 : W4.cell? ⟨w1.heap.size, 0, none⟩ = some (.string to) := bF4.cell 0
  have e1 : W4.cell? ⟨w1.heap.size, 1, none⟩ = some (.string B) := bF4.cell 1
  have e2 : W4.cell? ⟨w1.heap.size, 2, none⟩ = some (.int .i64 (B.size : Int)) := bF4.cell 2
  have hg3 := radd_calls (s := { s with l := fdl (fdl s.l nm) to }) hl4 (to, ⟨B, B.size⟩) W4 hn4 hX4 h4
  clear h4
  go_wp2_with fail
  refine hg3.mono ?_
  clear hg3
  rintro e W5 ⟨⟨u, rfl⟩, v5, h5, k5⟩
  have hstep := rstep_calls (s := { s with l := insL (to, ⟨B, B.size⟩) (fdl (fdl s.l nm) to) }) hst hl W5 h5.less
  have kk := ((kp2.trans k3.less).trans k4.less).trans k5.less
  clear h5
  go_wp2_with fail
  refine hstep.mono ?_
  clear hstep
  rintro e W6 ⟨⟨u, rfl⟩, h6, k6⟩
  go_wp2
  go_ret
  rw [HE.out]
  refine ⟨rfl, ?_⟩; first | exact ⟨_, h6, kk.trans k6⟩ | exact ⟨⟨_, h6⟩, kk.trans k6⟩
end Go.Proofs.Ytoaegleieacokaa
