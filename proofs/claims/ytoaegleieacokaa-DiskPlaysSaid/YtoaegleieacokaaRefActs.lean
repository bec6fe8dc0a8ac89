/- The reference's disk: Create, Remove. -/
import Derived.Test.YtoaegleieacokaaRefAdd
namespace Go.Proofs.Ytoaegleieacokaa
open Go.RowKit Go.Shelf

def DS.rcreate (s : DS) (nm : ByteArray) : Int × DS :=
  if s.left = 0 then (18, s) else if 0 ≤ atI s.l nm then (20, s) else if 1000 ≤ s.l.length then (17, s) else (0, { s with l := insL (nm, ⟨⟨#[]⟩, 0⟩) s.l }.counted)
def DS.rremove (s : DS) (nm : ByteArray) : Int × DS :=
  if s.left = 0 then (18, s) else if atI s.l nm < 0 then (19, s) else (0, { s with l := fdl s.l nm }.counted)
set_option maxRecDepth 100000 in
set_option maxHeartbeats 1000000 in
theorem rcreate_calls {n : Nat} {X : List Nat} {R : Nat} {v : Value} {s : DS} (hst : 0 ≤ s.steps ∧ s.steps < 4611686018427387904) (hl : s.left ≤ 9223372036854775807) (hlen : s.l.length ≤ 1000000) (nm : ByteArray) (w : World) (hn : n ≤ w.heap.size) (hX : ∀ b ∈ X, b < w.heap.size) (h : RefAt n X w R v s) :
    Calls Try.prog 91 #[.pointer (some ⟨R, 0, none⟩), .string nm] w fun e w' => e = .returned (.int .i64 (s.rcreate nm).1) ∧ ∃ v', RefAt n X w' R v' (s.rcreate nm).2 ∧ Kp n X w w' := by
  have d3 : w.cell? ⟨R, 3, none⟩ = some (.int .i64 s.left) := h.blk.cell 3
  have d1 : w.cell? ⟨R, 1, none⟩ = some v := h.blk.cell 1
  obtain ⟨a, c, rfl⟩ := Rd.val (Rd.of_owns h.own)
  have hat := rat_calls hlen nm w h
  have hadd := radd_calls hlen (nm, ⟨⟨#[]⟩, 0⟩) w hn hX h
  have hE : s.rcreate nm = if s.left = 0 then (18, s) else if 0 ≤ atI s.l nm then (20, s) else if 1000 ≤ s.l.length then (17, s) else (0, { s with l := insL (nm, ⟨⟨#[]⟩, 0⟩) s.l }.counted) := rfl
  have HE := Lib.hid hE
  clear hE
  go_enter Try.func91, Try.ntmps91
  by_cases h0 : s.left = 0
  · have hb : (s.left == 0) = true := by simp [h0]
    go_wp2
    go_ret
    rw [HE.out, if_pos h0]
    refine ⟨rfl, ?_⟩; first | exact ⟨_, h, Kp.refl _ _ _⟩ | exact ⟨⟨_, h⟩, Kp.refl _ _ _⟩
  have hb : (s.left == 0) = false := by simp [h0]
  by_cases h1 : 0 ≤ atI s.l nm
  · go_wp2_with fail
    refine hat.mono ?_
    clear hat hadd
    rintro e w1 ⟨rfl, rfl⟩
    go_wp2
    go_ret
    rw [HE.out, if_neg h0, if_pos h1]
    refine ⟨rfl, ?_⟩; first | exact ⟨_, h, Kp.refl _ _ _⟩ | exact ⟨⟨_, h⟩, Kp.refl _ _ _⟩
  by_cases h2 : 1000 ≤ s.l.length
  · go_wp2_with fail
    refine hat.mono ?_
    clear hat hadd
    rintro e w1 ⟨rfl, rfl⟩
    go_wp2
    go_ret
    rw [HE.out, if_neg h0, if_neg (show ¬ 0 ≤ atI s.l nm by omega), if_pos h2]
    refine ⟨rfl, ?_⟩; first | exact ⟨_, h, Kp.refl _ _ _⟩ | exact ⟨⟨_, h⟩, Kp.refl _ _ _⟩
  rw [if_neg h0, if_neg (show ¬ 0 ≤ atI s.l nm by omega), if_neg (show ¬ 1000 ≤ s.l.length by omega)] at HE
  go_wp2_with fail
  refine hat.mono ?_
  clear hat
  rintro e w1 ⟨rfl, rfl⟩
  go_wp2_with fail
  refine hadd.mono ?_
  clear hadd
  rintro e w2 ⟨⟨u, rfl⟩, v2, h2', k2⟩
  have hstep := rstep_calls (s := { s with l := insL (nm, ⟨⟨#[]⟩, 0⟩) s.l }) hst hl w2 h2'
  go_wp2_with fail
  refine hstep.mono ?_
  clear hstep
  rintro e w3 ⟨⟨u, rfl⟩, h3, k3⟩
  go_wp2
  go_ret
  rw [HE.out]
  refine ⟨rfl, ?_⟩; first | exact ⟨_, h3, k2.trans k3⟩ | exact ⟨⟨_, h3⟩, k2.trans k3⟩
set_option maxRecDepth 100000 in
set_option maxHeartbeats 1000000 in
theorem rremove_calls {n : Nat} {X : List Nat} {R : Nat} {v : Value} {s : DS} (hst : 0 ≤ s.steps ∧ s.steps < 4611686018427387904) (hl : s.left ≤ 9223372036854775807) (hlen : s.l.length ≤ 1000000) (nm : ByteArray) (w : World) (hn : n ≤ w.heap.size) (hX : ∀ b ∈ X, b < w.heap.size) (h : RefAt n X w R v s) :
    Calls Try.prog 95 #[.pointer (some ⟨R, 0, none⟩), .string nm] w fun e w' => e = .returned (.int .i64 (s.rremove nm).1) ∧ ∃ v', RefAt n X w' R v' (s.rremove nm).2 ∧ Kp n X w w' := by
  have d3 : w.cell? ⟨R, 3, none⟩ = some (.int .i64 s.left) := h.blk.cell 3
  have hat := rat_calls hlen nm w h
  have hgo := rgone_calls hlen nm w hn hX h
  have hE : s.rremove nm = if s.left = 0 then (18, s) else if atI s.l nm < 0 then (19, s) else (0, { s with l := fdl s.l nm }.counted) := rfl
  have HE := Lib.hid hE
  clear hE
  go_enter Try.func95, Try.ntmps95
  by_cases h0 : s.left = 0
  · have hb : (s.left == 0) = true := by simp [h0]
    go_wp2
    go_ret
    rw [HE.out, if_pos h0]
    refine ⟨rfl, ?_⟩; first | exact ⟨_, h, Kp.refl _ _ _⟩ | exact ⟨⟨_, h⟩, Kp.refl _ _ _⟩
  have hb : (s.left == 0) = false := by simp [h0]
  by_cases h1 : atI s.l nm < 0
  · go_wp2_with fail
    refine hat.mono ?_
    clear hat hgo
    rintro e w1 ⟨rfl, rfl⟩
    go_wp2
    go_ret
    rw [HE.out, if_neg h0, if_pos h1]
    refine ⟨rfl, ?_⟩; first | exact ⟨_, h, Kp.refl _ _ _⟩ | exact ⟨⟨_, h⟩, Kp.refl _ _ _⟩
  rw [if_neg h0, if_neg h1] at HE
  go_wp2_with fail
  refine hat.mono ?_
  clear hat
  rintro e w1 ⟨rfl, rfl⟩
  go_wp2_with fail
  refine hgo.mono ?_
  clear hgo
  rintro e w2 ⟨⟨u, rfl⟩, v2, h2', k2⟩
  have hstep := rstep_calls (s := { s with l := fdl s.l nm }) hst hl w2 h2'
  go_wp2_with fail
  refine hstep.mono ?_
  clear hstep
  rintro e w3 ⟨⟨u, rfl⟩, h3, k3⟩
  go_wp2
  go_ret
  rw [HE.out]
  refine ⟨rfl, ?_⟩; first | exact ⟨_, h3, k2.trans k3⟩ | exact ⟨⟨_, h3⟩, k2.trans k3⟩
end Go.Proofs.Ytoaegleieacokaa
