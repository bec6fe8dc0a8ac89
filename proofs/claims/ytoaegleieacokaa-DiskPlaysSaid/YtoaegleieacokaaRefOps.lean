/- The reference's disk: New, Used, step, Limit. -/
import Derived.Test.YtoaegleieacokaaRefDisk
namespace Go.Proofs.Ytoaegleieacokaa
open Go.RowKit Go.Shelf

theorem RefAt.fld {n : Nat} {X : List Nat} {w : World} {R : Nat} {v : Value} {s s' : DS} (h : RefAt n X w R v s) (j : Nat) (u : Value) (hs : s'.l = s.l) (hc : (#[.int .i64 s.room, v, .int .i64 s.steps, .int .i64 s.left] : Array Value).setIfInBounds j u = #[.int .i64 s'.room, v, .int .i64 s'.steps, .int .i64 s'.left]) : RefAt n X (w.setCell ⟨R, j, none⟩ u) R v s' :=
  ⟨by rw [← hc]; exact h.blk.set j u, by rw [hs]; exact ownsRow_setCell_other h.own h.ne u, h.hR, h.ne, h.RX, h.vX⟩
theorem Kp.set {n : Nat} {X : List Nat} {w w' : World} (h : Kp n X w w') {R : Nat} (hR : n ≤ R) (hX : R ∉ X) (j : Nat) (u : Value) : Kp n X w (w'.setCell ⟨R, j, none⟩ u) :=
  h.trans ⟨(Below.refl _ _).setCell (p := ⟨R, j, none⟩) hR _, fun b hb _ => Below.heap_setCell _ _ _ _ (fun e => hX (by simp only at e; rw [← e]; exact hb))⟩
set_option maxRecDepth 100000 in
set_option maxHeartbeats 1000000 in
theorem rnew_calls {n : Nat} {X : List Nat} (room : Int) (w : World) (hn : n ≤ w.heap.size) (hX : ∀ b ∈ X, b < w.heap.size) :
    Calls Try.prog 49 #[.int .i64 room] w fun e w' => ∃ R, e = .returned (.pointer (some ⟨R, 0, none⟩)) ∧ RefAt n X w' R (.slice none 0 0) (newDS room) ∧ w.heap.size ≤ R ∧ Below w.heap.size w w' := by
  have hm : max 0 (min room 1000000) = min (max room 0) 1000000 := by omega
  have hb := Blk.new w 130 #[.int .i64 (min (max room 0) 1000000), .slice none 0 0, .int .i64 0, .int .i64 (-1)]
  go_enter Try.func49, Try.ntmps49
  go_wp2
  go_ret
  refine ⟨w.heap.size, rfl, ⟨hb, World.ownsRow_nil _ _ _ _, hn, by simp [Value.ownBlock], fun hx => Nat.lt_irrefl _ (hX _ hx), fun b _ => by simp [Value.ownBlock]⟩, Nat.le_refl _, (Below.refl _ w).alloc (Nat.le_refl _) _⟩
set_option maxRecDepth 100000 in
set_option maxHeartbeats 1000000 in
theorem rstep_calls {n : Nat} {X : List Nat} {R : Nat} {v : Value} {s : DS} (hs : 0 ≤ s.steps ∧ s.steps < 4611686018427387904) (hl : s.left ≤ 9223372036854775807) (w : World) (h : RefAt n X w R v s) :
    Calls Try.prog 119 #[.pointer (some ⟨R, 0, none⟩)] w fun e w' => (∃ u, e = .returned u) ∧ RefAt n X w' R v s.counted ∧ Kp n X w w' := by
  have d2 : w.cell? ⟨R, 2, none⟩ = some (.int .i64 s.steps) := h.blk.cell 2
  have d3 : w.cell? ⟨R, 3, none⟩ = some (.int .i64 s.left) := h.blk.cell 3
  have f2 := h.blk.frozen 2
  have f3 := h.blk.frozen 3
  go_enter Try.func119, Try.ntmps119
  have e1 : RefAt n X (w.setCell ⟨R, 2, none⟩ (.int .i64 (s.steps + 1))) R v { s with steps := s.steps + 1 } := h.fld 2 _ rfl rfl
  have k1 := (Kp.refl n X w).set h.hR h.RX 2 (.int .i64 (s.steps + 1))
  obtain ⟨h1, h2⟩ := hs
  by_cases hp : 0 < s.left
  · go_wp2
    go_end0
    have hc : s.counted = { s with steps := s.steps + 1, left := s.left - 1 } := by unfold DS.counted; rw [if_pos hp]
    exact ⟨⟨_, rfl⟩, by rw [hc]; exact e1.fld 3 _ rfl rfl, k1.set h.hR h.RX 3 _⟩
  · go_wp2
    go_end0
    have hc : s.counted = { s with steps := s.steps + 1 } := by unfold DS.counted; rw [if_neg (by omega)]
    exact ⟨⟨_, rfl⟩, by rw [hc]; exact e1, k1⟩
set_option maxRecDepth 100000 in
set_option maxHeartbeats 1000000 in
theorem rlimit_calls {n : Nat} {X : List Nat} {R : Nat} {v : Value} {s : DS} (m : Int) (w : World) (h : RefAt n X w R v s) :
    Calls Try.prog 97 #[.pointer (some ⟨R, 0, none⟩), .int .i64 m] w fun e w' => (∃ u, e = .returned u) ∧ RefAt n X w' R v { s with left := max m 0 } ∧ Kp n X w w' := by
  have d3 : w.cell? ⟨R, 3, none⟩ = some (.int .i64 s.left) := h.blk.cell 3
  have f3 := h.blk.frozen 3
  go_enter Try.func97, Try.ntmps97
  have hd : ∀ u, max m 0 = u → RefAt n X (w.setCell ⟨R, 3, none⟩ (.int .i64 u)) R v { s with left := max m 0 } := by
    intro u e
    rw [e]
    exact h.fld 3 _ rfl rfl
  rcases Int.lt_or_le 0 m with h0 | h0
  all_goals
    go_wp2
    all_goals
      go_end0
      exact ⟨⟨_, rfl⟩, hd _ (by omega), (Kp.refl n X w).set h.hR h.RX 3 _⟩
theorem used_take (l : List (ByteArray × F)) (k : Nat) (hk : k < l.length) : used (l.take (k + 1)) = used (l.take k) + l[k].2.b.size := by
  unfold used
  rw [List.take_succ_eq_append_getElem hk, List.map_append, List.sum_append]
  simp
theorem used_take_le (l : List (ByteArray × F)) (k : Nat) : used (l.take k) ≤ used l := by
  conv => rhs; rw [← List.take_append_drop k l]
  unfold used
  rw [List.map_append, List.sum_append]
  omega
set_option maxRecDepth 100000 in
set_option maxHeartbeats 1000000 in
theorem rused_calls {n : Nat} {X : List Nat} {R : Nat} {v : Value} {s : DS} (hlen : s.l.length ≤ 1000000) (hu : used s.l ≤ 4611686018427387904) (w : World) (h : RefAt n X w R v s) :
    Calls Try.prog 100 #[.pointer (some ⟨R, 0, none⟩)] w fun e w' => e = .returned (.int .i64 (used s.l : Int)) ∧ w' = w := by
  have hc1 : w.cell? ⟨R, 1, none⟩ = some v := h.blk.cell 1
  have rd := Rd.of_owns h.own
  obtain ⟨a, c, rfl⟩ := Rd.val rd
  go_enter Try.func100, Try.ntmps100
  go_wp2_with fail
  go_loopw [3, 4] (fun m i wr => ∃ k : Nat, k ≤ s.l.length ∧ i = .int .i64 k ∧ m = .int .i64 (used (s.l.take k) : Int) ∧ wr = w) (fun _ i _ => s.l.length - (intOf i).toNat)
  case atStart => exact ⟨0, Nat.zero_le _, rfl, rfl, rfl⟩
  case round =>
    obtain ⟨k, hk, rfl, rfl, rfl⟩ := hrel
    by_cases hlt : k < s.l.length
    · obtain ⟨b, off, rfl, hb, hcp, hcs⟩ := rd.at (by omega)
      have d0 : wr.cell? ⟨b, off + k * 3 + 1, none⟩ = some (.string s.l[k].2.b) := by
        have := hcs (k * 3 + 1) (by omega)
        have e := filesCells_get s.l k 1 hlt (by omega)
        rw [← Nat.add_assoc] at this
        rw [this, e]
        rfl
      have hut := used_take s.l k hlt
      have hle := used_take_le s.l (k + 1)
      have hle2 : used (s.l.take k) + s.l[k].2.b.size ≤ 4611686018427387904 := by omega
      have HU := Lib.hid hut
      clear hut hle rd hcs
      generalize s.l[k].2.b = x at *
      go_wp2
      go_roundw
      case rel => exact ⟨k + 1, by omega, by simp, by rw [HU.out]; simp, trivial⟩
      case measure => simp [intOf]; omega
    · obtain rfl : k = s.l.length := by omega
      rw [List.take_length]
      go_wp2
      go_ret
      exact ⟨rfl, rfl⟩
end Go.Proofs.Ytoaegleieacokaa
