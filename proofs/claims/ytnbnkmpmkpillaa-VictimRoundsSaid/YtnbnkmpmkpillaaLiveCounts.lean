/- live.Counts tells how many spots lie in each of some segments: for every slice of spots, of at most a million, and of segments, likewise. -/
import Derived.Test.YtnbnkmpmkpillaaLiveCount
import Derived.LoopN
namespace Go.Proofs.Ytnbnkmpmkpillaa
open Go.RowKit Go.Shelf
theorem infoInt : (Try.prog.info? 3).map (fun i => (i.zero, i.size, i.bytes)) = some (some (.int .i64 0), 1, 8) := by kernel_rfl
def cnt (xs : List Spot) (s : Int) : Int := ((flt s xs).length : Int)

set_option maxRecDepth 100000 in
set_option maxHeartbeats 2000000 in
theorem counts_calls (c c' : Nat) (a a' : Option Addr) (xs : List Spot) (ss : List Int) (hreach : xs.length ≤ 1000000) (hreach' : ss.length ≤ 1000000) (w : World) (hc : Spots w w.heap.size (.slice a xs.length c) xs) (hs : Ints w w.heap.size (.slice a' ss.length c') ss) :
    Calls Try.prog 10 #[.slice a xs.length c, .slice a' ss.length c'] w fun e w' => ∃ v, e = .returned v ∧ w'.ownsRow w.heap.size 3 1 v ss.length ((ss.map (cnt xs)).map (Value.int .i64)) ∧ Below w.heap.size w w' := by
  obtain ⟨i0, hi, hz0, hz1, hz2⟩ := info_parts infoInt
  go_enter Try.func10, Try.ntmps10
  go_wp2
  go_loopw [5, 10] (fun v i wr => ∃ k : Nat, k ≤ ss.length ∧ i = .int .i64 k ∧ wr.ownsRow w.heap.size 3 1 v k (((ss.take k).map (cnt xs)).map (Value.int .i64)) ∧ Below w.heap.size w wr)
    (fun _ i _ => ss.length - (intOf i).toNat)
  case atStart => exact ⟨0, Nat.zero_le _, rfl, by simpa using World.ownsRow_nil _ _ _ _, Below.refl _ _⟩
  case round =>
    obtain ⟨k, hk, rfl, hown, hB⟩ := hrel
    have hc2 := hc.below hB (Nat.le_refl _)
    by_cases hlt : k < ss.length
    · obtain ⟨b, off, rfl, hb, hcs⟩ := (hs.below hB (Nat.le_refl _)).cell (by omega)
      have d0 := hcs k hlt
      have hk1 : ss.take (k + 1) = ss.take k ++ [ss[k]] := List.take_succ_eq_append_getElem hlt
      generalize ss[k] = s at *
      have Hk := Lib.hid hk1
      clear hk1 hcs hc
      go_wp2_with (first | (go_at_call 14; refine (count_calls c a s xs hreach _ (hc2.up hB.size)).mono ?_; rintro e w2 ⟨rfl, hb2⟩; have hown2 := owns_below hown hb2) | (at_builtin; refine wpList_append_own _ rfl _ _ 23 rfl w.heap.size 3 i0 _ 1 8 Try.underlying23 hi hz0 hz1 hz2 rfl (by decide) _ _ _ rfl (hown2.alloc _) ⟨w2.heap.size, 0, none⟩ 1 1 [.int .i64 (cnt xs s)] rfl rfl (cells_new _ _ _) (by simp [Value.oneCell']) (by unfold maxLen; omega) (by omega) (by have := hB.size; have := hb2.size; simp; omega) ?_; intro v' w1 hown' hgrow _))
      go_roundw
      case rel => exact ⟨k + 1, by omega, by simp, by rw [Hk.out]; simpa using hown', below_append (hB.trans (hb2.mono hB.size)) (Nat.le_trans hB.size hb2.size) hown2 hgrow⟩
      case measure => simp [intOf]; omega
    · obtain rfl : k = ss.length := by omega
      go_wp2
      go_ret
      exact ⟨_, rfl, by simpa using hown, hB⟩

end Go.Proofs.Ytnbnkmpmkpillaa
