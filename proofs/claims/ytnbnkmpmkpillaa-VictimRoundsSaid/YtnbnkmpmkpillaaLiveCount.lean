/- live.Count and live.Counts tell how many spots lie in a segment, in each of some segments: for every slice of spots, of at most a million. -/
import Derived.Test.YtnbnkmpmkpillaaLiveIn
namespace Go.Proofs.Ytnbnkmpmkpillaa
open Go.RowKit Go.Shelf
attribute [local go_sem] Oper.semAt_some

set_option maxRecDepth 100000 in
set_option maxHeartbeats 2000000 in
theorem count_calls (c : Nat) (a : Option Addr) (seg : Int) (xs : List Spot) (hreach : xs.length ≤ 1000000) (w : World) (hc : Spots w w.heap.size (.slice a xs.length c) xs) :
    Calls Try.prog 14 #[.slice a xs.length c, .int .i64 seg] w fun e w' => e = .returned (.int .i64 ((flt seg xs).length : Int)) ∧ Below w.heap.size w w' := by
  refine (callsIn_wide (n := 4)).1 ?_
  refine callsIn_of_wp_marks Try.func14 rfl trivial ?_ rfl
  simp only [Try.ntmps14, List.size_toArray, List.length_cons, List.length_nil, Nat.reduceAdd, Nat.reduceSub, Array.replicate_succ, Array.replicate_zero, List.push_toArray, List.append_toArray, List.nil_append, List.cons_append]
  have hfl : (flt seg xs).length ≤ xs.length := List.length_filter_le _ _
  gi_wp2_with (refine ⟨trivial, ?_⟩; gi_at_call 23; refine (callsIn_wide.2 (in_calls a xs.length c seg _)).mono ?_; rintro e w' ⟨rfl, rfl⟩)
  have bN := Boxed.new w 3 (.int .i64 0)
  have bS := Boxed.new (w.alloc (.cells #[.int .i64 0] 3)) 22 (.slice a xs.length c)
  have bG := Boxed.new ((w.alloc (.cells #[.int .i64 0] 3)).alloc (.cells #[.slice a xs.length c] 22)) 3 (.int .i64 seg)
  simp only [World.size_alloc] at bS bG
  have hB0 : Below w.heap.size w (((w.alloc (.cells #[.int .i64 0] 3)).alloc (.cells #[.slice a xs.length c] 22)).alloc (.cells #[.int .i64 seg] 3)) := (((Below.refl _ w).alloc (Nat.le_refl _) _).alloc (by simp) _).alloc (by simp; omega) _
  refine wpIn_rangeFunc_ownG rfl (by omega) (gf := 26) (lb := #[.pointer (some ⟨w.heap.size + 1, 0, none⟩), .pointer (some ⟨w.heap.size + 1 + 1, 0, none⟩)]) rfl trivial (enters_of Try.func26 (by kernel_rfl) rfl)
    (in_stops 3 (by omega) (w.heap.size + 1) (w.heap.size + 1 + 1) w.heap.size c a seg xs hreach _ (bS.alloc _).cell bG.cell (by simp) (by simp) (by simp; omega) (hc.below hB0 (Nat.le_refl _)))
    (fun h k => Keep.trans h k) (keep_b (by simp; omega) (by simp)) (Below.refl _ _) (fun _ => rfl)
    (fun pre W => Boxed W w.heap.size 3 (.int .i64 (pre.length : Int)) ∧ Below w.heap.size w W)
    (fun _ _ _ => False)
    (OwnFrom.and (Own.from (boxed_own _ _ _) _) (ownFrom_below (Nat.le_refl _) (by simp; omega)))
    (fun _ _ _ _ _ hs _ _ => hs)
    ⟨(bN.alloc _).alloc _, hB0⟩
    ?a1 ?assign ?body ?done ?stop
  case assign =>
    intro l x W K hK
    gi_wp2
    exact hK
  case body =>
    rintro l pre x W ⟨hb, hB⟩ hlt
    have hc0 := hb.cell
    have hf0 := hb.frozen
    gi_wp2
    exact ⟨(KeepsOthers.setCell _ _ _).from _, (Keep.refl _ _ _).setCell (p := ⟨w.heap.size, 0, none⟩) (Nat.le_refl _) (by simp; omega) _, by simpa using hb.set _, hB.setCell (p := ⟨w.heap.size, 0, none⟩) (Nat.le_refl _) _⟩
  case done =>
    rintro D ys W hD rfl ⟨hb, hB⟩ hK
    have hc0 := hb.cell
    gi_wp2
    refine ⟨by simp, .inl ⟨_, _, rfl, run_takeDeferred hK, ?_⟩⟩
    exact ⟨_, results_tmp rfl _ _ _, rfl, hB.trans (belowK_b (w := w) (Nat.le_refl _) W D _ _ (by simp at hD; omega) hK rfl rfl)⟩
  case stop =>
    rintro D c pre W _ _ h _
    exact h.elim
end Go.Proofs.Ytnbnkmpmkpillaa
