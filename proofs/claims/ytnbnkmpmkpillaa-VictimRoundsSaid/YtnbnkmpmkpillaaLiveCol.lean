/- slices.AppendSeq and slices.Collect over an iterator of spots; live.In: for every slice of spots, of at most a million. -/
import Derived.Test.YtnbnkmpmkpillaaLiveIn
namespace Go.Proofs.Ytnbnkmpmkpillaa
open Go.RowKit Go.Shelf
attribute [local go_sem] Oper.semAt_some Spot.val
theorem infoSpot : (Try.prog.info? 33).map (fun i => (i.zero, i.size, i.bytes)) = some (some (.agg #[.int .i64 0, .int .i64 0, .int .i64 0, .int .i64 0]), 4, 32) := by kernel_rfl
theorem cellsOf_snoc (l : List Spot) (x : Spot) : cellsOf (l ++ [x]) = cellsOf l ++ x.cells := by simp [cellsOf]

set_option maxRecDepth 100000 in
set_option maxHeartbeats 2000000 in
theorem appendSeq_calls (gf : Nat) (lb : Array Value) (n₀ : Nat) (bs : List Nat) (Sp : List Spot → Prop) (xs : List Spot) (w : World) (hx : xs.length ≤ 1000000)
    (hn₀ : n₀ ≤ w.heap.size) (hbs : ∀ b, b ∈ bs → b < w.heap.size) (eg : ∀ args w, (callFunc gf args).run Try.prog w = .ok (.enter gf args) w)
    (hseq : SeqStopsK Fence.wide 3 Try.prog gf lb (fun x : Spot => #[x.val]) (Keep n₀ bs) (fun ys => ys = xs) Sp xs.length w) :
    Calls Try.prog 25 #[.slice none 0 0, .func (.func gf) #[] lb] w fun e w' => ∃ v, e = .returned v ∧ w'.ownsRow w.heap.size 33 4 v xs.length (cellsOf xs) ∧ Below w.heap.size w w' := by
  obtain ⟨i0, hi, hz0, hz1, hz2⟩ := info_parts infoSpot
  refine (callsIn_wide (n := 4)).1 ?_
  refine callsIn_of_wp_marks Try.func25 rfl trivial ?_ rfl
  simp only [Try.ntmps25, List.size_toArray, List.length_cons, List.length_nil, Nat.reduceAdd, Nat.reduceSub, Array.replicate_succ, Array.replicate_zero, List.push_toArray, List.append_toArray, List.nil_append, List.cons_append]
  gi_wp2
  have bS := Boxed.new w 22 (.slice none 0 0)
  have hB0 : Below w.heap.size w (w.alloc (.cells #[.slice none 0 0] 22)) := (Below.refl _ w).alloc (Nat.le_refl _) _
  refine wpIn_rangeFunc_ownH rfl (by omega) (gf := gf) (lb := lb) rfl trivial eg hseq
    (fun h k => Keep.trans h k) (keep_b (by simp; omega) (fun b hb => by have := hbs b hb; simp; omega)) hB0 (fun _ => rfl)
    (fun pre W => (∃ v, Boxed W w.heap.size 22 v ∧ W.ownsRow w.heap.size 33 4 v pre.length (cellsOf pre) ∧ True) ∧ Below w.heap.size w W)
    (fun _ _ _ => False)
    (OwnFrom.and (Own.from (holdsRow_own w.heap.size w.heap.size 22 33 4 (fun pre => pre.length) (fun pre => cellsOf pre) (fun _ _ => True)) _) (ownFrom_below (Nat.le_refl _) (by simp)))
    (fun _ _ _ _ _ hs _ _ => hs)
    ⟨⟨_, bS, World.ownsRow_nil _ _ _ _, trivial⟩, hB0⟩
    (fun x a' W => ∃ Bx, w.heap.size < Bx ∧ Blk W Bx 33 #[.int .i64 x.g, .int .i64 x.i, .int .i64 x.s, .int .i64 x.a] ∧ a' = { tmps := #[.slice none 0 0, .func (.func gf) #[] lb, .pointer (some ⟨w.heap.size, 0, none⟩), undef, .slice none 0 0, .pointer (some ⟨Bx, 0, none⟩), .func (.func gf) #[] lb, .agg #[.int .i64 x.g, .int .i64 x.i, .int .i64 x.s, .int .i64 x.a], undef, undef, undef, undef, undef], defers := [] }) ?hax ?assign ?body ?done ?stop
  case hax =>
    rintro x a' _ A B row ⟨Bx, h1, h2, h3⟩ hg hr
    exact ⟨Bx, h1, (blk_own Bx 33 (fun (_ : Unit) => #[.int .i64 x.g, .int .i64 x.i, .int .i64 x.s, .int .i64 x.a])) () A B row h2 hg (fun r e => (hr r e).2), h3⟩
  case assign =>
    intro l pre x W K hI hK
    gi_wp2
    refine hK _ _ ((KeepsOthers.alloc _ _).from _) ((Keep.refl _ _ _).alloc (Nat.le_trans hn₀ hI.2.size) (fun b hb => Nat.lt_of_lt_of_le (hbs b hb) hI.2.size) _) ?_ ⟨W.heap.size, ?_, Blk.new _ _ _, rfl⟩
    · obtain ⟨⟨v, h1, h2, _⟩, h3⟩ := hI
      exact ⟨⟨v, h1.alloc _, h2.alloc _, trivial⟩, h3.alloc h3.size _⟩
    · obtain ⟨⟨v, h1, h2, _⟩, h3⟩ := hI
      exact h1.lt
  case body =>
    rintro l pre x a' W hl _ ⟨⟨v, hv, hrow, _⟩, hB⟩ ⟨Bx, hBx, bX, rfl⟩ hlt
    have hc := hv.cell
    have x0 := bX.cell 0
    have x1 := bX.cell 1
    have x2 := bX.cell 2
    have x3 := bX.cell 3
    simp only [List.getElem?_toArray, List.getElem?_cons_zero, List.getElem?_cons_succ] at x0 x1 x2 x3
    gi_wp2_with (gi_at_builtin; refine wpListIn_append_own _ rfl _ _ 22 rfl w.heap.size 33 i0 _ 4 32 Try.underlying22 hi hz0 hz1 hz2 rfl (by decide) _ _ _ rfl (hrow.alloc _) ⟨W.heap.size, 0, none⟩ 1 1 x.cells rfl rfl (cells_new _ _ _) (by simp [Spot.cells, Value.oneCell']) (by unfold maxLen; omega) (by omega) (by have := hB.size; simp; omega) ?_; intro v' w1 hown' hgrow _; obtain ⟨g', cap', rfl⟩ := ownsRow_succ hown'; obtain ⟨hv1, hv2, hr2, hk2, hb2⟩ := hv.appended (by decide) hrow hB.size (Nat.le_refl _) hown' hgrow; have hc1 := hv1.cell; have hf1 := hv1.frozen)
    exact ⟨hk2.from _, Keep.of_below hb2 hn₀ hbs, ⟨_, hv2, by rw [cellsOf_snoc]; simpa using hr2, trivial⟩, hB.trans hb2⟩
  case done =>
    rintro D ys W hD rfl ⟨⟨v, hv, hrow, _⟩, hB⟩ hK
    have hc := hv.cell
    gi_wp2
    refine ⟨by simp, .inl ⟨_, _, rfl, run_takeDeferred hK, ?_⟩⟩
    exact ⟨_, results_tmp rfl _ _ _, v, rfl, ownsRow_putObj hrow _ hK rfl, hB.trans (belowK_b (w := w) (Nat.le_refl _) W D _ _ (by simp at hD; omega) hK rfl rfl)⟩
  case stop =>
    rintro D c pre W _ _ h _
    exact h.elim

theorem collect_calls (gf : Nat) (lb : Array Value) (n₀ : Nat) (bs : List Nat) (Sp : List Spot → Prop) (xs : List Spot) (w : World) (hx : xs.length ≤ 1000000)
    (hn₀ : n₀ ≤ w.heap.size) (hbs : ∀ b, b ∈ bs → b < w.heap.size) (eg : ∀ args w, (callFunc gf args).run Try.prog w = .ok (.enter gf args) w)
    (hseq : SeqStopsK Fence.wide 3 Try.prog gf lb (fun x : Spot => #[x.val]) (Keep n₀ bs) (fun ys => ys = xs) Sp xs.length w) :
    Calls Try.prog 22 #[.func (.func gf) #[] lb] w fun e w' => ∃ v, e = .returned v ∧ w'.ownsRow w.heap.size 33 4 v xs.length (cellsOf xs) ∧ Below w.heap.size w w' := by
  go_enter Try.func22, Try.ntmps22
  go_wp2_with (go_at_call 25; refine (appendSeq_calls gf lb n₀ bs Sp xs _ hx hn₀ hbs eg hseq).mono ?_; rintro e w' ⟨v, rfl, h1, h2⟩)
  go_ret
  exact ⟨v, rfl, h1, h2⟩

theorem In_calls (c : Nat) (a : Option Addr) (seg : Int) (xs : List Spot) (hreach : xs.length ≤ 1000000) (w : World) (hc : Spots w w.heap.size (.slice a xs.length c) xs) :
    Calls Try.prog 13 #[.slice a xs.length c, .int .i64 seg] w fun e w' => ∃ v, e = .returned v ∧ w'.ownsRow w.heap.size 33 4 v (flt seg xs).length (cellsOf (flt seg xs)) ∧ Below w.heap.size w w' := by
  have hfl : (flt seg xs).length ≤ xs.length := List.length_filter_le _ _
  have bS := Boxed.new w 22 (.slice a xs.length c)
  have bG := Boxed.new (w.alloc (.cells #[.slice a xs.length c] 22)) 3 (.int .i64 seg)
  simp only [World.size_alloc] at bG
  have hB0 : Below w.heap.size w ((w.alloc (.cells #[.slice a xs.length c] 22)).alloc (.cells #[.int .i64 seg] 3)) := ((Below.refl _ w).alloc (Nat.le_refl _) _).alloc (by simp) _
  have hq := in_stops 3 (by omega) w.heap.size (w.heap.size + 1) w.heap.size c a seg xs hreach _ (bS.alloc _).cell bG.cell (by simp; omega) (by simp) (by simp; omega) (hc.below hB0 (Nat.le_refl _))
  have HQ := Lib.hid hq
  have HB := Lib.hid hB0
  clear hq hB0 bS bG
  go_enter Try.func13, Try.ntmps13
  go_wp2_with (first | (go_at_call 23; refine (in_calls a xs.length c seg _).mono ?_; rintro e w' ⟨rfl, rfl⟩) | (go_at_call 22; refine (collect_calls _ _ w.heap.size [w.heap.size + 1] _ _ _ (by omega) (by simp; omega) (by simp) (enters_of Try.func26 (by kernel_rfl) rfl) HQ.out).mono ?_; rintro e w' ⟨v, rfl, h1, h2⟩))
  go_ret
  exact ⟨v, rfl, owns_base h1 (by simp; omega), HB.out.trans (h2.mono (by simp; omega))⟩
end Go.Proofs.Ytnbnkmpmkpillaa
