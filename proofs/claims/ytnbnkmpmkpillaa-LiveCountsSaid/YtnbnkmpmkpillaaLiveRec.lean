/- live.Records tells at how many places the spots of a segment lie: for every slice of spots, of at most a million. -/
import Derived.Test.YtnbnkmpmkpillaaLiveIn
import Derived.Test.YtnbnkmpmkpillaaMaps
import Derived.Sort.MapsRangeIn
namespace Go.Proofs.Ytnbnkmpmkpillaa
open Go.RowKit Go.Shelf
attribute [local go_sem] Oper.semAt_some Spot.val

def placeVal (p : Int × Int) : Value := .agg #[.int .i64 p.1, .int .i64 p.2]
theorem equal_place (x y : Int × Int) (w : World) : (Op.equal 31 (placeVal x) (placeVal y)).run Try.prog w = .ok (decide (x = y)) w := by
  obtain ⟨a, b⟩ := x
  obtain ⟨c, d⟩ := y
  unfold placeVal Op.equal Op.maxDepth
  go_simp
  by_cases h1 : a = c <;> by_cases h2 : b = d <;> simp [h1, h2]
theorem findAsking_place (k : Int × Int) (w : World) : ∀ (l : List MapEntry) (i : Nat), (∀ x ∈ l, ∃ k', x.key = placeVal k') →
    ((Instr.findAsking 31 (placeVal k) l i).run Try.prog w = .ok none w ∧ ∀ x ∈ l, x.key ≠ placeVal k) ∨ ∃ j e, (Instr.findAsking 31 (placeVal k) l i).run Try.prog w = .ok (some (i + j, e.val)) w ∧ l[j]? = some e ∧ e.key = placeVal k
  | [], i, _ => .inl ⟨by simp [Instr.findAsking], by simp⟩
  | e :: es, i, h => by
    obtain ⟨k', hk⟩ := h e (by simp)
    by_cases hkk : k = k'
    · subst hkk
      refine .inr ⟨0, e, ?_, rfl, hk⟩
      simp [Instr.findAsking, hk, equal_place, Result.andThen]
    · have hne : e.key ≠ placeVal k := by
        rw [hk]
        intro e
        apply hkk
        obtain ⟨a, b⟩ := k
        obtain ⟨c, d⟩ := k'
        simp [placeVal] at e
        simp [e.1, e.2]
      have hs : (Instr.findAsking 31 (placeVal k) (e :: es) i).run Try.prog w = (Instr.findAsking 31 (placeVal k) es (i + 1)).run Try.prog w := by
        conv => lhs; unfold Instr.findAsking
        simp [hk, equal_place, hkk, Result.andThen]
      rcases findAsking_place k w es (i + 1) (fun x hx => h x (List.mem_cons_of_mem _ hx)) with ⟨h1, h2⟩ | ⟨j, e', h1, h2, h3⟩
      · exact .inl ⟨by rw [hs]; exact h1, fun x hx => by rcases List.mem_cons.1 hx with rfl | hx; exact hne; exact h2 x hx⟩
      · exact .inr ⟨j + 1, e', by rw [hs, h1]; simp; omega, by simpa using h2, h3⟩
theorem check_place (e : Bool) (n : Nat) (k : Int × Int) (w : World) : (Instr.checkKey e (n + 2) 31 (placeVal k)).run Try.prog w = .ok () w := by
  unfold placeVal
  unfold Instr.checkKey
  go_simp
  unfold Instr.checkKey
  go_simp
theorem keyOk_place : KeyOk Try.prog 31 placeVal where
  check e k w := check_place e 9998 k w
  find k l w hl := by
    have he := run_findKey_eq (P := Try.prog) w (k := 31) (by kernel_rfl) (placeVal k) l
    rw [he]
    simpa using findAsking_place k w l 0 hl
  stays k w := by
    simp [Instr.keyThatStays, Instr.sameBits, placeVal]
  inj a b h := by
    obtain ⟨a1, a2⟩ := a
    obtain ⟨b1, b2⟩ := b
    simp [placeVal] at h
    simp [h.1, h.2]

/-- Of a row each once, in the order in which they come. -/
def nub {α : Type} [DecidableEq α] (l : List α) : List α := l.foldl (fun acc x => if x ∈ acc then acc else acc ++ [x]) []
theorem nub_snoc {α : Type} [DecidableEq α] (l : List α) (x : α) : nub (l ++ [x]) = if x ∈ nub l then nub l else nub l ++ [x] := by unfold nub; rw [List.foldl_append]; rfl
theorem nub_le' {α : Type} [DecidableEq α] : ∀ (l acc : List α), (l.foldl (fun acc x => if x ∈ acc then acc else acc ++ [x]) acc).length ≤ acc.length + l.length
  | [], acc => by simp
  | x :: l, acc => by
    have h := nub_le' l (if x ∈ acc then acc else acc ++ [x])
    simp only [List.foldl_cons, List.length_cons]
    refine Nat.le_trans h ?_
    split <;> simp <;> omega
theorem nub_le {α : Type} [DecidableEq α] (l : List α) : (nub l).length ≤ l.length := by simpa [nub] using nub_le' l []
def Spot.pl (x : Spot) : Int × Int := (x.s, x.a)
def recs (seg : Int) (l : List Spot) : Nat := (nub ((flt seg l).map Spot.pl)).length

set_option maxRecDepth 100000 in
set_option maxHeartbeats 2000000 in
theorem records_calls (c : Nat) (a : Option Addr) (seg : Int) (xs : List Spot) (hreach : xs.length ≤ 1000000) (w : World) (hc : Spots w w.heap.size (.slice a xs.length c) xs) :
    Calls Try.prog 15 #[.slice a xs.length c, .int .i64 seg] w fun e w' => e = .returned (.int .i64 (recs seg xs : Int)) ∧ Below w.heap.size w w' := by
  have hmm := @run_makeMap Try.prog
  refine (callsIn_wide (n := 4)).1 ?_
  refine callsIn_of_wp_marks Try.func15 rfl trivial ?_ rfl
  simp only [Try.ntmps15, List.size_toArray, List.length_cons, List.length_nil, Nat.reduceAdd, Nat.reduceSub, Array.replicate_succ, Array.replicate_zero, List.push_toArray, List.append_toArray, List.nil_append, List.cons_append]
  gi_wp2_with (refine ⟨trivial, ?_⟩; gi_at_call 23; refine (callsIn_wide.2 (in_calls a xs.length c seg _)).mono ?_; rintro e w' ⟨rfl, rfl⟩)
  clear hmm
  have hfl : (flt seg xs).length ≤ xs.length := List.length_filter_le _ _
  have hM := RawMap.new (κ := Int × Int) w placeVal
  have bM := Boxed.new (w.alloc (.map #[] 0)) 51 (.map (some w.heap.size))
  have bS := Boxed.new ((w.alloc (.map #[] 0)).alloc (.cells #[.map (some w.heap.size)] 51)) 22 (.slice a xs.length c)
  have bG := Boxed.new (((w.alloc (.map #[] 0)).alloc (.cells #[.map (some w.heap.size)] 51)).alloc (.cells #[.slice a xs.length c] 22)) 3 (.int .i64 seg)
  simp only [World.size_alloc] at bM bS bG
  have hB0 : Below w.heap.size w ((((w.alloc (.map #[] 0)).alloc (.cells #[.map (some w.heap.size)] 51)).alloc (.cells #[.slice a xs.length c] 22)).alloc (.cells #[.int .i64 seg] 3)) :=
    ((((Below.refl _ w).alloc (Nat.le_refl _) _).alloc (by simp) _).alloc (by simp; omega) _).alloc (by simp; omega) _
  refine wpIn_rangeFunc_ownH rfl (by omega) (gf := 26) (lb := #[.pointer (some ⟨w.heap.size + 1 + 1, 0, none⟩), .pointer (some ⟨w.heap.size + 1 + 1 + 1, 0, none⟩)]) rfl trivial (enters_of Try.func26 (by kernel_rfl) rfl)
    (in_stops 3 (by omega) (w.heap.size + 1 + 1) (w.heap.size + 1 + 1 + 1) w.heap.size c a seg xs hreach _ (bS.alloc _).cell bG.cell (by simp) (by simp) (by simp; omega) (hc.below hB0 (Nat.le_refl _)))
    (fun h k => Keep.trans h k) (keep_b (by simp; omega) (by simp)) (Below.refl _ _) (fun _ => rfl)
    (fun pre W => (Boxed W (w.heap.size + 1) 51 (.map (some w.heap.size)) ∧ ∃ m, RawMap W w.heap.size placeVal m ∧ m.map (·.1) = nub (pre.map Spot.pl)) ∧ Below w.heap.size w W ∧ w.heap.size + 1 + 1 + 1 < W.heap.size)
    (fun _ _ _ => False)
    (OwnFrom.and (fun s A B row hs hg hr => ⟨(Own.from (boxed_own (w.heap.size + 1) 51 (fun (_ : Unit) => .map (some w.heap.size))) (((((w.alloc (.map #[] 0)).alloc (.cells #[.map (some w.heap.size)] 51)).alloc (.cells #[.slice a xs.length c] 22)).alloc (.cells #[.int .i64 seg] 3)).heap.size)) () A B row hs.1 hg hr,
        by obtain ⟨m, h1, h2⟩ := hs.2; exact ⟨m, h1.kept hg (fun e => by have := (hr _ e.symm).1; simp at this; omega), h2⟩⟩) (OwnFrom.and (ownFrom_below (Nat.le_refl _) (by simp; omega)) (fun s A B row hs hg hr => Nat.lt_of_lt_of_le hs hg.size)))
    (fun _ _ _ _ _ hs _ _ => hs)
    ⟨⟨(bM.alloc _).alloc _, [], ((hM.alloc _).alloc _).alloc _, rfl⟩, hB0, by simp⟩
    (fun x a' W => ∃ Bx, w.heap.size + 1 < Bx ∧ Blk W Bx 33 #[.int .i64 x.g, .int .i64 x.i, .int .i64 x.s, .int .i64 x.a] ∧ a' = { tmps := #[.slice a xs.length c, .int .i64 seg, undef, undef, .int .i64 0, .pointer (some ⟨w.heap.size + 1, 0, none⟩), .pointer (some ⟨Bx, 0, none⟩), .map (some w.heap.size), .slice a xs.length c, .int .i64 seg, .func (.func 26) #[] #[.pointer (some ⟨w.heap.size + 1 + 1, 0, none⟩), .pointer (some ⟨w.heap.size + 1 + 1 + 1, 0, none⟩)], .agg #[.int .i64 x.g, .int .i64 x.i, .int .i64 x.s, .int .i64 x.a], undef, undef, undef, undef, undef], defers := [] }) ?hax ?assign ?body ?done ?stop
  case hax =>
    rintro x a' _ A B row ⟨Bx, h1, h2, h3⟩ hg hr
    exact ⟨Bx, h1, (blk_own Bx 33 (fun (_ : Unit) => #[.int .i64 x.g, .int .i64 x.i, .int .i64 x.s, .int .i64 x.a])) () A B row h2 hg (fun r e => (hr r e).2), h3⟩
  case assign =>
    intro l pre x W K hI hK
    gi_wp2
    obtain ⟨⟨h1, m, h2, h3⟩, h4, h5⟩ := hI
    refine hK _ _ ((KeepsOthers.alloc _ _).from _) ((Keep.refl _ _ _).alloc h4.size (fun b hb => by simp at hb; subst hb; exact h5) _) ?_ ⟨W.heap.size, ?_, Blk.new _ _ _, rfl⟩
    · exact ⟨⟨h1.alloc _, m, h2.alloc _, h3⟩, h4.alloc h4.size _, by simp; omega⟩
    · exact h1.lt
  case body =>
    rintro l pre x a' W hl _ ⟨⟨h1, m, h2, h3⟩, hB, h5⟩ ⟨Bx, hBx, bX, rfl⟩ hlt
    have hc1 := h1.cell
    have x0 := bX.cell 0
    have x1 := bX.cell 1
    have x2 := bX.cell 2
    have x3 := bX.cell 3
    simp only [List.getElem?_toArray, List.getElem?_cons_zero, List.getElem?_cons_succ] at x0 x1 x2 x3
    gi_wp2_with (gi_at_mapUpdate; refine wpListIn_mapUpdate_raw rfl _ _ _ rfl keyOk_place Try.underlying51 rfl h2 x.pl (.bool true) rfl rfl ?_; intro w1 hm1 hg1)
    refine ⟨KeepsFrom.of_grownBy hg1 (fun j e => by cases e; simp; omega), ?_, ⟨h1.kept hg1 (by simp), _, hm1, ?_⟩, hB.grown hg1 hB.size (fun k e => by cases e; exact Nat.le_refl _), Nat.lt_of_lt_of_le h5 hg1.size⟩
    · exact ⟨(Below.refl _ _).grown hg1 hB.size (fun k e => by cases e; exact Nat.le_refl _), fun b hb => by simp at hb; subst hb; exact hg1.block _ h5 (by simp; omega)⟩
    · rw [up_keys, h3, List.map_append, List.map_cons, List.map_nil, nub_snoc]
  case done =>
    rintro D ys W hD rfl ⟨⟨h1, m, h2, h3⟩, hB, _⟩ hK
    have hc1 := h1.cell
    gi_wp2_with (gi_at_len; refine wpListIn_len_raw rfl _ rfl Try.underlying51 rfl h2 ?_)
    refine ⟨by simp, .inl ⟨_, _, rfl, run_takeDeferred hK, ?_⟩⟩
    exact ⟨_, results_tmp rfl _ _ _, by unfold recs; rw [← h3]; simp, hB.trans (belowK_b (w := w) (Nat.le_refl _) W D _ _ (by simp at hD; omega) hK rfl rfl)⟩
  case stop =>
    rintro D c pre W _ _ h _
    exact h.elim
end Go.Proofs.Ytnbnkmpmkpillaa
