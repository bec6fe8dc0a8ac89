/- slices.Values over numbers; sheet.Is, the reference's Is. -/
import Derived.Test.YtoaegleieacokaaGreatCodeFixed
import Derived.Deep.QuietTactic
import Derived.BigQuiet
namespace Go.Proofs.YtoaegleieacokaaGreat
open Go.RowKit Go.Shelf
attribute [local go_sem] Oper.semAt_some

theorem ivalues_calls (a : Option Addr) (n c : Nat) (w : World) :
    Calls Tryz.prog 69 #[.slice a n c] w fun e w' => e = .returned (.func (.func 80) #[] #[.pointer (some ⟨w.heap.size, 0, none⟩)]) ∧ w.alloc (.cells #[.slice a n c] 32) = w' := by
  go_enter Tryz.func69, Tryz.ntmps69
  go_wp2
  go_ret
  exact ⟨rfl, rfl⟩

set_option maxRecDepth 100000 in
set_option maxHeartbeats 2000000 in
theorem ivalues1_calls {α : Type} (f : α → Int) (n : Nat) (hn : 1 ≤ n) (l Bs n₀ c : Nat) (a : Option Addr) (L : List α) (hreach : L.length ≤ 1000000) (J Jx : List α → World → Prop)
    (hY : ∀ pre x W, J pre W → pre.length < L.length → YieldAt Fence.wide (n - 1) Tryz.prog l #[.int .i64 (f x)] W fun e W' =>
      (e = .returned (.bool true) ∧ J (pre ++ [x]) W' ∧ Below n₀ W W') ∨ (e = .returned (.bool false) ∧ Jx (pre ++ [x]) W'))
    (W : World) (hm : W.cell? ⟨Bs, 0, none⟩ = some (.slice a L.length c)) (hs : Ints W n₀ (.slice a (L.map f).length c) (L.map f)) (h0 : J [] W) :
    CallsIn Fence.wide n Tryz.prog 80 #[.func (.yield l) #[] #[], .pointer (some ⟨Bs, 0, none⟩)] W fun e W' => (∃ v, e = .returned v) ∧
      ((∃ xs, xs = L ∧ J xs W') ∨ (∃ pre, pre <+: L ∧ Jx pre W')) := by
  refine callsIn_of_wp Tryz.func80 rfl trivial ?_ rfl
  simp only [Tryz.ntmps80, List.size_toArray, List.length_cons, List.length_nil, Nat.reduceAdd, Nat.reduceSub, Array.replicate_succ, Array.replicate_zero, List.push_toArray, List.append_toArray, List.nil_append, List.cons_append]
  gi_wp2
  gi_loopw [7] (fun i wr => ∃ k : Nat, k ≤ L.length ∧ i = .int .i64 k ∧ J (L.take k) wr ∧ Below n₀ W wr)
    (fun i _ => L.length - (intOf i).toNat)
  case atStart => exact ⟨0, Nat.zero_le _, rfl, h0, Below.refl _ _⟩
  case round =>
    obtain ⟨k, hk, rfl, hJs, hnx⟩ := hrel
    by_cases hlt : k < L.length
    · obtain ⟨b, off, rfl, hb, hcs⟩ := (hs.below hnx (Nat.le_refl _)).cell (by rw [List.length_map]; omega)
      have d0 := hcs k (by rw [List.length_map]; exact hlt)
      rw [List.getElem_map] at d0
      have Hk := Lib.hid (List.take_succ_eq_append_getElem hlt)
      have Hp := Lib.hid (List.take_prefix (k + 1) L)
      generalize L[k] = x at *
      obtain ⟨fn, tmps, assign, body, hy, hR⟩ := hY _ x _ hJs (by simp; omega)
      clear hJs h0 hcs hs
      gi_wp2
      refine hR.mono ?_
      rintro e W3 (⟨rfl, hJ3, hk3⟩ | ⟨rfl, hJx3⟩)
      · gi_wp2
        go_roundw
        case rel => exact ⟨k + 1, by omega, by simp, by rw [Hk.out]; exact hJ3, hnx.trans hk3⟩
        case measure => simp [intOf]; omega
      · gi_wp2
        refine bodyPost_ret (results_none rfl _ _ _) rfl ?_
        exact ⟨⟨_, rfl⟩, .inr ⟨_, by rw [← Hk.out]; exact Hp.out, hJx3⟩⟩
    · obtain rfl : k = L.length := by omega
      gi_wp2
      go_end0
      exact ⟨⟨_, rfl⟩, .inl ⟨_, by simp, hJs⟩⟩
theorem ivalues_stopsG {α : Type} (f : α → Int) (n : Nat) (hn : 1 ≤ n) (Bs n₀ c : Nat) (a : Option Addr) (L : List α) (hreach : L.length ≤ 1000000) (w : World) (hBs : Bs < w.heap.size) (hm : w.cell? ⟨Bs, 0, none⟩ = some (.slice a L.length c)) (hn0 : n₀ ≤ w.heap.size) (hs : Ints w n₀ (.slice a (L.map f).length c) (L.map f)) :
    SeqStopsK Fence.wide n Tryz.prog 80 #[.pointer (some ⟨Bs, 0, none⟩)] (fun x : α => #[.int .i64 (f x)]) (Below n₀) (fun xs => xs = L) (fun pre => pre <+: L) L.length w := fun l J Jx W hW _ _ hY h0 =>
  ivalues1_calls f n hn l Bs n₀ c a L hreach J Jx hY W ((hW.cell (p := ⟨Bs, 0, none⟩) hBs).trans hm) (hs.below hW hn0) h0
theorem ivalues_stops (n : Nat) (hn : 1 ≤ n) (Bs n₀ c : Nat) (a : Option Addr) (L : List Int) (hreach : L.length ≤ 1000000) (w : World) (hBs : Bs < w.heap.size) (hm : w.cell? ⟨Bs, 0, none⟩ = some (.slice a L.length c)) (hn0 : n₀ ≤ w.heap.size) (hs : Ints w n₀ (.slice a L.length c) L) :
    SeqStopsK Fence.wide n Tryz.prog 80 #[.pointer (some ⟨Bs, 0, none⟩)] (fun x : Int => #[.int .i64 x]) (Below n₀) (fun xs => xs = L) (fun pre => pre <+: L) L.length w :=
  ivalues_stopsG (fun x => x) n hn Bs n₀ c a L hreach w hBs hm hn0 (by rw [List.map_id']; exact hs)

/-- Rising, from a number on, none too great. -/
def isFrom (last : Int) : List Int → Bool
  | [] => true
  | n :: l => if n ≤ last ∨ 99999999 < n then false else isFrom n l
def isL (l : List Int) : Bool := isFrom 0 l && (decide (0 < l.length) && decide (l.length ≤ 200))
theorem isFrom_snoc (last : Int) (l : List Int) (x : Int) : isFrom last (l ++ [x]) = (isFrom last l && !(decide (x ≤ l.getLastD last) || decide (99999999 < x))) := by
  induction l generalizing last with
  | nil =>
    by_cases h : x ≤ last <;> by_cases h2 : 99999999 < x <;> simp [isFrom, h, h2]
  | cons y l ih =>
    simp only [List.cons_append, isFrom]
    by_cases h : y ≤ last ∨ 99999999 < y
    · rw [if_pos h, if_pos h]; rfl
    · rw [if_neg h, if_neg h, ih, List.getLastD_cons]
theorem isFrom_prefix {last : Int} {l m : List Int} (h : l <+: m) (hm : isFrom last m = true) : isFrom last l = true := by
  obtain ⟨t, rfl⟩ := h
  induction l generalizing last with
  | nil => rfl
  | cons y l ih =>
    simp only [List.cons_append, isFrom] at hm ⊢
    by_cases h : y ≤ last ∨ 99999999 < y
    · rw [if_pos h] at hm; cases hm
    · rw [if_neg h] at hm ⊢
      exact ih hm

def lastI (l : List Int) : Int := l.getLastD 0
theorem lastI_snoc (l : List Int) (x : Int) : lastI (l ++ [x]) = x := by simp [lastI]
set_option maxRecDepth 100000 in
set_option maxHeartbeats 2000000 in
theorem is_calls (a : Option Addr) (c : Nat) (L : List Int) (hreach : L.length ≤ 1000000) (w : World) (hs : Ints w w.heap.size (.slice a L.length c) L) :
    Calls Tryz.prog 40 #[.slice a L.length c] w fun e w' => e = .returned (.bool (isL L)) ∧ Below w.heap.size w w' := by
  refine (callsIn_wide (n := 4)).1 ?_
  refine callsIn_of_wp_marks Tryz.func40 rfl trivial ?_ rfl
  simp only [Tryz.ntmps40, List.size_toArray, List.length_cons, List.length_nil, Nat.reduceAdd, Nat.reduceSub, Array.replicate_succ, Array.replicate_zero, List.push_toArray, List.append_toArray, List.nil_append, List.cons_append]
  gi_wp2_with (refine ⟨trivial, ?_⟩; gi_at_call 69; refine (callsIn_wide.2 (ivalues_calls a L.length c _)).mono ?_; rintro e w' ⟨rfl, rfl⟩)
  have b0 := Boxed.new w 4 (.bool false)
  have b1 := Boxed.new (w.alloc (.cells #[.bool false] 4)) 3 (.int .i64 0)
  have b2 := Boxed.new ((w.alloc (.cells #[.bool false] 4)).alloc (.cells #[.int .i64 0] 3)) 32 (.slice a L.length c)
  simp only [World.size_alloc] at b1 b2
  have hB0 : Below w.heap.size w (((w.alloc (.cells #[.bool false] 4)).alloc (.cells #[.int .i64 0] 3)).alloc (.cells #[.slice a L.length c] 32)) := (((Below.refl _ w).alloc (Nat.le_refl _) _).alloc (by simp) _).alloc (by simp; omega) _
  refine wpIn_rangeFunc_ownG_of_H (α := Int) rfl (by omega) (gf := 80) (lb := #[.pointer (some ⟨w.heap.size + 1 + 1, 0, none⟩)]) rfl trivial (enters_of Tryz.func80 (by kernel_rfl) rfl)
    (ivalues_stops 3 (by omega) (w.heap.size + 1 + 1) w.heap.size c a L hreach _ (by simp) b2.cell (by simp; omega) (hs.below hB0 (Nat.le_refl _)))
    belowK_t (belowK_b (by simp; omega)) (Below.refl _ _) (fun _ => rfl)
    (fun (pre : List Int) W => (Boxed W w.heap.size 4 (.bool false) ∧ Boxed W (w.heap.size + 1) 3 (.int .i64 (lastI pre))) ∧ isFrom 0 pre = true ∧ Below w.heap.size w W)
    (fun cd (pre : List Int) W => Boxed W w.heap.size 4 (.bool false) ∧ (cd = .ret ∧ isFrom 0 pre = false) ∧ Below w.heap.size w W)
    (OwnFrom.and (OwnFrom.and (Own.from (boxed_own _ _ (fun (_ : List Int) => .bool false)) _) (Own.from (boxed_own _ _ (fun (pre : List Int) => .int .i64 (lastI pre))) _)) (OwnFrom.and (ownFrom_pure _ _) (ownFrom_below (Nat.le_refl _) (by simp; omega))))
    (fun cd => OwnFrom.and (Own.from (boxed_own _ _ (fun (_ : List Int) => .bool false)) _) (OwnFrom.and (ownFrom_pure _ _) (ownFrom_below (Nat.le_refl _) (by simp; omega))))
    ⟨⟨(b0.alloc _).alloc _, b1.alloc _⟩, rfl, hB0⟩
    (fun x => { tmps := #[.slice a L.length c, undef, .pointer (some ⟨w.heap.size, 0, none⟩), .pointer (some ⟨w.heap.size + 1, 0, none⟩), .int .i64 x, .slice a L.length c, .func (.func 80) #[] #[.pointer (some ⟨w.heap.size + 1 + 1, 0, none⟩)], .int .i64 x, undef, undef, undef, undef, undef, undef, undef, undef, undef, undef, undef, undef, undef, undef, undef, undef], defers := [] }) ?assign ?body ?done ?stop (fun W => Below.refl _ W)
  case assign =>
    intro l x W K hK
    gi_wp2
    exact hK
  case body =>
    rintro l pre x W ⟨⟨h0, h1⟩, hf, hB⟩ hlt
    have hsn := isFrom_snoc 0 pre x
    rw [show pre.getLastD 0 = lastI pre from rfl] at hsn
    rw [hf, Bool.true_and] at hsn
    have HS := Lib.hid hsn
    have hc1 := h1.cell
    have hf1 := h1.frozen
    have hc0 := h0.cell
    have hf0 := h0.frozen
    clear hsn
    have HG := Lib.hid (lastI_snoc pre x)
    generalize lastI pre = d at *
    by_cases hx : x ≤ d
    · gi_wp2
      exact ⟨(KeepsOthers.setCell _ _ _).from _, h0.set _, ⟨rfl, by rw [HS.out]; simp [hx]⟩, hB.setCell (p := ⟨w.heap.size, 0, none⟩) (Nat.le_refl _) _⟩
    · by_cases hx2 : 99999999 < x
      · gi_wp2
        exact ⟨(KeepsOthers.setCell _ _ _).from _, h0.set _, ⟨rfl, by rw [HS.out]; simp [hx2]⟩, hB.setCell (p := ⟨w.heap.size, 0, none⟩) (Nat.le_refl _) _⟩
      · gi_wp2
        exact ⟨(KeepsOthers.setCell _ _ _).from _, (Below.refl _ W).setCell (p := ⟨w.heap.size + 1, 0, none⟩) (by simp) _, ⟨h0.other (by omega) _, by rw [HG.out]; exact h1.set _⟩, by rw [HS.out]; simp [hx, hx2], hB.setCell (p := ⟨w.heap.size + 1, 0, none⟩) (by simp) _⟩
  case done =>
    rintro D ys W hD rfl ⟨⟨h0, h1⟩, hf, hB⟩ hK
    have hc0 := h0.cell
    have hf0 := h0.frozen
    have hout : isL ys = (decide (0 < ys.length) && decide (ys.length ≤ 200)) := by rw [isL, hf, Bool.true_and]
    have HO := Lib.hid hout
    clear hout hf
    have hKs : ∀ u : Value, (W.setCell ⟨w.heap.size, 0, none⟩ u).heap[D]? = some (.deferred (some [])) := fun u => (Below.heap_setCell _ _ _ _ (by simp at hD; simp; omega)).trans hK
    by_cases hz : 0 < ys.length
    · gi_wp2
      refine ⟨by simp, .inl ⟨_, _, rfl, run_takeDeferred (hKs _), ?_⟩⟩
      have hc5 := ((h0.set (.bool (decide ((ys.length : Int) ≤ 200)))).kept (grownBy_putObj' _ D (.deferred none)) (by simp at hD; simp; omega)).cell
      refine ⟨.bool (decide ((ys.length : Int) ≤ 200)), by simp [results, Tryz.f40, go_sem, hc5], by rw [HO.out]; simp [hz]; omega, (hB.setCell (p := ⟨w.heap.size, 0, none⟩) (Nat.le_refl _) _).trans (belowK_b (w := w) (Nat.le_refl _) _ D _ _ (by simp at hD; omega) (hKs _) rfl rfl)⟩
    · gi_wp2
      refine ⟨by simp, .inl ⟨_, _, rfl, run_takeDeferred (hKs _), ?_⟩⟩
      have hc5 := ((h0.set (.bool false)).kept (grownBy_putObj' _ D (.deferred none)) (by simp at hD; simp; omega)).cell
      refine ⟨.bool false, by simp [results, Tryz.f40, go_sem, hc5], by rw [HO.out]; simp [hz], (hB.setCell (p := ⟨w.heap.size, 0, none⟩) (Nat.le_refl _) _).trans (belowK_b (w := w) (Nat.le_refl _) _ D _ _ (by simp at hD; omega) (hKs _) rfl rfl)⟩
  case stop =>
    rintro D cd pre W hD hp ⟨h0, ⟨rfl, hf⟩, hB⟩ hK
    have hc0 := h0.cell
    have hout : isL L = false := by
      cases hh : isFrom 0 L with
      | false => rw [isL, hh, Bool.false_and]
      | true => rw [isFrom_prefix hp hh] at hf; cases hf
    gi_wp2
    refine ⟨by simp, .inl ⟨_, _, rfl, run_takeDeferred hK, ?_⟩⟩
    have hc5 := (h0.kept (grownBy_putObj' _ D (.deferred none)) (by simp at hD; simp; omega)).cell
    refine ⟨.bool false, by simp [results, Tryz.f40, go_sem, hc5], by rw [hout], hB.trans (belowK_b (w := w) (Nat.le_refl _) _ D _ _ (by simp at hD; omega) hK rfl rfl)⟩

theorem below_drewN {n₀ : Nat} {w W : World} (h : Below n₀ w W) (j : Nat) : Below n₀ w (W.drewN j) := h.trans ⟨rfl, rfl, rfl, Nat.le_refl _, fun _ _ => rfl⟩
theorem isFrom_at (last : Int) (l : List Int) (k : Nat) (hk : k < l.length) (h : isFrom last (l.take k) = true) : isFrom last (l.take (k + 1)) = !(decide (l[k] ≤ (l.take k).getLastD last) || decide (99999999 < l[k])) := by
  rw [List.take_succ_eq_append_getElem hk, isFrom_snoc, h, Bool.true_and]
theorem isFrom_last : ∀ (l : List Int) (last : Int), isFrom last l = true → last ≤ l.getLastD last ∧ (l ≠ [] → last < l.getLastD last)
  | [], last, _ => ⟨by simp, fun h => absurd rfl h⟩
  | y :: l, last, h => by
    rw [isFrom] at h
    by_cases hy : y ≤ last ∨ 99999999 < y
    · rw [if_pos hy] at h; cases h
    · rw [if_neg hy] at h
      have := (isFrom_last l y h).1
      rw [List.getLastD_cons]
      exact ⟨by omega, fun _ => by omega⟩
set_option maxRecDepth 100000 in
set_option maxHeartbeats 2000000 in
theorem refis_calls (a : Option Addr) (c : Nat) (L : List Int) (hreach : L.length ≤ 1000000) (w : World) (hs : Ints w w.heap.size (.slice a L.length c) L) :
    Calls Tryz.prog 46 #[.slice a L.length c] w fun e w' => e = .returned (.bool (isL L)) ∧ Below w.heap.size w w' := by
  go_enter Tryz.func46, Tryz.ntmps46
  go_wp2
  go_loopw [3] (fun i wr => ∃ k : Nat, k ≤ L.length ∧ i = .int .i64 k ∧ isFrom 0 (L.take k) = true ∧ Below w.heap.size w wr) (fun i _ => L.length - (intOf i).toNat)
  case atStart => exact ⟨0, Nat.zero_le _, rfl, rfl, Below.refl _ _⟩
  case round =>
    obtain ⟨k, hk, rfl, hf, hB⟩ := hrel
    by_cases hlt : k < L.length
    · obtain ⟨b, off, rfl, hb, hcs⟩ := (hs.below hB (Nat.le_refl _)).cell (by omega)
      have d0 := hcs k hlt
      have hat := isFrom_at 0 L k hlt hf
      by_cases hk0 : k = 0
      · subst hk0
        have hfalse : L[0] ≤ 0 ∨ 99999999 < L[0] → isL L = false := fun h => by
          cases hh : isFrom 0 L with
          | false => rw [isL, hh, Bool.false_and]
          | true => rw [isFrom_prefix (List.take_prefix 1 L) hh] at hat; (simp at hat; omega)
        have HF := Lib.hid hfalse
        have hnext : ¬ (L[0] ≤ 0 ∨ 99999999 < L[0]) → isFrom 0 (L.take 1) = true := fun h => by rw [hat]; simp at h ⊢; omega
        have HN := Lib.hid hnext
        rw [Nat.add_zero] at d0
        clear hfalse hnext hat hf hcs hs
        generalize L[0] = x at *
        by_cases hx : x < 1
        · have hd1 : decide (x < 1) = true := by simp [hx]
          go_wp2
          go_quiet (fail)
          go_wp2
          go_ret
          exact ⟨by rw [HF.out (by omega)]; rfl, below_drewN hB _⟩
        · have hd1 : decide (x < 1) = false := by simp; omega
          by_cases hx2 : 99999999 < x
          · have hd2 : decide (99999999 < x) = true := by simp [hx2]
            go_wp2
            go_quiet (fail)
            go_wp2
            go_ret
            exact ⟨by rw [HF.out (by omega)]; rfl, below_drewN hB _⟩
          · have hd2 : decide (99999999 < x) = false := by simp; omega
            go_wp2
            go_quiet (fail)
            go_wp2
            go_roundw
            case rel => exact ⟨1, by omega, by simp, HN.out (by omega), below_drewN hB _⟩
            case measure => simp [intOf]; omega
      · obtain ⟨j, rfl⟩ : ∃ j, k = j + 1 := ⟨k - 1, by omega⟩
        have d1 := hcs j (by omega)
        have hla : (L.take (j + 1)).getLastD 0 = L[j] := by
          rw [List.getLastD_eq_getLast?, List.getLast?_take]
          simp
          rw [List.getElem?_eq_getElem (by omega)]
          rfl
        have hge := (isFrom_last (L.take (j + 1)) 0 hf).2 (by intro e; have := congrArg List.length e; rw [List.length_take, List.length_nil] at this; omega)
        rw [hla] at hge hat
        have hfalse : L[j + 1] ≤ L[j] ∨ 99999999 < L[j + 1] → isL L = false := fun h => by
          cases hh : isFrom 0 L with
          | false => rw [isL, hh, Bool.false_and]
          | true => rw [isFrom_prefix (List.take_prefix (j + 1 + 1) L) hh] at hat; (simp at hat; omega)
        have HF := Lib.hid hfalse
        have hnext : ¬ (L[j + 1] ≤ L[j] ∨ 99999999 < L[j + 1]) → isFrom 0 (L.take (j + 1 + 1)) = true := fun h => by rw [hat]; simp at h ⊢; omega
        have HN := Lib.hid hnext
        clear hfalse hnext hat hf hcs hs hla
        generalize L[j + 1] = x at *
        generalize L[j] = y at *
        by_cases hx : x < 1
        · have hd1 : decide (x < 1) = true := by simp [hx]
          go_wp2
          go_quiet (fail)
          go_wp2
          go_ret
          exact ⟨by rw [HF.out (by omega)]; rfl, below_drewN hB _⟩
        · have hd1 : decide (x < 1) = false := by simp; omega
          by_cases hx2 : 99999999 < x
          · have hd2 : decide (99999999 < x) = true := by simp [hx2]
            go_wp2
            go_quiet (fail)
            go_wp2
            go_ret
            exact ⟨by rw [HF.out (by omega)]; rfl, below_drewN hB _⟩
          · have hd2 : decide (99999999 < x) = false := by simp; omega
            have hd3 : decide ((0 : Int) < (j : Int) + 1) = true := by rw [decide_eq_true_iff]; omega
            have hwk : wrap64 (j : Int) = (j : Int) := by unfold wrap64; omega
            by_cases hx3 : x ≤ y
            · have hd4 : decide (x ≤ y) = true := by simp [hx3]
              go_wp2
              go_quiet (fail)
              go_wp2
              go_ret
              exact ⟨by rw [HF.out (by omega)]; rfl, below_drewN hB _⟩
            · have hd4 : decide (x ≤ y) = false := by simp; omega
              go_wp2
              go_quiet (fail)
              go_wp2
              go_roundw
              case rel => exact ⟨j + 1 + 1, by omega, by simp, HN.out (by omega), below_drewN hB _⟩
              case measure => simp [intOf]; omega
    · obtain rfl : k = L.length := by omega
      rw [List.take_length] at hf
      have hout : isL L = (decide (0 < L.length) && decide (L.length ≤ 200)) := by rw [isL, hf, Bool.true_and]
      have HO := Lib.hid hout
      clear hout hf
      by_cases hz : 0 < L.length
      · go_wp2
        go_ret
        exact ⟨by rw [HO.out]; simp [hz]; omega, hB⟩
      · go_wp2
        go_ret
        exact ⟨by rw [HO.out]; simp [hz], hB⟩
end Go.Proofs.YtoaegleieacokaaGreat
