/- slices.Clone at whole numbers; victim.Sealed, Pick, Rounds and laderef15.Rounds. -/
import Derived.Test.YtnbnkmpmkpillaaLiveCount
import Derived.Test.YtnbnkmpmkpillaaLiveCounts
import Derived.Test.YtnbnkmpmkpillaaRefIn
import Derived.WalkSpells
import Derived.WalkMore
namespace Go.Proofs.Ytnbnkmpmkpillaa
open Go.RowKit Go.Shelf

set_option maxRecDepth 100000 in
set_option maxHeartbeats 1000000 in
theorem clone_calls (a : Option Addr) (n c : Nat) (xs : List Int) (hn : n ≤ 1000000) (w : World) (h : Rd w w.heap.size 1 (.slice a n c) n (xs.map (Value.int .i64))) :
    Calls Try.prog 24 #[.slice a n c] w fun e w' => ∃ v, e = .returned v ∧ w'.ownsRow w.heap.size 3 1 v n (xs.map (Value.int .i64)) ∧ Below w.heap.size w w' := by
  obtain ⟨i0, hi, hz0, hz1, hz2⟩ := info_parts infoInt
  have hnil := fun (w : World) (a : Option Addr) (n c : Nat) => Lib.run_eql_slice_nil (P := Try.prog) w 23 3 a n c 0 0 Try.underlying23
  cases a with
  | none =>
    obtain rfl := h.zero
    have hx : xs = [] := by have := h.len; simpa using this
    subst hx
    go_enter Try.func24, Try.ntmps24
    go_wp2
    go_ret
    exact ⟨_, rfl, World.ownsRow_nil _ _ _ _, Below.refl _ _⟩
  | some ad =>
    have hnews := h.news
    have hlen := Lib.hid h.len
    have hone : ∀ u ∈ xs.map (Value.int .i64), u.oneCell' = true := by
      intro u hu
      obtain ⟨x, _, rfl⟩ := List.mem_map.1 hu
      rfl
    clear h
    go_enter Try.func24, Try.ntmps24
    go_wp2_with (at_builtin; refine wpList_append_own _ rfl _ _ 23 rfl w.heap.size 3 i0 _ 1 8 Try.underlying23 hi hz0 hz1 hz2 rfl (by decide) (.slice (some ⟨w.heap.size, 0, none⟩) 0 0) 0 [] rfl (World.ownsRow_lit (base := w.heap.size) (e := 3) (size := 1) w #[] 0 (Nat.le_refl _) (by unfold maxLen; omega) rfl) ad n c (xs.map (Value.int .i64)) rfl hlen.out ?c1 hone (by unfold maxLen; omega) (by omega) (by simp) ?c2; (case c1 => intro j u hu; have hh := hnews j u hu; exact (World.cell?_alloc_lt w _ _ (World.block_lt_of_cell? w _ hh)).trans hh); intro v' w1 hown' hgrow _; simp only [Nat.zero_add, List.nil_append] at hown')
    go_ret
    exact ⟨_, rfl, hown', ((Below.refl _ w).alloc (Nat.le_refl _) _).grown hgrow (by simp) (fun k e => by simp [Value.ownBlock] at e; omega)⟩

theorem take_ints (xs : List Int) (k : Nat) : (xs.map (Value.int .i64)).take k = (xs.take k).map (Value.int .i64) := by rw [List.map_take]
/-- A slice cut to its first elements. -/
theorem Rd.cut {W : World} {n₀ sz n c k : Nat} {a : Option Addr} {cs : List Value} (h : Rd W n₀ sz (.slice a n c) n cs) (hk : k ≤ n) : Rd W n₀ sz (.slice a k c) k (cs.take (k * sz)) := by
  refine ⟨by rw [List.length_take, h.len]; exact Nat.min_eq_left (Nat.mul_le_mul_right _ hk), a, c, rfl, Nat.le_trans hk h.cap, fun h0 => ?_⟩
  obtain ⟨b, off, ha, hb, _, hc⟩ := h.at (by omega)
  refine ⟨b, off, ha, hb, fun j hj => ?_⟩
  rw [hc j (Nat.lt_of_lt_of_le hj (Nat.mul_le_mul_right _ hk)), List.getElem?_take, if_pos hj]

set_option maxRecDepth 100000 in
set_option maxHeartbeats 1000000 in
theorem sealed_calls (a : Option Addr) (n c : Nat) (xs : List Int) (hn : n ≤ 1000000) (w : World) (h : Rd w w.heap.size 1 (.slice a n c) n (xs.map (Value.int .i64))) :
    Calls Try.prog 19 #[.slice a n c] w fun e w' => ∃ v, e = .returned v ∧ w'.ownsRow w.heap.size 3 1 v (n - 1) ((xs.take (n - 1)).map (Value.int .i64)) ∧ Below w.heap.size w w' := by
  have hcut := h.cut (k := n - 1) (by omega)
  rw [Nat.mul_one, take_ints] at hcut
  have hcap := h.cap
  go_enter Try.func19, Try.ntmps19
  rcases Nat.eq_zero_or_pos n with h0 | h0
  · subst h0
    go_wp2_with fail
    refine (clone_calls a 0 c (xs.take 0) (by omega) w hcut).mono ?_
    rintro e w1 ⟨v, rfl, h1, h2⟩
    go_wp2
    go_ret
    exact ⟨v, rfl, h1, h2⟩
  · obtain ⟨m, rfl⟩ : ∃ m, n = m + 1 := ⟨n - 1, by omega⟩
    rw [show m + 1 - 1 = m from rfl] at *
    go_wp2_with fail
    refine (clone_calls a m c (xs.take m) (by omega) w hcut).mono ?_
    rintro e w1 ⟨v, rfl, h1, h2⟩
    go_wp2
    go_ret
    exact ⟨v, rfl, h1, h2⟩

/-- The first segment and whether there is a second one. -/
def pickOf (xs : List Int) : Int × Bool := match xs with | x :: _ :: _ => (x, true) | _ => (0, false)
set_option maxRecDepth 100000 in
set_option maxHeartbeats 1000000 in
theorem pick_calls (a : Option Addr) (n c : Nat) (xs : List Int) (hl : xs.length = n) (hn : n ≤ 1000000) (w : World) (h : Rd w w.heap.size 1 (.slice a n c) n (xs.map (Value.int .i64))) :
    Calls Try.prog 18 #[.slice a n c] w fun e w' => e = .returned (.tuple #[.int .i64 (pickOf xs).1, .bool (pickOf xs).2]) ∧ Below w.heap.size w w' := by
  match xs, hl, h with
  | [], hl, h =>
    obtain rfl : n = 0 := by simpa using hl.symm
    go_enter Try.func18, Try.ntmps18
    go_wp2_with fail
    refine (sealed_calls a 0 c [] hn w h).mono ?_
    rintro e w1 ⟨v, rfl, h1, h2⟩
    obtain ⟨a1, c1, rfl⟩ := Rd.val (Rd.of_owns h1)
    clear h1 h
    go_wp2
    refine wp_loop_rounds 1 ?_
    rw [rounds_succ]
    go_wp2
    go_ret2
    exact ⟨rfl, h2⟩
  | [x], hl, h =>
    obtain rfl : n = 1 := by simpa using hl.symm
    go_enter Try.func18, Try.ntmps18
    go_wp2_with fail
    refine (sealed_calls a 1 c [x] hn w h).mono ?_
    rintro e w1 ⟨v, rfl, h1, h2⟩
    obtain ⟨a1, c1, rfl⟩ := Rd.val (Rd.of_owns h1)
    clear h1 h
    go_wp2
    refine wp_loop_rounds 1 ?_
    rw [rounds_succ]
    go_wp2
    go_ret2
    exact ⟨rfl, h2⟩
  | x :: y :: l, hl, h =>
    obtain ⟨m, rfl⟩ : ∃ m, n = m + 2 := ⟨l.length, by simpa using hl.symm⟩
    clear hl
    go_enter Try.func18, Try.ntmps18
    go_wp2_with fail
    refine (sealed_calls a (m + 2) c (x :: y :: l) hn w h).mono ?_
    rintro e w1 ⟨v, rfl, h1, h2⟩
    have hR := Rd.of_owns h1
    obtain ⟨a1, c1, rfl⟩ := Rd.val hR
    rw [show m + 2 - 1 = m + 1 from rfl] at *
    obtain ⟨b, off, rfl, hb, _, hc⟩ := hR.at (by omega)
    have d0 := hc 0 (by omega)
    simp only [List.take_succ_cons, List.map_cons, List.getElem?_cons_zero, Nat.add_zero] at d0
    clear hc hR h1 h
    go_wp2
    refine wp_loop_rounds 1 ?_
    rw [rounds_succ]
    go_wp2
    go_ret2
    exact ⟨rfl, h2⟩

/-- How many sealed segments come up to the last one in which something counts, of the first k. -/
def roundsTo (xs : List Int) (l : List Spot) : Nat → Nat
  | 0 => 0
  | k + 1 => if cnt l (xs[k]?.getD 0) = 0 then roundsTo xs l k else k + 1
theorem roundsTo_le (xs : List Int) (l : List Spot) : ∀ k, roundsTo xs l k ≤ k
  | 0 => by simp [roundsTo]
  | k + 1 => by
    have := roundsTo_le xs l k
    unfold roundsTo
    split <;> omega

set_option maxRecDepth 100000 in
set_option maxHeartbeats 1000000 in
theorem rounds_calls (a : Option Addr) (n c : Nat) (xs : List Int) (hl : xs.length = n) (hn : n ≤ 1000000) (a' : Option Addr) (c' : Nat) (l : List Spot) (hll : l.length ≤ 1000000) (w : World) (h : Rd w w.heap.size 1 (.slice a n c) n (xs.map (Value.int .i64)))
    (hS : Spots w w.heap.size (.slice a' l.length c') l) :
    Calls Try.prog 20 #[.slice a n c, .slice a' l.length c'] w fun e w' => e = .returned (.int .i64 (roundsTo xs l (n - 1) : Int)) ∧ Below w.heap.size w w' := by
  go_enter Try.func20, Try.ntmps20
  go_wp2_with fail
  go_step3
  go_wp2_with fail
  go_step3
  go_wp2_with fail
  refine (sealed_calls a n c xs hn w h).mono ?_
  rintro e w1 ⟨v, rfl, h1, h2⟩
  have hR := Rd.of_owns h1
  obtain ⟨a1, c1, rfl⟩ := Rd.val hR
  have hS1 := (hS.below h2 (Nat.le_refl _)).up h2.size
  clear h1 h hS
  obtain ⟨m, hm⟩ : ∃ m, n - 1 = m := ⟨_, rfl⟩
  rw [hm] at hR ⊢
  have hmn : m ≤ n := by omega
  have HM := Lib.hid hm
  clear hm
  go_wp2_with fail
  go_loopw [5, 11] (fun o i wr => ∃ k : Nat, k ≤ m ∧ i = .int .i64 k ∧ o = .int .i64 (roundsTo xs l k : Int) ∧ Below w1.heap.size w1 wr) (fun _ i _ => m - (intOf i).toNat)
  case atStart => exact ⟨0, Nat.zero_le _, rfl, rfl, Below.refl _ _⟩
  case round =>
    obtain ⟨k, hk, rfl, rfl, hB⟩ := hrel
    have hrk := roundsTo_le xs l k
    by_cases hlt : k < m
    · obtain ⟨b, off, rfl, hb, _, hc⟩ := Rd.at (hR.below hB (Nat.le_refl _)) (by omega)
      have d0 := hc k (by omega)
      have hkx : k < xs.length := by omega
      rw [List.getElem?_map, List.getElem?_take, if_pos hlt, List.getElem?_eq_getElem hkx, Option.map_some] at d0
      have Hr : Hid (roundsTo xs l (k + 1) = if cnt l xs[k] = 0 then roundsTo xs l k else k + 1) := by show _ = _; simp [roundsTo, hkx]
      have hSr := (hS1.below hB (Nat.le_refl _)).up hB.size
      clear hc
      generalize xs[k] = s at *
      cases hz : (cnt l s == 0)
      all_goals
        go_wp2_with (go_at_call 14; refine (count_calls c' a' s l hll _ hSr).mono ?_; rintro e w5 ⟨rfl, hB5⟩; rw [show ((flt s l).length : Int) = cnt l s from rfl])
      · go_roundw
        case rel => exact ⟨k + 1, by omega, by simp, by rw [Hr.out, if_neg (by simpa using hz)]; simp, hB.trans (hB5.mono hB.size)⟩
        case measure => simp [intOf]; omega
      · go_roundw
        case rel => exact ⟨k + 1, by omega, by simp, by rw [Hr.out, if_pos (by simpa using hz)], hB.trans (hB5.mono hB.size)⟩
        case measure => simp [intOf]; omega
    · obtain rfl : k = m := by omega
      go_wp2
      rw [Exit.noGoto_ret]
      go_ret
      exact ⟨by rw [HM.out]; rfl, h2.trans (hB.mono h2.size)⟩

set_option maxRecDepth 100000 in
set_option maxHeartbeats 1000000 in
theorem refRounds_calls (a : Option Addr) (n c : Nat) (xs : List Int) (hl : xs.length = n) (hn : n ≤ 1000000) (a' : Option Addr) (c' : Nat) (l : List Spot) (hll : l.length ≤ 1000000) (w : World) (h : Rd w w.heap.size 1 (.slice a n c) n (xs.map (Value.int .i64)))
    (hS : Spots w w.heap.size (.slice a' l.length c') l) :
    Calls Try.prog 21 #[.slice a n c, .slice a' l.length c'] w fun e w' => e = .returned (.int .i64 (roundsTo xs l (n - 1) : Int)) ∧ Below w.heap.size w w' := by
  go_enter Try.func21, Try.ntmps21
  go_wp2_with fail
  go_loopw [5, 6] (fun o i wr => ∃ k : Nat, k ≤ n - 1 ∧ i = .int .i64 k ∧ o = .int .i64 (roundsTo xs l k : Int) ∧ Below w.heap.size w wr) (fun _ i _ => n - 1 - (intOf i).toNat)
  case atStart => exact ⟨0, Nat.zero_le _, rfl, rfl, Below.refl _ _⟩
  case round =>
    obtain ⟨k, hk, rfl, rfl, hB⟩ := hrel
    have hrk := roundsTo_le xs l k
    by_cases hlt : k < n - 1
    · obtain ⟨b, off, rfl, hb, _, hc⟩ := Rd.at (h.below hB (Nat.le_refl _)) (by omega)
      have d0 := hc k (by omega)
      have hkx : k < xs.length := by omega
      rw [List.getElem?_map, List.getElem?_eq_getElem hkx, Option.map_some] at d0
      have Hr : Hid (roundsTo xs l (k + 1) = if cnt l xs[k] = 0 then roundsTo xs l k else k + 1) := by show _ = _; simp [roundsTo, hkx]
      have hSr := (hS.below hB (Nat.le_refl _)).up hB.size
      have hkn : (k : Int) + 1 < (n : Int) := by omega
      clear hc
      generalize xs[k] = s at *
      by_cases hz : (flt s l).length = 0
      · have hz' : Hid (cnt l s = 0) := by show _ = _; simp [cnt, hz]
        have HZ := Lib.hid hz
        clear hz
        go_wp2_with (go_at_call 11; refine (refIn_calls c' a' s l hll _ hSr).mono ?_; rintro e w5 ⟨v5, rfl, ho5, hB5⟩; obtain ⟨a5, c5, rfl⟩ := Rd.val (Rd.of_owns ho5); rw [HZ.out]; clear ho5)
        go_roundw
        case rel => exact ⟨k + 1, by omega, by simp, by rw [Hr.out, if_pos hz'.out], hB.trans (hB5.mono hB.size)⟩
        case measure => simp [intOf]; omega
      · have hz' : Hid (¬ cnt l s = 0) := by show ¬ _; simp [cnt]; simpa using hz
        have hz2 : 0 < ((flt s l).length : Int) := by omega
        clear hz
        go_wp2_with (go_at_call 11; refine (refIn_calls c' a' s l hll _ hSr).mono ?_; rintro e w5 ⟨v5, rfl, ho5, hB5⟩; obtain ⟨a5, c5, rfl⟩ := Rd.val (Rd.of_owns ho5); clear ho5)
        go_roundw
        case rel => exact ⟨k + 1, by omega, by simp, by rw [Hr.out, if_neg hz'.out]; simp, hB.trans (hB5.mono hB.size)⟩
        case measure => simp [intOf]; omega
    · have hkn : (n : Int) ≤ (k : Int) + 1 := by omega
      have HK : Hid (n - 1 = k) := by show _ = _; omega
      go_wp2
      go_ret
      exact ⟨by rw [HK.out]; rfl, hB⟩
end Go.Proofs.Ytnbnkmpmkpillaa
