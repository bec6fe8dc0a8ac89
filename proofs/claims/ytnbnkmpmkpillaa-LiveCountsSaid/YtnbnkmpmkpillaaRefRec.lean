/- laderef15.Records: for every slice of spots, of at most a million. -/
import Derived.Test.YtnbnkmpmkpillaaRefIn
import Derived.Test.YtnbnkmpmkpillaaLiveRec
namespace Go.Proofs.Ytnbnkmpmkpillaa
open Go.RowKit Go.Shelf

theorem neq_place (x y : Spot) (w : World) : (binOp .neq 31 (.agg #[.int .i64 x.s, .int .i64 x.a]) (.agg #[.int .i64 y.s, .int .i64 y.a])).run Try.prog w = .ok (.bool (decide (x.pl ≠ y.pl))) w := by
  obtain ⟨_, _, c, d⟩ := x
  obtain ⟨_, _, g, h⟩ := y
  go_simp
  by_cases h3 : c = g <;> by_cases h4 : d = h <;> simp [Spot.pl, h3, h4]
theorem mem_nub' {α : Type} [DecidableEq α] (x : α) : ∀ (l acc : List α), x ∈ l.foldl (fun acc x => if x ∈ acc then acc else acc ++ [x]) acc ↔ x ∈ acc ∨ x ∈ l
  | [], acc => by simp
  | y :: l, acc => by
    rw [List.foldl_cons, mem_nub' x l]
    by_cases h : y ∈ acc
    · rw [if_pos h]
      simp only [List.mem_cons]
      constructor
      · rintro (h1 | h1) <;> simp [h1]
      · rintro (h1 | rfl | h1) <;> simp_all
    · rw [if_neg h]
      simp only [List.mem_append, List.mem_cons, List.not_mem_nil, or_false]
      constructor
      · rintro ((h1 | h1) | h1) <;> simp [h1]
      · rintro (h1 | h1 | h1) <;> simp [h1]
theorem mem_nub {α : Type} [DecidableEq α] (x : α) (l : List α) : x ∈ nub l ↔ x ∈ l := by simp [nub, mem_nub']
/-- How many unlike ones there are among the first k. -/
def nubs (m : List Spot) (k : Nat) : Nat := (nub ((m.take k).map Spot.pl)).length
/-- Is the place of spot i none of the first j's? -/
def newAt (m : List Spot) (p : Int × Int) (j : Nat) : Bool := decide (p ∉ (m.take j).map Spot.pl)
theorem nubs_succ (m : List Spot) (k : Nat) (hk : k < m.length) : nubs m (k + 1) = nubs m k + if newAt m m[k].pl k = true then 1 else 0 := by
  unfold nubs newAt
  rw [List.take_succ_eq_append_getElem hk, List.map_append, List.map_cons, List.map_nil, nub_snoc]
  simp only [mem_nub, decide_eq_true_eq]
  split <;> simp_all
theorem nubs_le (m : List Spot) (k : Nat) : nubs m k ≤ k := Nat.le_trans (nub_le _) (by simp; omega)
theorem newAt_succ (m : List Spot) (p : Int × Int) (j : Nat) (hj : j < m.length) : newAt m p (j + 1) = (newAt m p j && decide (m[j].pl ≠ p)) := by
  unfold newAt
  rw [List.take_succ_eq_append_getElem hj, List.map_append, List.map_cons, List.map_nil]
  simp only [List.mem_append, List.mem_singleton, not_or]
  rw [Bool.decide_and]
  congr 1
  simp only [ne_eq, decide_eq_decide]
  exact ⟨fun h e => h e.symm, fun h e => h e.symm⟩

set_option maxRecDepth 100000 in
set_option maxHeartbeats 4000000 in
theorem refRecords_calls (c : Nat) (a : Option Addr) (seg : Int) (xs : List Spot) (hreach : xs.length ≤ 1000000) (w : World) (hc : Spots w w.heap.size (.slice a xs.length c) xs) :
    Calls Try.prog 16 #[.slice a xs.length c, .int .i64 seg] w fun e w' => e = .returned (.int .i64 (recs seg xs : Int)) ∧ Below w.heap.size w w' := by
  have hfl : (flt seg xs).length ≤ xs.length := List.length_filter_le _ _
  have Hfin : Hid (recs seg xs = nubs (flt seg xs) (flt seg xs).length) := by show _ = _; simp [recs, nubs]
  go_enter Try.func16, Try.ntmps16
  go_wp2_with (go_at_call 11; refine (refIn_calls c a seg xs hreach _ hc).mono ?_; rintro e w1 ⟨v, rfl, hown, hb1⟩; have hm := Spots.of_owns hown; obtain ⟨a1, c1, rfl⟩ := Rd.val hm; clear hown)
  generalize flt seg xs = m at *
  clear hc
  go_loopw [6, 7] (fun n i wr => ∃ k : Nat, k ≤ m.length ∧ i = .int .i64 k ∧ n = .int .i64 (nubs m k : Int) ∧ Below w1.heap.size w1 wr)
    (fun _ i _ => m.length - (intOf i).toNat)
  case atStart => exact ⟨0, Nat.zero_le _, rfl, by simp [nubs, nub], Below.refl _ _⟩
  case round =>
    obtain ⟨k, hk, rfl, rfl, hB⟩ := hrel
    have hnk := nubs_le m k
    by_cases hlt : k < m.length
    · have Hs := Lib.hid (nubs_succ m k hlt)
      obtain ⟨b, off, rfl, hb, hcs⟩ := (hm.below hB (Nat.le_refl _)).cell (by omega)
      obtain ⟨d0, d1, d2, d3⟩ := hcs k hlt
      have HC := Lib.hid hcs
      clear hcs d0 d1
      generalize hx : m[k] = x at *
      clear hx
      obtain ⟨wo, rfl⟩ : ∃ wo : World, wo = wr := ⟨_, rfl⟩
      go_wp2
      go_loopw [8, 9] (fun f j wr => ∃ i : Nat, i ≤ k ∧ j = .int .i64 i ∧ f = .bool (newAt m x.pl i) ∧ Below w1.heap.size w1 wr ∧ Below wo.heap.size wo wr)
        (fun _ j _ => k - (intOf j).toNat)
      case atStart => exact ⟨0, Nat.zero_le _, rfl, by simp [newAt], hB, Below.refl _ _⟩
      case round =>
        obtain ⟨i, hi, rfl, rfl, hB', hB2⟩ := hrel
        by_cases hlt2 : i < k
        · have Hn := Lib.hid (newAt_succ m x.pl i (by omega))
          obtain ⟨e0, e1, e2, e3⟩ := HC.out i (by omega)
          have d2' := (hB2.cell (p := ⟨b, off + k * 4 + 2, none⟩) (by have := hB.size; simp; omega)).trans d2
          have d3' := (hB2.cell (p := ⟨b, off + k * 4 + 3, none⟩) (by have := hB.size; simp; omega)).trans d3
          have e2' := (hB2.cell (p := ⟨b, off + i * 4 + 2, none⟩) (by have := hB.size; simp; omega)).trans e2
          have e3' := (hB2.cell (p := ⟨b, off + i * 4 + 3, none⟩) (by have := hB.size; simp; omega)).trans e3
          have hq := fun w => neq_place m[i] x w
          clear e0 e1 e2 e3 d2 d3
          generalize m[i] = y at *
          cases hf : newAt m x.pl i with
          | true =>
            go_wp2
            go_quiet (fail)
            go_wp2
            go_roundw
            case rel => exact ⟨i + 1, by omega, by simp, by rw [Hn.out, hf]; simp, below_drewN hB' _, below_drewN hB2 _⟩
            case measure => simp [intOf]; omega
          | false =>
            go_wp2
            go_quiet (fail)
            go_wp2
            go_roundw
            case rel => exact ⟨i + 1, by omega, by simp, by rw [Hn.out, hf]; simp, below_drewN hB' _, below_drewN hB2 _⟩
            case measure => simp [intOf]; omega
        · obtain rfl : i = k := by omega
          cases hf : newAt m x.pl i with
          | true =>
            go_wp2
            go_roundw
            case rel => exact ⟨i + 1, by omega, by simp, by rw [Hs.out, hf]; simp, hB'⟩
            case measure => simp [intOf]; omega
          | false =>
            go_wp2
            go_roundw
            case rel => exact ⟨i + 1, by omega, by simp, by rw [Hs.out, hf]; simp, hB'⟩
            case measure => simp [intOf]; omega
    · obtain rfl : k = m.length := by omega
      go_wp2
      go_ret
      exact ⟨by rw [Hfin.out]; rfl, hb1.trans (hB.mono hb1.size)⟩
end Go.Proofs.Ytnbnkmpmkpillaa
