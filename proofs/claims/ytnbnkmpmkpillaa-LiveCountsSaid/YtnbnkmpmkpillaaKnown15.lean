/- ladelaw15.known returns true. -/
import Derived.Test.YtnbnkmpmkpillaaLiveCounts
import Derived.Test.YtnbnkmpmkpillaaLiveCol
import Derived.Test.YtnbnkmpmkpillaaLiveRec
namespace Go.Proofs.Ytnbnkmpmkpillaa
open Go.RowKit Go.Shelf

def L3 : List Spot := [⟨1, 1, 2, 16⟩, ⟨1, 2, 2, 16⟩, ⟨3, 0, 4, 0⟩]
theorem rd_blk {W : World} {B : Nat} {t : TypeId} {cs : Array Value} {sz n cap : Nat} (h : Blk W B t cs) (hl : cs.size = n * sz) (hc : n ≤ cap) : Rd W W.heap.size sz (.slice (some ⟨B, 0, none⟩) n cap) n cs.toList :=
  ⟨by simpa using hl, _, _, rfl, hc, fun _ => ⟨B, 0, rfl, h.lt, fun j _ => by rw [Nat.zero_add, h.cell j]; simp⟩⟩

set_option maxRecDepth 100000 in
set_option maxHeartbeats 4000000 in
theorem known15_calls (w : World) : Calls Try.prog 9 #[] w fun e w' => e = .returned (.bool true) ∧ Below w.heap.size w w' := by
  go_enter Try.func9, Try.ntmps9
  go_wp2_with fail
  have b1 := Blk.new w 33 #[.int .i64 1, .int .i64 1, .int .i64 2, .int .i64 16, .int .i64 1, .int .i64 2, .int .i64 2, .int .i64 16, .int .i64 3, .int .i64 0, .int .i64 4, .int .i64 0]
  have b2 := Blk.new (w.alloc (.cells #[.int .i64 1, .int .i64 1, .int .i64 2, .int .i64 16, .int .i64 1, .int .i64 2, .int .i64 2, .int .i64 16, .int .i64 3, .int .i64 0, .int .i64 4, .int .i64 0] 33)) 3 #[.int .i64 2, .int .i64 3, .int .i64 4]
  rw [World.size_alloc] at b2
  have b3 := b1.alloc (.cells #[.int .i64 2, .int .i64 3, .int .i64 4] 3)
  have hB1 : Below w.heap.size w ((w.alloc (.cells #[.int .i64 1, .int .i64 1, .int .i64 2, .int .i64 16, .int .i64 1, .int .i64 2, .int .i64 2, .int .i64 16, .int .i64 3, .int .i64 0, .int .i64 4, .int .i64 0] 33)).alloc (.cells #[.int .i64 2, .int .i64 3, .int .i64 4] 3)) := ((Below.refl _ w).alloc (Nat.le_refl _) _).alloc (by simp) _
  clear b1
  generalize ((w.alloc (.cells #[.int .i64 1, .int .i64 1, .int .i64 2, .int .i64 16, .int .i64 1, .int .i64 2, .int .i64 2, .int .i64 16, .int .i64 3, .int .i64 0, .int .i64 4, .int .i64 0] 33)).alloc (.cells #[.int .i64 2, .int .i64 3, .int .i64 4] 3)) = W1 at *
  have hS : Spots W1 W1.heap.size (.slice (some ⟨w.heap.size, 0, none⟩) 3 3) L3 := rd_blk (sz := 4) (n := 3) (cap := 3) b3 rfl (Nat.le_refl _)
  have hI : Ints W1 W1.heap.size (.slice (some ⟨w.heap.size + 1, 0, none⟩) 3 3) [2, 3, 4] := rd_blk (sz := 1) (n := 3) (cap := 3) b2 rfl (Nat.le_refl _)
  clear b2 b3
  refine (counts_calls 3 3 _ _ L3 [2, 3, 4] (by decide) (by decide) W1 hS hI).mono ?_
  rintro e w2 ⟨v, rfl, ho, hB2⟩
  have hR : Ints w2 w2.heap.size v [2, 0, 1] := Rd.of_owns ho
  obtain ⟨a1, c1, rfl⟩ := Rd.val hR
  obtain ⟨b, off, rfl, hb, hcs⟩ := hR.cell (by simp)
  have q0 := hcs 0 (by simp)
  have q1 := hcs 1 (by simp)
  have q2 := hcs 2 (by simp)
  simp only [List.getElem_cons_zero, List.getElem_cons_succ, Nat.add_zero] at q0 q1 q2
  clear hcs hR ho hI
  have hS2 := (hS.below hB2 (Nat.le_refl _)).up hB2.size
  clear hS
  go_wp2_with fail
  refine (count_calls 3 _ 2 L3 (by decide) w2 hS2).mono ?_
  rintro e w3 ⟨rfl, hB3⟩
  rw [show ((flt 2 L3).length : Int) = 2 from by decide]
  have hS3 := (hS2.below hB3 (Nat.le_refl _)).up hB3.size
  replace q0 := (hB3.cell (p := ⟨b, off, none⟩) hb).trans q0
  replace q1 := (hB3.cell (p := ⟨b, off + 1, none⟩) hb).trans q1
  replace q2 := (hB3.cell (p := ⟨b, off + 2, none⟩) hb).trans q2
  replace hb := Nat.lt_of_lt_of_le hb hB3.size
  clear hS2
  go_wp2_with fail
  refine (records_calls 3 _ 2 L3 (by decide) w3 hS3).mono ?_
  rintro e w4 ⟨rfl, hB4⟩
  rw [show (recs 2 L3 : Int) = 1 from by decide]
  have hS4 := (hS3.below hB4 (Nat.le_refl _)).up hB4.size
  replace q0 := (hB4.cell (p := ⟨b, off, none⟩) hb).trans q0
  replace q1 := (hB4.cell (p := ⟨b, off + 1, none⟩) hb).trans q1
  replace q2 := (hB4.cell (p := ⟨b, off + 2, none⟩) hb).trans q2
  replace hb := Nat.lt_of_lt_of_le hb hB4.size
  clear hS3
  go_wp2_with fail
  refine (In_calls 3 _ 4 L3 (by decide) w4 hS4).mono ?_
  rintro e w5 ⟨v, rfl, ho, hB5⟩
  obtain ⟨a5, c5, rfl⟩ := Rd.val (Rd.of_owns ho)
  rw [show (flt 4 L3).length = 1 from by decide]
  clear ho q0 q1 q2 hS4
  go_wp2_with fail
  refine (count_calls 0 none 1 [] (by decide) w5 (Rd.nil _ _ _)).mono ?_
  rintro e w6 ⟨rfl, hB6⟩
  rw [show ((flt 1 []).length : Int) = 0 from by decide]
  go_wp2
  go_ret
  exact ⟨rfl, hB1.trans ((hB2.trans ((hB3.trans ((hB4.trans ((hB5.trans (hB6.mono hB5.size)).mono hB4.size)).mono hB3.size)).mono hB2.size)).mono hB1.size)⟩
end Go.Proofs.Ytnbnkmpmkpillaa
