/- alike: both disks tell the same. -/
import Derived.Test.YtoaegleieacokaaDoes
import Derived.Test.YtoaegleieacokaaStepArg
import Derived.WalkLawsBesides
namespace Go.Proofs.Ytoaegleieacokaa
open Go.RowKit Go.Shelf

set_option maxRecDepth 100000 in
set_option maxHeartbeats 2000000 in
theorem alike_calls {n : Nat} {W : World} {D M R : Nat} {X : List Nat} {r s : DS} {N : Int} (hb : Br r s) (hf : s.Fin N) (hN : N < 4611686018427380000) (w : World) (h : Both n W D M R X r s w) :
    Calls Try.prog 48 #[.pointer (some ⟨D, 0, none⟩), .pointer (some ⟨R, 0, none⟩)] w fun e w' => e = .returned (.bool true) ∧ Both n W D M R X r s w' ∧ Below w.heap.size w w' := by
  have ok := hb.ok hf hN
  have hall := all_dk hb.files (by have := hf.many; omega) h.dk
  have huse : (used r.l : Int) = (used s.l : Int) := by rw [hb.used]
  have hste : r.steps = s.steps := hb.steps
  have hlen : r.l.length ≤ 1000 := by rw [hb.len]; exact hf.many
  have HU := Lib.hid huse
  have HS := Lib.hid hste
  clear huse hste
  go_enter Try.func48, Try.ntmps48
  go_wp2_with fail
  refine hall.mono ?_
  clear hall
  rintro e w1 ⟨v, rfl, hown, h1, hB1⟩
  have hb1 := h.next hB1
  have rd := Rd.of_owns hown
  clear hown h1
  obtain ⟨a3, c3, rfl⟩ := Rd.val rd
  obtain ⟨v, hv⟩ := hb1.rf
  have rdr := Rd.of_owns hv.own
  obtain ⟨a4, c4, rfl⟩ := Rd.val rdr
  have e1 : w1.cell? ⟨R, 1, none⟩ = some (.slice a4 r.l.length c4) := hv.blk.cell 1
  have e2 : w1.cell? ⟨R, 2, none⟩ = some (.int .i64 r.steps) := hv.blk.cell 2
  have hRl := hv.blk.lt
  rw [HS.out] at e2
  have hdr : Below w1.heap.size w1 w1.drew := (Below.refl _ w1).drew
  have hb2 := hb1.next hdr
  have hUse := used_calls D M s (hf.ok (by omega)).used w1.drew hb2.dk.at'
  have hRus := Lib.hid fun (w' : World) (hw : Below w1.drew.heap.size w1.drew w') => rused_calls ok.len ok.used w' ((hv.next hdr).next hw)
  have hSt := Lib.hid fun (w' : World) (hw : Below w1.drew.heap.size w1.drew w') => steps_calls D M s w' (hb2.next hw).dk.at'
  rw [HU.out] at hRus
  generalize (used s.l : Int) = u at *
  clear hb hf HU HS
  go_wp2_with fail
  go_region_held3 (fun w' => w'.cell? ⟨R, 1, none⟩ = some (.slice a4 r.l.length c4) ∧ w'.cell? ⟨R, 2, none⟩ = some (.int .i64 s.steps) ∧ Bx (Below w1.heap.size w1 w'))
    (first | exact ⟨e1, e2, ⟨hdr⟩⟩ | exact ⟨kept_cell (w := w1.drew) hB5 ⟨hdr⟩ (Nat.le_refl _) hRl e1, kept_cell (w := w1.drew) hB5 ⟨hdr⟩ (Nat.le_refl _) hRl e2, kept_below (w := w1.drew) hB5 ⟨hdr⟩ (Nat.le_refl _)⟩ | go_keep)
    (first | (go_at_call 37; refine hUse.mono ?_; clear hUse; rintro e w5 ⟨rfl, hB5⟩) | (go_at_call 100; refine (hRus.out _ hB5).mono ?_; rintro e w6 ⟨rfl, rfl⟩) | (go_at_call 55; refine (hSt.out _ hB5).mono ?_; rintro e w6 ⟨rfl, rfl⟩))
  go_wp2_with fail
  have hB6 : Below w1.heap.size w1 w6 := hdr.trans hB5
  have hb6 := hb1.next hB6
  have hv6 := hv.next hB6
  have rd6 := (rd.below hB6 (Nat.le_refl _)).up hB6.size
  have rdr6 := Rd.of_owns hv6.own
  have hW6 := hB1.trans (hB6.mono hB1.size)
  clear hb1 hv rd rdr e1 e2 hRl hdr hb2 hSt hRus hB5 h hB1 hB6
  go_loopw [6] (fun i wr => ∃ k : Nat, k ≤ r.l.length ∧ i = .int .i64 k ∧ Both n W D M R X r s wr ∧ RefAt n (D :: M :: X) wr R (.slice a4 r.l.length c4) r ∧ Rd wr wr.heap.size 3 (.slice a3 r.l.length c3) r.l.length (filesCells r.l) ∧ Below w.heap.size w wr) (fun i _ => r.l.length - (intOf i).toNat)
  case atStart => exact ⟨0, Nat.zero_le _, rfl, hb6, hv6, rd6, hW6⟩
  case round =>
    clear hb6 hv6 rd6 rdr6 hW6
    obtain ⟨k, hk, rfl, hb6, hv6, rd6, hW6⟩ := hrel
    have e1 : wr.cell? ⟨R, 1, none⟩ = some (.slice a4 r.l.length c4) := hv6.blk.cell 1
    by_cases hlt : k < r.l.length
    · obtain ⟨b, off, rfl, hb, D0, D1, D2⟩ := file_cells rd6 k hlt
      obtain ⟨b2, off2, rfl, hb2, E0, E1, E2⟩ := file_cells (Rd.of_owns hv6.own) k hlt
      generalize r.l[k] = x at *
      go_wp2
      go_quiet (fail)
      have hb7 := hb6.next (below_drewN (Below.refl _ wr) nq)
      have hv7 := hv6.next (below_drewN (Below.refl _ wr) nq)
      have rd7 : Rd (wr.drewN nq) (wr.drewN nq).heap.size 3 _ r.l.length (filesCells r.l) := rd6
      have hW7 := below_drewN hW6 nq
      clear hb6 hv6 rd6 hW6 D0 D1 D2 E0 E1 E2 e1
      generalize wr.drewN nq = w9 at *
      go_wp2
      go_roundw
      case rel => exact ⟨k + 1, by omega, by simp, hb7, hv7, rd7, hW7⟩
      case measure => simp [intOf]; omega
    · obtain rfl : k = r.l.length := by omega
      go_wp2
      go_ret
      exact ⟨rfl, hb6, hW6⟩
end Go.Proofs.Ytoaegleieacokaa
