/- ladelaw8.known answers true. -/
import Derived.Test.YtoaegleieacokaaDiskGo
import Derived.Test.YtoaegleieacokaaZeros
namespace Go.Proofs.Ytoaegleieacokaa
open Go.RowKit Go.Shelf

def k8s1 : DS := ⟨100, [(⟨#[97]⟩, ⟨⟨#[]⟩, 0⟩)], 1, -1⟩
def k8s2 : DS := ⟨100, [(⟨#[97]⟩, ⟨⟨#[97, 98, 99, 100]⟩, 0⟩)], 2, -1⟩
def k8s3 : DS := ⟨100, [(⟨#[97]⟩, ⟨⟨#[97, 98, 99, 100]⟩, 4⟩)], 3, -1⟩
def k8s4 : DS := ⟨100, [(⟨#[97]⟩, ⟨⟨#[97, 98, 99, 100, 101, 102, 103, 104]⟩, 4⟩)], 4, -1⟩
theorem k8_0 : (newDS 100).append ⟨#[97]⟩ ⟨#[120]⟩ = (19, newDS 100) := by rfl
theorem k8_1 : (newDS 100).create ⟨#[97]⟩ = (0, k8s1) := by rfl
theorem k8_1' : k8s1.create ⟨#[97]⟩ = (20, k8s1) := by rfl
theorem k8_2 : k8s1.append ⟨#[97]⟩ ⟨#[97, 98, 99, 100]⟩ = (0, k8s2) := by rfl
theorem k8_3 : k8s2.sync ⟨#[97]⟩ = (0, k8s3) := by rfl
theorem k8_4 : k8s3.append ⟨#[97]⟩ ⟨#[101, 102, 103, 104]⟩ = (0, k8s4) := by rfl
def k8s5 : DS := ⟨100, [(⟨#[97]⟩, ⟨⟨#[97, 98, 99, 100, 101]⟩, 5⟩)], 4, -1⟩
theorem crashF_127 : crashF 127 0 ⟨⟨#[97, 98, 99, 100, 101, 102, 103, 104]⟩, 4⟩ = ⟨⟨#[97, 98, 99, 100, 101]⟩, 5⟩ := by
  have hk : crashK 127 0 = 127 := by rw [crashK_nat 127 (by omega) (by omega)]; rfl
  unfold crashF crashSize
  rw [hk]
  rfl
theorem k8_5 : ({ k8s4 with l := crashTo 127 (names k8s4.l) k8s4.l (List.finRange (names k8s4.l).length), left := -1 } : DS) = k8s5 := by
  rw [crash_names 127 k8s4.l (by simp [k8s4])]
  unfold crashed k8s4
  rw [names_one]
  simp only [List.map_cons, List.map_nil]
  rw [show place [(⟨#[97]⟩ : ByteArray)] ⟨#[97]⟩ = 0 from rfl, crashF_127]
  rfl
def k8s6 : DS := ⟨100, [(⟨#[98]⟩, ⟨⟨#[97, 98, 99, 100, 101]⟩, 5⟩)], 5, -1⟩
def k8s7 : DS := ⟨100, [(⟨#[98]⟩, ⟨⟨#[97, 98, 99]⟩, 3⟩)], 6, -1⟩
theorem k8_r5 : readOf k8s5 ⟨#[97]⟩ = (⟨#[97, 98, 99, 100, 101]⟩, 0) := by rfl
theorem k8_6 : k8s5.rename ⟨#[97]⟩ ⟨#[98]⟩ = (0, k8s6) := by rfl
theorem k8_7 : k8s6.cut ⟨#[98]⟩ 3 = (0, k8s7) := by rfl
theorem k8_r7 : readOf k8s7 ⟨#[98]⟩ = (⟨#[97, 98, 99]⟩, 0) := by rfl

theorem chg_below {W w1 w2 : World} {D M : Nat} (hB : Below W.heap.size W w1) (hC : Chg [D, M] w1 w2) (hD : W.heap.size ≤ D) (hM : W.heap.size ≤ M) : Below W.heap.size W w2 :=
  hB.trans (hC.below hB.size (fun b hb => by simp at hb; rcases hb with rfl | rfl <;> assumption))
theorem ok_new (r : Int) : (newDS r).Ok := ⟨by simp [newDS], by simp [newDS], by simp [newDS], by simp [newDS]; omega, by simp [newDS]; omega, by simp [newDS, used]⟩
theorem ok1 : k8s1.Ok := ⟨by decide, by decide, by decide, by decide, by decide, by decide⟩
theorem ok2 : k8s2.Ok := ⟨by decide, by decide, by decide, by decide, by decide, by decide⟩
theorem ok3 : k8s3.Ok := ⟨by decide, by decide, by decide, by decide, by decide, by decide⟩
theorem ok4 : k8s4.Ok := ⟨by decide, by decide, by decide, by decide, by decide, by decide⟩
theorem ok5 : k8s5.Ok := ⟨by decide, by decide, by decide, by decide, by decide, by decide⟩
theorem ok6 : k8s6.Ok := ⟨by decide, by decide, by decide, by decide, by decide, by decide⟩
theorem ok7 : k8s7.Ok := ⟨by decide, by decide, by decide, by decide, by decide, by decide⟩

theorem k8_8 : k8s7.append ⟨#[98]⟩ (zerosB 98) = (17, k8s7) := by rfl
def k8s8 : DS := { k8s7 with left := 0 }
theorem k8_r8 : readOf k8s8 ⟨#[98]⟩ = (⟨#[]⟩, 18) := by rfl
theorem k8_all : allCells (names k8s4.l) k8s4.l (List.finRange (names k8s4.l).length) = [.string ⟨#[97]⟩, .string ⟨#[97, 98, 99, 100, 101, 102, 103, 104]⟩, .int .i64 4] := by
  unfold k8s4
  rw [names_one]
  rfl

set_option maxRecDepth 100000 in
set_option maxHeartbeats 1000000 in
theorem known8_calls (w : World) : Calls Try.prog 41 #[] w fun e w' => e = .returned (.bool true) ∧ Below w.heap.size w w' := by
  have hnil : ∀ (w : World) (D : Nat), (binOp .eql 33 (.pointer (some ⟨D, 0, none⟩)) (.pointer none)).run Try.prog w = .ok (.bool false) w := fun w D => by go_simp
  go_enter Try.func41, Try.ntmps41
  go_wp2_with fail
  refine (new_calls 100 w).mono ?_
  rintro e w1 ⟨D, rfl, M, h1, hD, hM, hB1⟩
  go_wp2_with fail
  have hB1' := hB1
  have h1' := h1
  refine (append_calls D M (newDS 100) (ok_new 100) ⟨#[97]⟩ ⟨#[120]⟩ _ h1).mono ?_
  clear hB1' h1'
  rintro e w2 ⟨rfl, h2, hC⟩
  rw [k8_0] at h2 ⊢
  have hB1' := chg_below hB1 hC hD hM
  have h1' := h2
  clear h1 hB1 hC h2
  have h1 := h1'
  have hB1 := hB1'
  go_wp2_with fail
  refine (create_calls D M (newDS 100) (ok_new 100) ⟨#[97]⟩ _ h1).mono ?_
  clear hB1' h1'
  rintro e w2 ⟨rfl, h2, hC⟩
  rw [k8_1] at h2 ⊢
  have hB1' := chg_below hB1 hC hD hM
  have h1' := h2
  clear h1 hB1 hC h2
  have h1 := h1'
  have hB1 := hB1'
  go_wp2_with fail
  refine (create_calls D M k8s1 ok1 ⟨#[97]⟩ _ h1).mono ?_
  clear hB1' h1'
  rintro e w2 ⟨rfl, h2, hC⟩
  rw [k8_1'] at h2 ⊢
  have hB1' := chg_below hB1 hC hD hM
  have h1' := h2
  clear h1 hB1 hC h2
  have h1 := h1'
  have hB1 := hB1'
  go_wp2_with fail
  refine (append_calls D M k8s1 ok1 ⟨#[97]⟩ ⟨#[97, 98, 99, 100]⟩ _ h1).mono ?_
  clear hB1' h1'
  rintro e w2 ⟨rfl, h2, hC⟩
  rw [k8_2] at h2 ⊢
  have hB1' := chg_below hB1 hC hD hM
  have h1' := h2
  clear h1 hB1 hC h2
  have h1 := h1'
  have hB1 := hB1'
  go_wp2_with fail
  refine (sync_calls D M k8s2 ok2 ⟨#[97]⟩ _ h1).mono ?_
  clear hB1' h1'
  rintro e w2 ⟨rfl, h2, hC⟩
  rw [k8_3] at h2 ⊢
  have hB1' := chg_below hB1 hC hD hM
  have h1' := h2
  clear h1 hB1 hC h2
  have h1 := h1'
  have hB1 := hB1'
  go_wp2_with fail
  refine (append_calls D M k8s3 ok3 ⟨#[97]⟩ ⟨#[101, 102, 103, 104]⟩ _ h1).mono ?_
  clear hB1' h1'
  rintro e w2 ⟨rfl, h2, hC⟩
  rw [k8_4] at h2 ⊢
  have hB1' := chg_below hB1 hC hD hM
  have h1' := h2
  clear h1 hB1 hC h2
  have h1 := h1'
  have hB1 := hB1'
  go_wp2_with fail
  refine (copy_calls D M k8s4 _ h1).mono ?_
  rintro e w3 ⟨D2, rfl, M2, c1, hD2, hM2, hb⟩
  have p1 := h1.blk.lt
  have p2 := h1.map.lt
  have hn1 : D2 ∉ [D, M] := by simp; omega
  have hn2 : M2 ∉ [D, M] := by simp; omega
  clear hB1' h1'
  replace hB1 := hB1.trans (hb.mono hB1.size)
  replace h1 := h1.now hb
  clear hb
  go_wp2_with fail
  refine (crash_calls D M k8s4 (by decide) (by intro p hp; simp [k8s4] at hp; subst hp; exact ⟨by decide, by decide, by decide⟩) 127 (by omega) (by omega) _ h1).mono ?_
  rintro e w4 ⟨⟨v, rfl⟩, h2, hC⟩
  rw [k8_5] at h2
  replace hB1 := chg_below hB1 hC hD hM
  replace c1 := c1.chg hC hn1 hn2
  clear h1 hC
  have h1 := h2
  clear h2
  go_wp2_with fail
  refine (dread_calls D M k8s5 ⟨#[97]⟩ _ h1).mono ?_
  rintro e w4 ⟨rfl, hb⟩
  rw [k8_r5]
  replace hB1 := hB1.trans (hb.mono hB1.size)
  replace c1 := c1.now hb
  replace h1 := h1.now hb
  clear hb
  go_wp2_with fail
  refine (rename_calls D M k8s5 ok5 ⟨#[97]⟩ ⟨#[98]⟩ _ h1).mono ?_
  rintro e w4 ⟨rfl, h2, hC⟩
  rw [k8_6] at h2 ⊢
  replace hB1 := chg_below hB1 hC hD hM
  replace c1 := c1.chg hC hn1 hn2
  clear h1 hC
  have h1 := h2
  clear h2
  go_wp2_with fail
  refine (cut_calls D M k8s6 ok6 ⟨#[98]⟩ 3 _ h1).mono ?_
  rintro e w4 ⟨rfl, h2, hC⟩
  rw [k8_7] at h2 ⊢
  replace hB1 := chg_below hB1 hC hD hM
  replace c1 := c1.chg hC hn1 hn2
  clear h1 hC
  have h1 := h2
  clear h2
  go_wp2_with fail
  refine (dread_calls D M k8s7 ⟨#[98]⟩ _ h1).mono ?_
  rintro e w4 ⟨rfl, hb⟩
  rw [k8_r7]
  replace hB1 := hB1.trans (hb.mono hB1.size)
  replace c1 := c1.now hb
  replace h1 := h1.now hb
  clear hb
  obtain ⟨i0, hi0, hz0, hz1, hz2⟩ := info_parts infoU8
  have hzs := fun (w : World) (g : Nat) => @zeros_str w 0 g 98
  go_wp2_with (at_make; refine wpList_make_full _ rfl _ _ 29 rfl 0 5 i0 _ 1 Try.underlying29 hi0 hz0 hz1 _ _ _ _ 98 rfl rfl rfl rfl (by rw [hz2]; omega) (by unfold maxLen; omega) (Nat.zero_le _) ?_; intro w5 hown hgrow; have hz := zeros_str hown)
  have hbz : Below w4.heap.size w4 w5 := (Below.refl _ w4).grown hgrow (Nat.le_refl _) (fun k e => by cases e)
  replace hB1 := hB1.trans (hbz.mono hB1.size)
  replace c1 := c1.now hbz
  replace h1 := h1.now hbz
  clear hbz hown hgrow hz hzs
  refine (append_calls D M k8s7 ok7 ⟨#[98]⟩ (zerosB 98) _ h1).mono ?_
  rintro e w6 ⟨rfl, h2, hC⟩
  rw [k8_8] at h2 ⊢
  replace hB1 := chg_below hB1 hC hD hM
  replace c1 := c1.chg hC hn1 hn2
  clear h1 hC
  have h1 := h2
  clear h2
  go_wp2_with fail
  refine (limit_calls D M k8s7 0 _ h1).mono ?_
  rintro e w7 ⟨⟨v7, rfl⟩, h2, hC0⟩
  have hC : Chg [D, M] w6 w7 := hC0.more (by simp)
  replace hB1 := chg_below hB1 hC hD hM
  replace c1 := c1.chg hC hn1 hn2
  have h1 : DiskAt w7 D M k8s8 := h2
  clear h2 hC hC0
  go_wp2_with fail
  refine (dread_calls D M k8s8 ⟨#[98]⟩ _ h1).mono ?_
  rintro e w8 ⟨rfl, hb⟩
  rw [k8_r8]
  replace hB1 := hB1.trans (hb.mono hB1.size)
  replace c1 := c1.now hb
  replace h1 := h1.now hb
  clear hb
  go_wp2_with fail
  have q1 := c1.blk.lt
  have q2 := c1.map.lt
  refine (all_calls D2 M2 k8s4 (by decide) _ c1).mono ?_
  rintro e w9 ⟨v9, rfl, hrow, hb⟩
  rw [k8_all, names_length] at hrow
  have hR := Rd.of_owns hrow
  obtain ⟨a9, c9, rfl⟩ := Rd.val hR
  replace hB1 := hB1.trans (hb.mono hB1.size)
  replace c1 := c1.now hb
  replace h1 := h1.now hb
  clear hb
  rw [show k8s4.l.length = 1 from rfl] at *
  obtain ⟨b9, o9, rfl, hb9, _, hc9⟩ := hR.at (by decide)
  have g0 : w9.cell? ⟨b9, o9, none⟩ = some (.string ⟨#[97]⟩) := hc9 0 (by decide)
  have g1 : w9.cell? ⟨b9, o9 + 1, none⟩ = some (.string ⟨#[97, 98, 99, 100, 101, 102, 103, 104]⟩) := hc9 1 (by decide)
  have g2 : w9.cell? ⟨b9, o9 + 2, none⟩ = some (.int .i64 4) := hc9 2 (by decide)
  clear hc9
  have hb9' := (hrow.lt b9 rfl).1
  have HR := Lib.hid hR
  clear hR hrow
  go_wp2_with fail
  refine (used_calls D2 M2 k8s4 (by decide) _ c1).mono ?_
  rintro e w10 ⟨rfl, hb⟩
  rw [show used k8s4.l = 8 from rfl]
  replace hB1 := hB1.trans (hb.mono hB1.size)
  replace c1 := c1.now hb
  replace h1 := h1.now hb
  have HR2 := Lib.hid ((HR.out.below hb (Nat.le_refl _)).up hb.size)
  clear hb HR g0 g1 g2
  go_wp2_with fail
  refine (steps_calls D M k8s8 _ h1).mono ?_
  rintro e w11 ⟨rfl, rfl⟩
  rw [show k8s8.steps = 6 from rfl]
  go_wp2_with fail
  refine (remove_calls D2 M2 k8s4 ok4 ⟨#[97]⟩ _ c1).mono ?_
  rintro e w12 ⟨rfl, c2, hC⟩
  rw [show (k8s4.remove ⟨#[97]⟩).1 = 0 from rfl]
  go_wp2_with fail
  have hn3 : b9 ∉ [D2, M2] := by simp; omega
  have hRf : Rd w12 w12.heap.size 3 (.slice (some ⟨b9, o9, none⟩) 1 c9) 1 (filesCells [(⟨#[97]⟩, ⟨⟨#[97, 98, 99, 100, 101, 102, 103, 104]⟩, 4⟩)]) := by
    have h0 := HR2.out
    obtain ⟨b', o', e, hb, hl, hc⟩ := h0.at (by decide)
    obtain ⟨rfl, rfl⟩ : b9 = b' ∧ o9 = o' := by simpa using e
    exact ⟨rfl, _, _, rfl, h0.cap, fun _ => ⟨b9, o9, rfl, Nat.lt_of_lt_of_le hb hC.size, fun j hj => (World.cell?_of_block (hC.block b9 hb hn3)).trans (hc j hj)⟩⟩
  have hBc := chg_below hB1 hC (by omega) (by omega)
  clear hC c2 h1 c1 HR2
  refine (of_calls 9 (some ⟨b9, o9, none⟩) c9 [(⟨#[97]⟩, ⟨⟨#[97, 98, 99, 100, 101, 102, 103, 104]⟩, 4⟩)] (by decide) w12 hRf).mono ?_
  rintro e w13 ⟨D3, rfl, M3, h3, hD3, hM3, hb3⟩
  replace hBc := hBc.trans (hb3.mono hBc.size)
  go_wp2_with fail
  refine (used_calls D3 M3 _ (by decide) _ h3).mono ?_
  rintro e w14 ⟨rfl, hb4⟩
  rw [show used (ofDS 9 [(⟨#[97]⟩, ⟨⟨#[97, 98, 99, 100, 101, 102, 103, 104]⟩, 4⟩)]).l = 8 from rfl]
  go_wp2
  go_ret
  exact ⟨rfl, hBc.trans (hb4.mono hBc.size)⟩
end Go.Proofs.Ytoaegleieacokaa
