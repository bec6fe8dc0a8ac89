/- All. -/
import Derived.Test.YtoaegleieacokaaGreatDiskCrash
import Derived.Test.YtoaegleieacokaaGreatTailInM
namespace Go.Proofs.YtoaegleieacokaaGreat
open Go.RowKit Go.Shelf Go.Sort
attribute [local go_sem] Oper.semAt_some

theorem infoFile : (Tryz.prog.info? 83).map (fun i => (i.zero, i.size, i.bytes)) = some (some (.agg #[.string ⟨#[]⟩, .string ⟨#[]⟩, .int .i64 0]), 3, 40) := by kernel_rfl
theorem owns_cells {W : World} {base : Nat} {e : TypeId} {sz : Nat} {v : Value} {n : Nat} {xs : List Value} (h : W.ownsRow base e sz v n xs) : ∀ (j : Nat) (o : Obj), v.ownBlock = some j → W.heap[j]? = some o → o.isCells = true := by
  intro j o hj ho
  rcases h.2 with ⟨rfl, _⟩ | ⟨g, cap, cur, rfl, _, hh, _⟩
  · cases hj
  · obtain rfl : g = j := by simpa [Value.ownBlock] using hj
    rw [hh] at ho
    cases ho
    rfl
/-- A file as All tells it. -/
def fileCells (name : ByteArray) (f : F) : List Value := [.string name, .string f.b, .int .i64 f.k]
def allCells (ns : List ByteArray) (l : List (ByteArray × F)) (pre : List (Fin ns.length)) : List Value := pre.flatMap fun x => fileCells ns[x.val] (fileAt l ns[x.val])

set_option maxRecDepth 100000 in
set_option maxHeartbeats 2000000 in
theorem all_calls (D M : Nat) (s : DS) (hlen : s.l.length ≤ 1000000) (w : World) (h : DiskAt w D M s) :
    Calls Tryz.prog 41 #[.pointer (some ⟨D, 0, none⟩)] w fun e w' => ∃ v, e = .returned v ∧ w'.ownsRow w.heap.size 83 3 v (names s.l).length (allCells (names s.l) s.l (List.finRange (names s.l).length)) ∧ Below w.heap.size w w' := by
  obtain ⟨i0, hi0, hz0, hz1, hz2⟩ := info_parts infoFile
  refine (callsIn_wide (n := 4)).1 ?_
  refine callsIn_of_wp_marks Tryz.func41 rfl trivial ?_ rfl
  simp only [Tryz.ntmps41, List.size_toArray, List.length_cons, List.length_nil, Nat.reduceAdd, Nat.reduceSub, Array.replicate_succ, Array.replicate_zero, List.push_toArray, List.append_toArray, List.nil_append, List.cons_append]
  have bD := Boxed.new w 25 (.pointer (some ⟨D, 0, none⟩))
  have bK := Boxed.new (w.alloc (.cells #[.pointer (some ⟨D, 0, none⟩)] 25)) 80 (.slice none 0 0)
  rw [World.size_alloc] at bK
  have hB0 : Below w.heap.size w ((w.alloc (.cells #[.pointer (some ⟨D, 0, none⟩)] 25)).alloc (.cells #[.slice none 0 0] 80)) := ((Below.refl _ w).alloc (Nat.le_refl _) _).alloc (by simp) _
  have h0 := h.now hB0
  gi_wp2_with (refine ⟨trivial, ?_⟩; gi_at_call 43; refine (callsIn_wide.2 (names_calls D M s hlen _ h0)).mono ?_; rintro e w2 ⟨Bx, rfl, hBx, v, bv, hrow, hb2⟩)
  have hBx2 : w.heap.size + 1 < Bx := by simp at hBx; omega
  have hb3 : Below w.heap.size w w2 := hB0.trans (hb2.mono (by simp; omega))
  have bD2 := boxed_below (bD.alloc (.cells #[.slice none 0 0] 80)) hb2 (by simp; omega)
  have bK2 := boxed_below bK hb2 (by simp)
  replace h0 := h0.now hb2
  have hDl := h.blk.lt
  have hMl := h.map.lt
  have hlen2 : (names s.l).length ≤ 1000000 := by rw [names_length]; exact hlen
  obtain ⟨ns, hns⟩ : ∃ ns, names s.l = ns := ⟨_, rfl⟩
  rw [hns] at hrow hlen2
  have HN := Lib.hid hns
  clear hlen hns
  have hlen := hlen2
  obtain ⟨bs, hbs, hbo, hseq⟩ := all1_stops 3 (by omega) Bx _ v ns hlen w2 bv hrow
  have hbs2 : w.heap.size + 1 < bs := by
    rcases hbo with e | ⟨_, rfl⟩
    · have := (hrow.lt bs e).1; simp at this; omega
    · exact hBx2
  have hBl := bv.lt
  refine wpIn_rangeFunc_ownG rfl (by omega) (gf := 81) (lb := #[.pointer (some ⟨Bx, 0, none⟩)]) rfl trivial (enters_of Tryz.func81 (by kernel_rfl) rfl)
    hseq (fun h k => Keep.trans h k) (keep_b (Nat.zero_le _) (by intro b hb; simp at hb; rcases hb with rfl | rfl <;> assumption)) (Below.refl _ _) (fun _ => rfl)
    (fun pre W => Boxed W w.heap.size 25 (.pointer (some ⟨D, 0, none⟩)) ∧ (∃ u, Boxed W (w.heap.size + 1) 80 u ∧ W.ownsRow w2.heap.size 83 3 u pre.length (allCells ns s.l pre)) ∧ Below w.heap.size w W ∧ w2.heap.size ≤ W.heap.size)
    (fun _ _ _ => False)
    ?own
    (fun _ _ _ _ _ hs _ _ => hs)
    ⟨bD2, ⟨_, bK2, World.ownsRow_nil _ _ _ _⟩, hb3, Nat.le_refl _⟩
    ?a1 ?assign ?body ?done ?stop
  case own =>
    rintro pre A B row ⟨hb1, ⟨u, hb2, hown⟩, hB, hx1⟩ hg hr
    have hbl := hb3.size
    have hsm : w.heap.size + 1 < w2.heap.size := Nat.lt_trans hBx2 hBl
    have hne : ∀ b, b < w2.heap.size → some b ≠ row := fun b hb e => by have := (hr b e.symm).1; omega
    refine ⟨(hg.block _ hb1.lt (hne _ (by omega))).trans hb1, ⟨u, (hg.block _ hb2.lt (hne _ (by omega))).trans hb2, ?_⟩, ?_, Nat.le_trans hx1 hg.size⟩
    · cases hj : u.ownBlock with
      | none => exact hown.kept hg (.inl hj)
      | some j =>
        refine hown.kept hg (.inr fun e => ?_)
        obtain ⟨_, o, ho, hw⟩ := hr j (e.symm.trans hj)
        have := owns_cells hown j o hj ho
        cases o <;> first | (cases hw; done) | (cases this; done)
    · exact ⟨hg.os.trans hB.os, hg.tape.trans hB.tape, hg.output.trans hB.output, Nat.le_trans hB.size hg.size, fun k hk => (hg.block k (by omega) (hne _ (by omega))).trans (hB.block k hk)⟩
  case assign =>
    intro l x W K hK
    unfold nameEnc
    gi_wp2
    exact hK
  case body =>
    rintro l pre x W ⟨hb1, ⟨u, hb2, hown⟩, hB, hx1⟩ hlt
    have hd := h.now hB
    have hc1 := hb1.cell
    have hc2 := hb2.cell
    have d1 : W.cell? ⟨D, 1, none⟩ = some (.map (some M)) := hd.blk.cell 1
    have hm := hd.map
    have hi : x.val < 1000000 := Nat.lt_of_lt_of_le x.isLt hlen
    have HA : Hid (allCells ns s.l (pre ++ [x]) = allCells ns s.l pre ++ fileCells ns[x.val] (fileAt s.l ns[x.val])) := by show _ = _; simp [allCells]
    generalize ns[x.val] = nm at *
    have hl : (lk (enm F.val s.l) nm).getD (.agg #[.string ⟨#[]⟩, .int .i64 0]) = .agg #[.string (fileAt s.l nm).b, .int .i64 (fileAt s.l nm).k] := by
      rw [lk_enm]
      unfold fileAt
      cases fk s.l nm <;> rfl
    have fb := field_b
    have fkk := field_k
    have hlook : ∀ W', RawMap W' M Value.string (enm F.val s.l) → (Instr.lookup 64 (.map (some M)) (.string nm) false).run Tryz.prog W' = .ok (.agg #[.string (fileAt s.l nm).b, .int .i64 (fileAt s.l nm).k]) W' := fun W' hW => by
      have := run_lookup_raw (P := Tryz.prog) (w := W') (keyOk_string Tryz.underlying9) Tryz.underlying64 zero_file hW nm false
      rw [hl] at this
      exact this
    clear hl
    generalize fileAt s.l nm = f at *
    gi_wp2
    refine wpIn_region_take 17 19 (fun W' => W'.cell? ⟨w.heap.size, 0, none⟩ = some (.pointer (some ⟨D, 0, none⟩)) ∧ W'.cell? ⟨w.heap.size + 1, 0, none⟩ = some u ∧ W'.cell? ⟨D, 1, none⟩ = some (.map (some M)) ∧ (Instr.lookup 64 (.map (some M)) (.string nm) false).run Tryz.prog W' = .ok (.agg #[.string f.b, .int .i64 f.k]) W') (by kernel_rfl) (by kernel_rfl) (by kernel_rfl) (by kernel_rfl) (fun _ _ _ _ _ h => h) ?_
    simp only [List.take_succ_cons, List.take_zero, List.drop_succ_cons, List.drop_zero]
    have hc1 := Lib.hid hc1
    have hc2 := Lib.hid hc2
    have d1 := Lib.hid d1
    repeat
      refine Exists.intro ?_ (And.intro (And.intro (by rfl) ?_) ?_)
      rotate_left
      · intro W' hs
        obtain ⟨s1, s2, s3, s4⟩ := hs
        go_simp
        try with_reducible rfl
      simp only [Act.put, List.setIfInBounds_toArray, List.set_cons_zero, List.set_cons_succ]
    change wpTailS _ _ _ _ _ _ _ _ _
    refine And.intro ⟨hc1.out, hc2.out, d1.out, hlook _ (hm.same rfl)⟩ ?_
    have hownd : W.drew.ownsRow w2.heap.size 83 3 u pre.length (allCells ns s.l pre) := hown
    have hk0 : KeepsOthers W W.drew := KeepsOthers.drew W
    have hbx : Boxed W.drew (w.heap.size + 1) 80 u := hb2
    have hg1 : W.grownBy W.drew none := ⟨rfl, rfl, rfl, Nat.le_refl _, fun _ _ _ => rfl⟩
    have hmd : RawMap W.drew M Value.string (enm F.val s.l) := hm.same rfl
    have k1 : W.drew.cell? ⟨w.heap.size, 0, none⟩ = some (.pointer (some ⟨D, 0, none⟩)) := hc1.out
    have k2 : W.drew.cell? ⟨w.heap.size + 1, 0, none⟩ = some u := hc2.out
    have k3 : W.drew.cell? ⟨D, 1, none⟩ = some (.map (some M)) := d1.out
    have n1 : w.heap.size < W.drew.heap.size := hb1.lt
    have n2 : w.heap.size + 1 < W.drew.heap.size := hb2.lt
    have n3 : D < W.drew.heap.size := hd.blk.lt
    generalize W.drew = w1 at *
    gi_wp2
    change wpTailS _ _ _ _ _ _ _ _ _
    refine And.intro ⟨(World.cell?_alloc_lt w1 _ ⟨w.heap.size, 0, none⟩ n1).trans k1, (World.cell?_alloc_lt w1 _ ⟨w.heap.size + 1, 0, none⟩ n2).trans k2, (World.cell?_alloc_lt w1 _ ⟨D, 1, none⟩ n3).trans k3, hlook _ (hmd.alloc _)⟩ ?_
    have hge : w2.heap.size ≤ w1.heap.size := Nat.le_trans hx1 hg1.size
    have hpl : pre.length < 1000000 := Nat.lt_of_lt_of_le hlt hlen
    have hbl := hb3.size
    have hsm : w.heap.size + 1 < w2.heap.size := Nat.lt_trans hBx2 hBl
    gi_wp2_with (gi_at_builtin; refine wpListIn_append_own _ rfl _ _ 80 rfl w2.heap.size 83 i0 _ 3 40 Tryz.underlying80 hi0 hz0 hz1 hz2 rfl (by decide) _ _ _ rfl (hownd.alloc _) ⟨w1.heap.size, 0, none⟩ 1 1 [.string nm, .string f.b, .int .i64 f.k] rfl rfl (cells_new _ _ _) (by simp [Value.oneCell']) (by unfold maxLen; omega) (by omega) (by simp; omega) ?_; intro v' w5 hown' hgrow _)
    change wpTailS _ _ _ _ _ _ _ _ _
    have hrow5 : ∀ k, k < w2.heap.size → w5.heap[k]? = w1.heap[k]? := fun k hk => (hgrow.block k (by simp; omega) (fun e => by have := (hownd.lt k e.symm).1; omega)).trans (Below.heap_alloc _ _ _ (by omega))
    have hb5 : Boxed w5 (w.heap.size + 1) 80 u := (hrow5 _ hsm).trans hbx
    refine And.intro ⟨(World.cell?_of_block (hrow5 _ (by show w.heap.size < _; omega))).trans k1, hb5.cell, (World.cell?_of_block (hrow5 _ (by show D < _; omega))).trans k3, hlook _ (hmd.same (hrow5 _ (by omega)))⟩ ?_
    have c5 := hb5.cell
    have f5 := hb5.frozen
    have hR5 := Rd.of_owns hown'
    obtain ⟨a5, q5, rfl⟩ := Rd.val hR5
    clear hR5
    gi_wp2
    have hT : ∀ k, k < w2.heap.size → k ≠ w.heap.size + 1 → (w5.setCell ⟨w.heap.size + 1, 0, none⟩ (.slice a5 (pre.length + 1) q5)).heap[k]? = W.heap[k]? := fun k hk hne =>
      (Below.heap_setCell _ ⟨w.heap.size + 1, 0, none⟩ _ k hne).trans ((hrow5 k hk).trans (hg1.block k (Nat.lt_of_lt_of_le hk hx1) (by simp)))
    have hsz5 : W.heap.size ≤ (w5.setCell ⟨w.heap.size + 1, 0, none⟩ (.slice a5 (pre.length + 1) q5)).heap.size := by
      have e1 := hg1.size
      have e2 := hgrow.size
      simp [World.setCell] at e2 ⊢
      omega
    have hB6 : Below w.heap.size w (w5.setCell ⟨w.heap.size + 1, 0, none⟩ (.slice a5 (pre.length + 1) q5)) :=
      ⟨hgrow.os.trans (hg1.os.trans hB.os), hgrow.tape.trans (hg1.tape.trans hB.tape), hgrow.output.trans (hg1.output.trans hB.output), Nat.le_trans hB.size hsz5, fun k hk => (hT k (by omega) (by omega)).trans (hB.block k hk)⟩
    have hK6 : KeepsOthers W (w5.setCell ⟨w.heap.size + 1, 0, none⟩ (.slice a5 (pre.length + 1) q5)) :=
      ((hk0.trans (KeepsOthers.alloc w1 _)).trans (KeepsOthers.of_grownBy hgrow (owns_cells (hownd.alloc _)))).trans (KeepsOthers.setCell _ _ _)
    refine ⟨hK6.from _, ⟨⟨hgrow.os.trans hg1.os, hgrow.tape.trans hg1.tape, hgrow.output.trans hg1.output, hsz5, fun k hk => by omega⟩, fun b hb => hT b ?_ ?_⟩, (hT _ (by omega) (by omega)).trans hb1, ⟨_, hb5.set _, ?_⟩, hB6, Nat.le_trans hx1 hsz5⟩
    · simp at hb; rcases hb with rfl | rfl <;> assumption
    · simp at hb; rcases hb with rfl | rfl <;> omega
    · rw [HA.out, List.length_append]
      refine World.ownsRow.kept hown' ⟨rfl, rfl, rfl, by simp [World.setCell], fun k _ hne => Below.heap_setCell _ ⟨w.heap.size + 1, 0, none⟩ _ k (fun e => hne (by rw [e]))⟩ (row := some (w.heap.size + 1)) (.inr ?_)
      intro e
      have := (hown'.lt _ e).1
      omega
  case done =>
    rintro Df ys W hD hp ⟨hb1, ⟨u, hb2, hown⟩, hB, hx1⟩ hK
    have hc2 := hb2.cell
    gi_wp2
    refine ⟨by simp, .inl ⟨_, _, rfl, run_takeDeferred hK, ?_⟩⟩
    have hDs : w.heap.size ≤ Df := by have := hb3.size; omega
    refine ⟨_, results_tmp rfl _ _ _, u, rfl, ?_, ?_⟩
    · have h1 : (W.putObj Df (.deferred none)).ownsRow w2.heap.size 83 3 u ys.length (allCells ns s.l ys) := by
        cases hj : u.ownBlock with
        | none => exact hown.kept (grownBy_putObj' W Df (.deferred none)) (.inl hj)
        | some j =>
          refine hown.kept (grownBy_putObj' W Df (.deferred none)) (.inr fun e => ?_)
          have e2 : j = Df := by rw [hj] at e; simpa using e
          subst e2
          have := owns_cells hown j _ hj hK
          cases this
      rw [HN.out]
      subst hp
      rw [List.length_finRange] at h1
      exact owns_base h1 hb3.size
    · exact hB.trans (belowK_b (w := w) (Nat.le_refl _) W Df _ _ hDs hK rfl rfl)
  case stop =>
    rintro Df c pre W _ _ h _
    exact h.elim
end Go.Proofs.YtoaegleieacokaaGreat
