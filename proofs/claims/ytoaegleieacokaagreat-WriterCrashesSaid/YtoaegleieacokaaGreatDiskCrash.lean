/- Crash. -/
import Derived.Test.YtoaegleieacokaaGreatDiskAll1
import Derived.Test.YtoaegleieacokaaGreatDiskMore
import Derived.Test.YtoaegleieacokaaGreatTailInM
namespace Go.Proofs.YtoaegleieacokaaGreat
open Go.RowKit Go.Shelf Go.Sort
attribute [local go_sem] Oper.semAt_some

theorem boxed_below {W W' : World} {B n : Nat} {t : TypeId} {v : Value} (h : Boxed W B t v) (hb : Below n W W') (hB : B < n) : Boxed W' B t v := (hb.block B hB).trans h
/-- The byte of keep for the i-th file, in the code's own spelling. -/
def crashK (keep : Int) (i : Nat) : Int := bits BinOp.and IntKind.u64 (keep / 2 ^ (i % 8 * 8)) 255
def crashSize (keep : Int) (i : Nat) (f : F) : Int := f.k + (((f.b.size : Int) - f.k) * crashK keep i).tdiv 255
def crashF (keep : Int) (i : Nat) (f : F) : F := ⟨f.b.extract 0 (crashSize keep i f).toNat, crashSize keep i f⟩
def fileAt (l : List (ByteArray × F)) (name : ByteArray) : F := (fk l name).getD ⟨⟨#[]⟩, 0⟩
def crashStep (keep : Int) (ns : List ByteArray) (l : List (ByteArray × F)) (x : Fin ns.length) : List (ByteArray × F) := fup l ns[x.val] (crashF keep x.val (fileAt l ns[x.val]))
def crashTo (keep : Int) (ns : List ByteArray) (l : List (ByteArray × F)) (pre : List (Fin ns.length)) : List (ByteArray × F) := pre.foldl (crashStep keep ns) l

theorem crashK_nat (keep : Int) (h0 : 0 ≤ keep) (h1 : keep < 18446744073709551616) (i : Nat) : crashK keep i = (((keep / 2 ^ (i % 8 * 8)).toNat &&& 255 : Nat) : Int) := by
  have e0 : 0 ≤ keep / 2 ^ (i % 8 * 8) := Int.ediv_nonneg h0 (Int.le_of_lt (Int.pow_pos (by decide)))
  have e1 : keep / 2 ^ (i % 8 * 8) ≤ keep := Int.ediv_le_self _ h0
  unfold crashK
  rw [u64_and _ _ e0 (by omega) (by omega) (by omega)]
  rfl
theorem crashK_le (keep : Int) (h0 : 0 ≤ keep) (h1 : keep < 18446744073709551616) (i : Nat) : 0 ≤ crashK keep i ∧ crashK keep i ≤ 255 := by
  rw [crashK_nat keep h0 h1]
  have : (keep / 2 ^ (i % 8 * 8)).toNat &&& 255 ≤ 255 := Nat.and_le_right
  omega
theorem size_fits (f : F) (kk : Int) (h0 : 0 ≤ f.k) (h1 : f.k ≤ f.b.size) (h2 : f.b.size ≤ 1099511627776) (b0 : 0 ≤ kk) (b1 : kk ≤ 255) :
    wrap64 (((f.b.size : Int) - f.k) * kk) = ((f.b.size : Int) - f.k) * kk ∧ wrap64 ((((f.b.size : Int) - f.k) * kk).tdiv 255) = (((f.b.size : Int) - f.k) * kk).tdiv 255 ∧
    wrap64 (f.k + (((f.b.size : Int) - f.k) * kk).tdiv 255) = f.k + (((f.b.size : Int) - f.k) * kk).tdiv 255 := by
  have e0 : 0 ≤ ((f.b.size : Int) - f.k) * kk := Int.mul_nonneg (by omega) b0
  have e1 : ((f.b.size : Int) - f.k) * kk ≤ ((f.b.size : Int) - f.k) * 255 := Int.mul_le_mul_of_nonneg_left b1 (by omega)
  have e2 : (((f.b.size : Int) - f.k) * kk).tdiv 255 = (((f.b.size : Int) - f.k) * kk) / 255 := Int.tdiv_eq_ediv_of_nonneg e0
  rw [e2]
  generalize ((f.b.size : Int) - f.k) * kk = p at *
  exact ⟨wrap_small e0 (by omega), wrap_small (by omega) (by omega), wrap_small (by omega) (by omega)⟩
structure FOk (f : F) : Prop where
  lo : 0 ≤ f.k
  hi : f.k ≤ f.b.size
  size : f.b.size ≤ 1099511627776
theorem mem_fup {κ β : Type} [DecidableEq κ] {l : List (κ × β)} {k : κ} {v : β} {p : κ × β} (h : p ∈ fup l k v) : p ∈ l ∨ p = (k, v) := by
  unfold fup at h
  split at h
  · obtain ⟨q, hq, e⟩ := List.mem_map.1 h
    split at e
    · exact .inr e.symm
    · exact .inl (e ▸ hq)
  · rcases List.mem_append.1 h with h | h
    · exact .inl h
    · exact .inr (by simpa using h)
theorem fileAt_ok {l : List (ByteArray × F)} (h : ∀ p ∈ l, FOk p.2) (k : ByteArray) : FOk (fileAt l k) := by
  unfold fileAt
  cases hf : fk l k with
  | none => exact ⟨by simp, by simp, by decide⟩
  | some x => exact h _ (fk_mem hf)

set_option maxRecDepth 100000 in
set_option maxHeartbeats 2000000 in
theorem crash_calls (D M : Nat) (s : DS) (hlen : s.l.length ≤ 1000000) (hok : ∀ p ∈ s.l, FOk p.2) (keep : Int) (hk0 : 0 ≤ keep) (hk1 : keep < 18446744073709551616) (w : World) (h : DiskAt w D M s) :
    Calls Tryz.prog 21 #[.pointer (some ⟨D, 0, none⟩), .int .u64 keep] w fun e w' => (∃ v, e = .returned v) ∧ DiskAt w' D M { s with l := crashTo keep (names s.l) s.l (List.finRange (names s.l).length), left := -1 } ∧ Chg [D, M] w w' := by
  refine (callsIn_wide (n := 4)).1 ?_
  refine callsIn_of_wp_marks Tryz.func21 rfl trivial ?_ rfl
  simp only [Tryz.ntmps21, List.size_toArray, List.length_cons, List.length_nil, Nat.reduceAdd, Nat.reduceSub, Array.replicate_succ, Array.replicate_zero, List.push_toArray, List.append_toArray, List.nil_append, List.cons_append]
  have bD := Boxed.new w 25 (.pointer (some ⟨D, 0, none⟩))
  have bK := Boxed.new (w.alloc (.cells #[.pointer (some ⟨D, 0, none⟩)] 25)) 54 (.int .u64 keep)
  rw [World.size_alloc] at bK
  have hB0 : Below w.heap.size w ((w.alloc (.cells #[.pointer (some ⟨D, 0, none⟩)] 25)).alloc (.cells #[.int .u64 keep] 54)) := ((Below.refl _ w).alloc (Nat.le_refl _) _).alloc (by simp) _
  have h0 := h.now hB0
  gi_wp2_with (refine ⟨trivial, ?_⟩; gi_at_call 43; refine (callsIn_wide.2 (names_calls D M s hlen _ h0)).mono ?_; rintro e w2 ⟨Bx, rfl, hBx, v, bv, hrow, hb2⟩)
  have hBx2 : w.heap.size + 1 < Bx := by simp at hBx; omega
  have hb3 : Below w.heap.size w w2 := hB0.trans (hb2.mono (by simp; omega))
  have bD2 := boxed_below (bD.alloc (.cells #[.int .u64 keep] 54)) hb2 (by simp; omega)
  have bK2 := boxed_below bK hb2 (by simp)
  replace h0 := h0.now hb2
  have hDl := h.blk.lt
  have hMl := h.map.lt
  have hlen2 : (names s.l).length ≤ 1000000 := by rw [names_length]; exact hlen
  obtain ⟨ns, hns⟩ : ∃ ns, names s.l = ns := ⟨_, rfl⟩
  rw [hns] at hrow hlen2
  have HN := Lib.hid hns
  clear hlen hns
  have hlen := hlen2
  obtain ⟨bs, hbs, hbo, hseq⟩ := all1_stops 3 (by omega) Bx _ v ns hlen w2 bv hrow
  have hbs2 : w.heap.size + 1 < bs := by
    rcases hbo with e | ⟨_, rfl⟩
    · have := (hrow.lt bs e).1; simp at this; omega
    · exact hBx2
  refine wpIn_rangeFunc_ownG rfl (by omega) (gf := 81) (lb := #[.pointer (some ⟨Bx, 0, none⟩)]) rfl trivial (enters_of Tryz.func81 (by kernel_rfl) rfl)
    hseq (fun h k => Keep.trans h k) (keep_b (Nat.zero_le _) (by have := bv.lt; intro b hb; simp at hb; rcases hb with rfl | rfl <;> assumption)) (Below.refl _ _) (fun _ => rfl)
    (fun pre W => Boxed W w.heap.size 25 (.pointer (some ⟨D, 0, none⟩)) ∧ Boxed W (w.heap.size + 1) 54 (.int .u64 keep) ∧ DiskAt W D M { s with l := crashTo keep ns s.l pre } ∧ (∀ p ∈ crashTo keep ns s.l pre, FOk p.2) ∧ Chg [D, M] w W ∧ Bx < W.heap.size ∧ bs < W.heap.size)
    (fun _ _ _ => False)
    ?own
    (fun _ _ _ _ _ hs _ _ => hs)
    ⟨bD2, bK2, h0, hok, Chg.of_below hb3, bv.lt, hbs⟩
    ?a1 ?assign ?body ?done ?stop
  case own =>
    rintro pre A B row ⟨hb1, hb2, hd, hF, hC, hx1, hx2⟩ hg hr
    have hs2 := hb3.size
    have hne : ∀ b, b < w2.heap.size → some b ≠ row := fun b hb e => by have := (hr b e.symm).1; omega
    have hbase : ∀ r, row = some r → w2.heap.size ≤ r := fun r e => (hr r e).1
    refine ⟨(hg.block _ hb1.lt (hne _ (by omega))).trans hb1, (hg.block _ hb2.lt (hne _ (by omega))).trans hb2, hd.same (hg.block _ hd.blk.lt (hne _ (by omega))) (hg.block _ hd.map.lt (hne _ (by omega))), hF, ?_, Nat.lt_of_lt_of_le hx1 hg.size, Nat.lt_of_lt_of_le hx2 hg.size⟩
    exact ⟨hg.os.trans hC.os, hg.tape.trans hC.tape, hg.output.trans hC.output, Nat.le_trans hC.size hg.size, fun k hk hkb => (hg.block k (Nat.lt_of_lt_of_le hk hC.size) (hne _ (by omega))).trans (hC.block k hk hkb)⟩
  case assign =>
    intro l x W K hK
    unfold nameEnc
    gi_wp2
    exact hK
  case body =>
    rintro l pre x W ⟨hb1, hb2, hd, hF, hC, hx1, hx2⟩ hlt
    have hc1 := hb1.cell
    have hc2 := hb2.cell
    have d1 : W.cell? ⟨D, 1, none⟩ = some (.map (some M)) := hd.blk.cell 1
    obtain ⟨L, hL⟩ : ∃ L, crashTo keep ns s.l pre = L := ⟨_, rfl⟩
    have HS : Hid (crashTo keep ns s.l (pre ++ [x]) = fup L ns[x.val] (crashF keep x.val (fileAt L ns[x.val]))) := by show _ = _; rw [← hL]; simp [crashTo, crashStep]
    rw [hL] at hd hF
    clear hL
    have c1' : ∀ o, (W.alloc o).cell? ⟨w.heap.size, 0, none⟩ = some (.pointer (some ⟨D, 0, none⟩)) := fun o => (World.cell?_alloc_lt W o ⟨w.heap.size, 0, none⟩ hb1.lt).trans hc1
    have c2' : ∀ o, (W.alloc o).cell? ⟨w.heap.size + 1, 0, none⟩ = some (.int .u64 keep) := fun o => (World.cell?_alloc_lt W o ⟨w.heap.size + 1, 0, none⟩ hb2.lt).trans hc2
    have d1' : ∀ o, (W.alloc o).cell? ⟨D, 1, none⟩ = some (.map (some M)) := fun o => (World.cell?_alloc_lt W o ⟨D, 1, none⟩ hd.blk.lt).trans d1
    have hm := hd.map
    have hi : x.val < 1000000 := Nat.lt_of_lt_of_le x.isLt hlen
    generalize ns[x.val] = nm at *
    have hl : (lk (enm F.val L) nm).getD (.agg #[.string ⟨#[]⟩, .int .i64 0]) = .agg #[.string (fileAt L nm).b, .int .i64 (fileAt L nm).k] := by
      rw [lk_enm]
      unfold fileAt
      cases fk L nm <;> rfl
    obtain ⟨f0, f1, f2⟩ := fileAt_ok hF nm
    generalize fileAt L nm = f at *
    generalize x.val = i at *
    gi_wp2_with (gi_at_lookup; refine wpListIn_lookup_raw rfl _ _ false rfl (keyOk_string Tryz.underlying9) Tryz.underlying64 _ zero_file rfl hm nm rfl ?_; rw [hl])
    have hS : crashSize keep i f = f.k + (((f.b.size : Int) - f.k) * bits BinOp.and IntKind.u64 (keep / 2 ^ (i % 8 * 8)) 255).tdiv 255 := rfl
    obtain ⟨b0, b1⟩ := crashK_le keep hk0 hk1 i
    unfold crashK at b0 b1
    generalize bits BinOp.and IntKind.u64 (keep / 2 ^ (i % 8 * 8)) 255 = kk at *
    obtain ⟨q1, q2, q3⟩ := size_fits f kk f0 f1 f2 b0 b1
    rw [wrap_small b0 (by omega), q1, q2, q3]
    rw [← hS]
    have e0 : 0 ≤ ((f.b.size : Int) - f.k) * kk := Int.mul_nonneg (by omega) b0
    have e1 : ((f.b.size : Int) - f.k) * kk ≤ ((f.b.size : Int) - f.k) * 255 := Int.mul_le_mul_of_nonneg_left b1 (by omega)
    have hz : 0 ≤ crashSize keep i f ∧ crashSize keep i f ≤ f.b.size := by
      rw [hS, Int.tdiv_eq_ediv_of_nonneg e0]
      generalize ((f.b.size : Int) - f.k) * kk = p at *
      constructor <;> omega
    obtain ⟨z0, z1⟩ := hz
    have HF : Hid (crashF keep i f = ⟨f.b.extract 0 (crashSize keep i f).toNat, crashSize keep i f⟩) := rfl
    clear hS q1 q2 q3 e0 e1 b0 b1
    generalize crashSize keep i f = sz at *
    obtain ⟨o, ho⟩ : ∃ o, Obj.cells #[.string f.b, .int .i64 f.k] 89 = o := ⟨_, rfl⟩
    have dn := Blk.new W 89 #[.string f.b, .int .i64 f.k]
    have hgw : W.grownBy (W.alloc (.cells #[.string f.b, .int .i64 f.k] 89)).drew (some M) := ⟨rfl, rfl, rfl, by show _ ≤ (W.alloc _).heap.size; simp, fun k hk _ => Below.heap_alloc _ _ _ hk⟩
    have hd1 : DiskAt (W.alloc (.cells #[.string f.b, .int .i64 f.k] 89)).drew D M { s with l := L } := (hd.now ((Below.refl _ W).alloc (Nat.le_refl _) _)).same rfl rfl
    have g0 : (W.alloc (.cells #[.string f.b, .int .i64 f.k] 89)).drew.cell? ⟨W.heap.size, 0, none⟩ = some (.string f.b) := dn.cell 0
    have g1 : (W.alloc (.cells #[.string f.b, .int .i64 f.k] 89)).drew.cell? ⟨w.heap.size, 0, none⟩ = some (.pointer (some ⟨D, 0, none⟩)) := c1' _
    have g2 : (W.alloc (.cells #[.string f.b, .int .i64 f.k] 89)).drew.cell? ⟨D, 1, none⟩ = some (.map (some M)) := d1' _
    refine wpIn_region_still_tail 11 (by kernel_rfl) (by kernel_rfl) (by kernel_rfl) ?_
    clear dn c1' c2' d1' hm hl hc1 hc2 d1
    generalize (W.alloc (.cells #[.string f.b, .int .i64 f.k] 89)).drew = w1 at *
    simp only [List.take_succ_cons, List.take_zero, List.drop_succ_cons, List.drop_zero]
    repeat still_step
    refine wpStill_nil ?_
    clear g0 g1 g2
    have hm := hd1.map
    gi_wp2_with (gi_at_mapUpdate; refine wpListIn_mapUpdate_raw rfl _ _ _ rfl (keyOk_string Tryz.underlying9) Tryz.underlying64 rfl hm nm (.agg #[.string (f.b.extract 0 sz.toNat), .int .i64 sz]) rfl rfl ?_; intro w3 hm3 hg3)
    have hgA : W.grownBy w3 (some M) := hgw.andThen hg3 (fun j e => .inr e)
    have hs2 := hb3.size
    refine ⟨KeepsFrom.of_grownBy hgA (fun j e => by cases e; omega), ⟨(Below.refl 0 W).grown hgA (Nat.zero_le _) (fun _ _ => Nat.zero_le _), fun b hb => hgA.block b ?_ ?_⟩, (hgA.block _ hb1.lt (by simp; omega)).trans hb1, (hgA.block _ hb2.lt (by simp; omega)).trans hb2, ⟨hd1.blk.kept hg3 (fun e => hd1.ne (by simpa using e)), ?_, h.ne⟩, ?_, hC.trans (Chg.grown hgA (fun r e => by cases e; simp)), Nat.lt_of_lt_of_le hx1 hgA.size, Nat.lt_of_lt_of_le hx2 hgA.size⟩
    · simp at hb; rcases hb with rfl | rfl <;> assumption
    · simp at hb; simp; rcases hb with rfl | rfl <;> omega
    · rw [HS.out, HF.out]
      have e := up_enm F.val L nm ⟨f.b.extract 0 sz.toNat, sz⟩
      rw [← e]
      exact hm3
    · intro a b hab
      rw [HS.out, HF.out] at hab
      rcases mem_fup hab with h1 | h1
      · exact hF _ h1
      · cases h1
        refine ⟨z0, ?_, ?_⟩
        · simp [ByteArray.size_extract]; omega
        · simp [ByteArray.size_extract]; omega
  case done =>
    rintro Df ys W hD hp ⟨hb1, hb2, hd, hF, hC, hx1, hx2⟩ hK
    have hc1 := hb1.cell
    have d3 : W.cell? ⟨D, 3, none⟩ = some (.int .i64 s.left) := hd.blk.cell 3
    have f3 := hd.blk.frozen 3
    gi_wp2
    have hK' := (KeepsOthers.setCell W ⟨D, 3, none⟩ (.int .i64 (-1))).same Df _ hK rfl
    refine ⟨by simp, .inl ⟨_, _, rfl, run_takeDeferred hK', ?_⟩⟩
    refine ⟨_, results_none rfl _ _ _, ⟨_, rfl⟩, ?_, ?_⟩
    · subst hp
      have hd' : DiskAt (W.setCell ⟨D, 3, none⟩ (.int .i64 (-1))) D M { s with l := crashTo keep ns s.l (List.finRange ns.length), left := -1 } := ⟨hd.blk.set 3 (.int .i64 (-1)), hd.map.setCell _ _, hd.ne⟩
      have hs2 := hb3.size
      rw [HN.out]
      exact hd'.same (World.putObj_heap_other (show D ≠ Df by omega)) (World.putObj_heap_other (show M ≠ Df by omega))
    · have hs2 := hb3.size
      have hs3 := hC.size
      have hC2 := hC.trans (Chg.setCell (W := W) (p := ⟨D, 3, none⟩) (by simp) (.int .i64 (-1)))
      exact ⟨hC2.os, hC2.tape, hC2.output, Nat.le_trans hC2.size (by simp), fun k hk hkb => (World.putObj_heap_other (show k ≠ Df by omega)).trans (hC2.block k hk hkb)⟩
  case stop =>
    rintro Df c pre W _ _ h _
    exact h.elim
end Go.Proofs.YtoaegleieacokaaGreat
