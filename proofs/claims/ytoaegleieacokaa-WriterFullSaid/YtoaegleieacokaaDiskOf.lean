/- Of. -/
import Derived.Test.YtoaegleieacokaaDiskCopy
namespace Go.Proofs.Ytoaegleieacokaa
open Go.RowKit Go.Shelf Go.Sort
attribute [local go_sem] Oper.semAt_some

/-- One file laid onto a new disk: if its name is not there yet, and there is room for a name. -/
def ofStep (l : List (ByteArray × F)) (x : ByteArray × F) : List (ByteArray × F) :=
  if (fk l x.1).isSome = true ∨ 1000 ≤ l.length then l else fup l x.1 ⟨x.2.b, min (max x.2.k 0) x.2.b.size⟩
def ofDS (room : Int) (L : List (ByteArray × F)) : DS := { newDS room with l := L.foldl ofStep [] }

set_option maxRecDepth 100000 in
set_option maxHeartbeats 2000000 in
theorem of_calls (room : Int) (a : Option Addr) (c : Nat) (L : List (ByteArray × F)) (hreach : L.length ≤ 1000000) (w : World) (hs : Rd w w.heap.size 3 (.slice a L.length c) L.length (filesCells L)) :
    Calls Try.prog 42 #[.int .i64 room, .slice a L.length c] w fun e w' => ∃ D, e = .returned (.pointer (some ⟨D, 0, none⟩)) ∧ ∃ M, DiskAt w' D M (ofDS room L) ∧ w.heap.size ≤ D ∧ w.heap.size ≤ M ∧ Below w.heap.size w w' := by
  refine (callsIn_wide (n := 4)).1 ?_
  refine callsIn_of_wp_marks Try.func42 rfl trivial ?_ rfl
  simp only [Try.ntmps42, List.size_toArray, List.length_cons, List.length_nil, Nat.reduceAdd, Nat.reduceSub, Array.replicate_succ, Array.replicate_zero, List.push_toArray, List.append_toArray, List.nil_append, List.cons_append]
  gi_wp2_with (first
    | (refine ⟨trivial, ?_⟩; gi_at_call 23; refine (callsIn_wide.2 (new_calls room _)).mono ?_; rintro e w2 ⟨D, rfl, M, hd, hD, hM, hb2⟩)
    | (refine ⟨trivial, ?_⟩; gi_at_call 87; refine (callsIn_wide.2 (fvalues_calls _ _ _ _)).mono ?_; rintro e w' ⟨rfl, rfl⟩))
  have bD := Boxed.new w2 33 (.pointer (some ⟨D, 0, none⟩))
  have bS := Boxed.new (w2.alloc (.cells #[.pointer (some ⟨D, 0, none⟩)] 33)) 62 (.slice a L.length c)
  rw [World.size_alloc] at bS
  have hB0 : Below w.heap.size w ((w2.alloc (.cells #[.pointer (some ⟨D, 0, none⟩)] 33)).alloc (.cells #[.slice a L.length c] 62)) := hb2.trans ((((Below.refl _ w2).alloc (Nat.le_refl _) _).alloc (by simp) _).mono hb2.size)
  have hd2 := (hd.now ((Below.refl _ w2).alloc (Nat.le_refl _) (.cells #[.pointer (some ⟨D, 0, none⟩)] 33))).now ((Below.refl _ _).alloc (Nat.le_refl _) (.cells #[.slice a L.length c] 62))
  have hsz2 := hb2.size
  have hDl := hd.blk.lt
  have hMl := hd.map.lt
  have hD0 := hD
  have hM0 := hM
  refine wpIn_rangeFunc_ownH rfl (by omega) (gf := 117) (lb := #[.pointer (some ⟨w2.heap.size + 1, 0, none⟩)]) rfl trivial (enters_of Try.func117 (by kernel_rfl) rfl)
    (fvalues_stops 3 (by omega) (w2.heap.size + 1) w.heap.size c a L hreach _ (by simp) bS.cell (by simp; omega) (hs.below hB0 (Nat.le_refl _)))
    belowK_t (belowK_b (by simp; omega)) (Below.refl _ _) (fun _ => rfl)
    (fun pre W => Boxed W w2.heap.size 33 (.pointer (some ⟨D, 0, none⟩)) ∧ DiskAt W D M { newDS room with l := pre.foldl ofStep [] } ∧ Below w.heap.size w W ∧ w2.heap.size + 1 < W.heap.size)
    (fun _ _ _ => False)
    ?own
    (fun _ _ _ _ _ hs _ _ => hs)
    ⟨bD.alloc _, hd2, hB0, by simp⟩
    (fun x a' W => ∃ Bx, w2.heap.size + 1 < Bx ∧ Blk W Bx 65 #[.string x.1, .string x.2.b, .int .i64 x.2.k] ∧ a' = { tmps := #[.int .i64 room, .slice a L.length c, undef, undef, .pointer none, .pointer (some ⟨w2.heap.size, 0, none⟩), .pointer (some ⟨Bx, 0, none⟩), undef, undef, .int .i64 room, .pointer (some ⟨D, 0, none⟩), .slice a L.length c, .func (.func 117) #[] #[.pointer (some ⟨w2.heap.size + 1, 0, none⟩)], .agg #[.string x.1, .string x.2.b, .int .i64 x.2.k], undef, undef, undef, undef, undef, undef, undef, undef, undef, undef, undef, undef, undef, undef, undef, undef, undef, undef, undef, undef, undef, undef, undef, undef, undef, undef, undef, undef, undef, undef, undef, undef, undef, undef, undef, undef], defers := [] }) ?hax ?assign ?body ?done ?stop
  case own =>
    rintro pre A B row ⟨hb1, hd, hB, hx1⟩ hg hr
    have hDs := hd.blk.lt
    have hne : ∀ b, b < w2.heap.size + 1 → some b ≠ row := fun b hb e => by have := (hr b e.symm).1; simp at this; omega
    exact ⟨(hg.block _ hb1.lt (hne _ (by omega))).trans hb1, hd.same (hg.block _ hd.blk.lt (hne _ (by omega))) (hg.block _ hd.map.lt (hne _ (by omega))),
      ⟨hg.os.trans hB.os, hg.tape.trans hB.tape, hg.output.trans hB.output, Nat.le_trans hB.size hg.size, fun k hk => (hg.block k (by omega) (hne _ (by omega))).trans (hB.block k hk)⟩, Nat.lt_of_lt_of_le hx1 hg.size⟩
  case hax =>
    rintro x a' _ A B row ⟨Bx, h1, h2, h3⟩ hg hr
    exact ⟨Bx, h1, (blk_own Bx 65 (fun (_ : Unit) => #[.string x.1, .string x.2.b, .int .i64 x.2.k])) () A B row h2 hg (fun r e => (hr r e).2), h3⟩
  case assign =>
    intro l pre x W K hI hK
    unfold fileVal
    gi_wp2
    obtain ⟨hb1, hd, hB, hx1⟩ := hI
    refine hK _ _ ((KeepsOthers.alloc _ _).from _) (((Below.refl _ W).alloc (Nat.le_refl _) _).mono hB.size) ⟨hb1.alloc _, hd.now ((Below.refl _ W).alloc (Nat.le_refl _) _), hB.alloc hB.size _, by simp; omega⟩ ⟨W.heap.size, hx1, Blk.new _ _ _, rfl⟩
  case body =>
    rintro l pre x a' W hl _ ⟨hb1, hd, hB, hx1⟩ ⟨Bx, hBx, bX, rfl⟩ hlt
    obtain ⟨nm, f⟩ := x
    obtain ⟨T, hT⟩ : ∃ T, pre.foldl ofStep [] = T := ⟨_, rfl⟩
    have HS : Hid ((pre ++ [(nm, f)]).foldl ofStep [] = ofStep T (nm, f)) := by show _ = _; rw [← hT]; simp
    rw [hT] at hd
    clear hT
    have hc1 := hb1.cell
    have d1 : W.cell? ⟨D, 1, none⟩ = some (.map (some M)) := hd.blk.cell 1
    have x0 : W.cell? ⟨Bx, 0, none⟩ = some (.string nm) := bX.cell 0
    have hm := hd.map
    obtain ⟨z, hz, hlook⟩ : ∃ z : F, True ∧ ∀ W', RawMap W' M Value.string (enm F.val T) → (Instr.lookup 100 (.map (some M)) (.string nm) true).run Try.prog W' = .ok (.tuple #[.agg #[.string z.b, .int .i64 z.k], .bool (fk T nm).isSome]) W' := by
      refine ⟨fileAt T nm, trivial, fun W' hW => ?_⟩
      have := run_lookup_raw (P := Try.prog) (w := W') (keyOk_string Try.underlying9) Try.underlying100 zero_file hW nm true
      rw [lk_enm] at this
      rw [this]
      unfold fileAt
      cases fk T nm <;> rfl
    generalize hsome : (fk T nm).isSome = there at *
    have HSome := Lib.hid hsome
    clear hsome hz
    gi_wp2
    refine wpIn_region_take 10 12 (fun W' => W'.cell? ⟨w2.heap.size, 0, none⟩ = some (.pointer (some ⟨D, 0, none⟩)) ∧ W'.cell? ⟨Bx, 0, none⟩ = some (.string nm) ∧ W'.cell? ⟨D, 1, none⟩ = some (.map (some M)) ∧ (Instr.lookup 100 (.map (some M)) (.string nm) true).run Try.prog W' = .ok (.tuple #[.agg #[.string z.b, .int .i64 z.k], .bool there]) W') (by kernel_rfl) (by kernel_rfl) (by kernel_rfl) (by kernel_rfl) (fun _ _ _ _ _ h => h) ?_
    simp only [List.take_succ_cons, List.take_zero, List.drop_succ_cons, List.drop_zero]
    have hc1 := Lib.hid hc1
    have x0 := Lib.hid x0
    have d1 := Lib.hid d1
    repeat
      refine Exists.intro ?_ (And.intro (And.intro (by rfl) ?_) ?_)
      rotate_left
      · intro W' hs
        obtain ⟨s1, s2, s3, s4⟩ := hs
        go_simp
        try with_reducible rfl
      simp only [Act.put, List.setIfInBounds_toArray, List.set_cons_zero, List.set_cons_succ]
    change wpTailS _ _ _ _ _ _ _ _ _
    refine And.intro ⟨hc1.out, x0.out, d1.out, hlook _ (hm.same rfl)⟩ ?_
    have k1 : W.drew.cell? ⟨w2.heap.size, 0, none⟩ = some (.pointer (some ⟨D, 0, none⟩)) := hc1.out
    have k2 : W.drew.cell? ⟨Bx, 0, none⟩ = some (.string nm) := x0.out
    have k3 : W.drew.cell? ⟨D, 1, none⟩ = some (.map (some M)) := d1.out
    have hdd : DiskAt W.drew D M { newDS room with l := T } := hd.same rfl rfl
    have hbd : Boxed W.drew w2.heap.size 33 (.pointer (some ⟨D, 0, none⟩)) := hb1
    have bXd : Blk W.drew Bx 65 #[.string nm, .string f.b, .int .i64 f.k] := bX
    have hK0 : KeepsOthers W W.drew := KeepsOthers.drew W
    have hBd : Below w.heap.size W W.drew := (Below.refl _ W).drew
    have hxd : w2.heap.size + 1 < W.drew.heap.size := hx1
    generalize W.drew = w1 at *
    gi_wp2
    change wpTailS _ _ _ _ _ _ _ _ _
    refine And.intro ⟨(World.cell?_alloc_lt w1 _ ⟨w2.heap.size, 0, none⟩ hbd.lt).trans k1, (World.cell?_alloc_lt w1 _ ⟨Bx, 0, none⟩ bXd.lt).trans k2, (World.cell?_alloc_lt w1 _ ⟨D, 1, none⟩ hdd.blk.lt).trans k3, hlook _ (hdd.map.alloc _)⟩ ?_
    gi_wp2
    change wpTailS _ _ _ _ _ _ _ _ _
    refine And.intro ⟨(World.cell?_alloc_lt w1 _ ⟨w2.heap.size, 0, none⟩ hbd.lt).trans k1, (World.cell?_alloc_lt w1 _ ⟨Bx, 0, none⟩ bXd.lt).trans k2, (World.cell?_alloc_lt w1 _ ⟨D, 1, none⟩ hdd.blk.lt).trans k3, hlook _ (hdd.map.alloc _)⟩ ?_
    gi_wp2
    change wpTailS _ _ _ _ _ _ _ _ _
    unfold wpTailS
    have hbe := hbd.alloc (.cells #[.string z.b, .int .i64 z.k] 106)
    have bXe := bXd.alloc (.cells #[.string z.b, .int .i64 z.k] 106)
    have hde := hdd.now ((Below.refl _ w1).alloc (Nat.le_refl _) (.cells #[.string z.b, .int .i64 z.k] 106))
    have hKe := hK0.trans (KeepsOthers.alloc w1 (.cells #[.string z.b, .int .i64 z.k] 106))
    have hBe : Below w.heap.size W (w1.alloc (.cells #[.string z.b, .int .i64 z.k] 106)) := hBd.alloc (by omega) _
    have hxe : w2.heap.size + 1 < (w1.alloc (.cells #[.string z.b, .int .i64 z.k] 106)).heap.size := by simp; omega
    generalize w1.alloc (.cells #[.string z.b, .int .i64 z.k] 106) = w3 at *
    clear k1 k2 k3 hdd hbd bXd hK0 hBd hxd hc1 x0 d1 hm hlook
    have c0 := hbe.cell
    have e0 : w3.cell? ⟨Bx, 0, none⟩ = some (.string nm) := bXe.cell 0
    have e1 : w3.cell? ⟨Bx, 1, none⟩ = some (.string f.b) := bXe.cell 1
    have e2 : w3.cell? ⟨Bx, 2, none⟩ = some (.int .i64 f.k) := bXe.cell 2
    have g1 : w3.cell? ⟨D, 1, none⟩ = some (.map (some M)) := hde.blk.cell 1
    have hm := hde.map
    have hq : (Builtin.len_ #[100] 3 #[.map (some M)]).run Try.prog w3 = .ok (.int .i64 (T.length : Int)) w3 := by
      have := run_len_raw (P := Try.prog) (w := w3) Try.underlying100 hm 3
      rwa [enm_length] at this
    have hpost : ∀ T', (pre ++ [(nm, f)]).foldl ofStep [] = T' → T' = T → DiskAt w3 D M { newDS room with l := (pre ++ [(nm, f)]).foldl ofStep [] } := fun T' e1 e2 => by rw [e1, e2]; exact hde
    cases there with
    | true =>
      have hst : ofStep T (nm, f) = T := by unfold ofStep; rw [if_pos (.inl HSome.out)]
      gi_wp2
      exact ⟨hKe.from _, hBe, hbe, hpost _ HS.out hst, hB.trans hBe, hxe⟩
    | false =>
      by_cases h10 : 1000 ≤ T.length
      · have hst : ofStep T (nm, f) = T := by unfold ofStep; rw [if_pos (.inr h10)]
        have h10' : (1000 : Int) ≤ (T.length : Int) := by omega
        gi_wp2
        exact ⟨hKe.from _, hBe, hbe, hpost _ HS.out hst, hB.trans hBe, hxe⟩
      · have h10' : (T.length : Int) < (1000 : Int) := by omega
        gi_wp2
        have k0 : w3.drew.cell? ⟨w2.heap.size, 0, none⟩ = some (.pointer (some ⟨D, 0, none⟩)) := c0
        have j0 : w3.drew.cell? ⟨Bx, 0, none⟩ = some (.string nm) := e0
        have j1 : w3.drew.cell? ⟨Bx, 1, none⟩ = some (.string f.b) := e1
        have j2 : w3.drew.cell? ⟨Bx, 2, none⟩ = some (.int .i64 f.k) := e2
        have j3 : w3.drew.cell? ⟨D, 1, none⟩ = some (.map (some M)) := g1
        have hd4 : DiskAt w3.drew D M { newDS room with l := T } := hde.same rfl rfl
        have hg4 : w3.grownBy w3.drew none := ⟨rfl, rfl, rfl, Nat.le_refl _, fun _ _ _ => rfl⟩
        refine wpIn_region_still_tail 16 (by kernel_rfl) (by kernel_rfl) (by kernel_rfl) ?_
        clear c0 e0 e1 e2 g1 hm
        generalize w3.drew = w4 at *
        simp only [List.take_succ_cons, List.take_zero, List.drop_succ_cons, List.drop_zero]
        repeat still_step
        refine wpStill_nil ?_
        clear k0 j0 j1 j2 j3
        have hst : ofStep T (nm, f) = fup T nm ⟨f.b, min (max f.k 0) f.b.size⟩ := by
          unfold ofStep
          rw [if_neg]
          rintro (h1 | h1)
          · rw [HSome.out] at h1; cases h1
          · omega
        have hm4 := hd4.map
        gi_wp2_with (gi_at_mapUpdate; refine wpListIn_mapUpdate_raw rfl _ _ _ rfl (keyOk_string Try.underlying9) Try.underlying100 rfl hm4 nm (.agg #[.string f.b, .int .i64 (min (max f.k 0) (f.b.size : Int))]) rfl rfl ?_; intro w5 hm5 hg5)
        have hgM : w3.grownBy w4 (some M) := ⟨hg4.os, hg4.tape, hg4.output, hg4.size, fun k hk _ => hg4.block k hk (fun e => by cases e)⟩
        have hgA : w3.grownBy w5 (some M) := hgM.andThen hg5 (fun j e => .inr e)
        have hBA : Below w.heap.size w3 w5 := (Below.refl _ w3).grown hgA (by omega) (fun r e => by cases e; exact hM0)
        have hKF : ∀ B, M < B → KeepsFrom B W w5 := fun B hB => (hKe.from B).trans (KeepsFrom.of_grownBy hgA (fun j e => by cases e; exact hB))
        refine ⟨hKF _ (by first | omega | (simp; omega)), hBe.trans hBA, (hgA.block _ hbe.lt (fun e => by have := Option.some.inj e; omega)).trans hbe, ⟨hd4.blk.kept hg5 (fun e => hd4.ne (Option.some.inj e)), ?_, hd4.ne⟩, (hB.trans hBe).trans hBA, Nat.lt_of_lt_of_le hxe hgA.size⟩
        rw [HS.out, hst]
        have e := up_enm F.val T nm ⟨f.b, min (max f.k 0) (f.b.size : Int)⟩
        rw [← e]
        exact hm5
  case done =>
    rintro Df ys W hD hp ⟨hb1, hd, hB, hx1⟩ hK
    have hc1 := hb1.cell
    gi_wp2
    refine ⟨by simp, .inl ⟨_, _, rfl, run_takeDeferred hK, ?_⟩⟩
    have hDs : w2.heap.size + 1 < Df := by simp at hD; omega
    refine ⟨_, results_tmp rfl _ _ _, D, rfl, M, ?_, hD0, hM0, hB.trans (belowK_b (w := w) (Nat.le_refl _) W Df _ _ (by omega) hK rfl rfl)⟩
    subst hp
    exact hd.same (World.putObj_heap_other (show D ≠ Df by omega)) (World.putObj_heap_other (show M ≠ Df by omega))
  case stop =>
    rintro Df c pre W _ _ h _
    exact h.elim
end Go.Proofs.Ytoaegleieacokaa
