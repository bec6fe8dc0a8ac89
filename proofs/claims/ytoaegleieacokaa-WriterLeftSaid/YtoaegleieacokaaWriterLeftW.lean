/- WriterLeft: the walk. -/
import Derived.Test.YtoaegleieacokaaWrArg
import Derived.Test.YtoaegleieacokaaHeadB
import Derived.Deep.RegionHeld3
namespace Go.Proofs.Ytoaegleieacokaa
open Go.RowKit Go.Shelf

/-- A file that is made, with bytes. -/
theorem junk_u {N : Int} {s : DS} (h : Uns N s) {nm : ByteArray} (hf : fk s.l nm = none) (hl : s.l.length < 800) {b : ByteArray} (hb : (used s.l : Int) + b.size ≤ s.room) :
    ∃ s1 s2, s.create nm = (0, s1) ∧ s1.append nm b = (0, s2) ∧ Uns (N + 1) s1 ∧ Uns (N + 2) s2 ∧ s2.room = s.room ∧ s2.l.length ≤ s.l.length + 2 ∧ used s2.l ≤ used s.l + b.size ∧ ∀ k, nm ≠ k → fk s2.l k = fk s.l k := by
  obtain ⟨a1, a2, a3⟩ := create_u h hf (by omega)
  have hu := a3.used
  rw [sizeAt_none' hf] at hu
  have hz : (⟨#[]⟩ : ByteArray).size = 0 := rfl
  simp only [hz] at hu
  have f1 : fk (s.create nm).2.l nm = some ⟨⟨#[]⟩, 0⟩ := by rw [a3.fk, if_pos rfl]
  have hr := a3.room
  have hln := a3.len
  rcases append_u a2 f1 b with ⟨c1, c2, c3, _⟩ | ⟨_, c2⟩
  · have hu2 := c3.used
    rw [sizeAt_some f1, empty_app] at hu2
    simp only [hz] at hu2
    have hr2 := c3.room
    have hln2 := c3.len
    have hk : ∀ k, nm ≠ k → fk ((s.create nm).2.append nm b).2.l k = fk s.l k := fun k hk => by rw [c3.fk, if_neg hk, a3.fk, if_neg hk]
    have t1 : ((s.create nm).2.append nm b).2.room = s.room := by omega
    have t2 : ((s.create nm).2.append nm b).2.l.length ≤ s.l.length + 2 := by omega
    have t3 : used ((s.create nm).2.append nm b).2.l ≤ used s.l + b.size := by omega
    exact ⟨_, _, Prod.ext a1 rfl, Prod.ext c1 rfl, a2, c2.up (by omega), t1, t2, t3, hk⟩
  · omega
theorem head_cut {H Z : ByteArray} (h : H.size = 16) : (H ++ Z).extract 0 16 = H := by
  apply WideShapes.bytes_inj
  have hs : H.data.toList.length = 16 := h
  rw [ByteArray.data_extract, ByteArray.data_append, Array.toList_extract, Array.toList_append]
  show ((H.data.toList ++ Z.data.toList).drop 0).take 16 = _
  rw [List.drop_zero, ← hs, List.take_left']
  rfl
set_option maxRecDepth 100000 in
set_option maxHeartbeats 2000000 in
theorem walk_WriterLeft {W : World} (a0 : ByteArray) (_ : a0.size ≤ maxLen) (a1 : Int) (w1 : (Lit.int .u16 a1).wf = true) :
    Calls Try.prog 9 #[.string a0, .int .u16 a1] W fun e w' => e = .returned (.bool true) ∧ Below W.heap.size W w' := by
  obtain ⟨x0, y0⟩ := wf_u16 w1
  obtain ⟨i0, hi0, hz0, hz1, hz2⟩ := info_parts infoU8
  have id1 : idN 1 = 1 := rfl
  have id2 : idN 2 = 2 := rfl
  have hn1 := rname_calls 1
  have hn2 := rname_calls 2
  have hh2 := rhead_calls 2
  rw [id1] at hn1
  rw [id2] at hn2 hh2
  go_enter Try.func9, Try.ntmps9
  go_wp2_with fail
  refine (known22_calls W).mono ?_
  rintro e w1 ⟨rfl, hB1⟩
  by_cases hlen : 200 < a0.size
  · go_wp2
    go_ret
    exact ⟨rfl, hB1⟩
  have hrm : (newDS 1000000).room = 1000000 := by decide
  have hzu : used (newDS 1000000).l = 0 := rfl
  have hll : (newDS 1000000).l.length = 0 := rfl
  obtain ⟨s1, s2, e1, e2, u1, u2, r2, n2, z2, k2⟩ := junk_u (uns_new 1000000) (nm := nameB 1) rfl (by omega) (b := a0) (by omega)
  obtain ⟨s3, s4, e3, e4, u3, u4, r4, n4, z4, _⟩ := junk_u u2 (nm := nameB 2) ((k2 _ (nameB_ne (by omega) (by omega) (by omega))).trans rfl) (by omega) (b := a0) (by omega)
  go_wp2_with fail
  refine (new_dk 1000000 hB1 hB1.size).mono ?_
  rintro e w2 ⟨D, rfl, M, h⟩
  clear hB1
  go_wp2_with fail
  refine (hn1 w2).mono ?_
  rintro e w3 ⟨rfl, hB⟩
  replace h := h.next hB
  clear hB
  go_wp2_with fail
  refine (create_dk e1 (u1.fit.ok (by decide)) h).mono ?_
  clear h
  rintro e w4 ⟨rfl, h, _⟩
  go_wp2_with fail
  refine (hn1 w4).mono ?_
  rintro e w5 ⟨rfl, hB⟩
  replace h := h.next hB
  clear hB
  go_wp2_with fail
  refine (append_dk e2 (u2.fit.ok (by decide)) h).mono ?_
  clear h
  rintro e w6 ⟨rfl, h, _⟩
  go_wp2_with fail
  refine (hn2 w6).mono ?_
  rintro e w7 ⟨rfl, hB⟩
  replace h := h.next hB
  clear hB
  go_wp2_with fail
  refine (create_dk e3 (u3.fit.ok (by decide)) h).mono ?_
  clear h
  rintro e w8 ⟨rfl, h, _⟩
  go_wp2_with fail
  refine (hn2 w8).mono ?_
  rintro e w9 ⟨rfl, hB⟩
  replace h := h.next hB
  clear hB
  go_wp2_with fail
  refine (append_dk e4 (u4.fit.ok (by decide)) h).mono ?_
  clear h
  rintro e w10 ⟨rfl, h, _⟩
  have hmk := make_g 2100 u4 (by decide) (by omega) (by omega) h
  rw [show limN 2100 = 2100 from rfl] at hmk
  clear h
  go_wp2_with fail
  refine hmk.mono ?_
  clear hmk e1 e2 e3 e4
  rintro e w11 ⟨B, s5, rfl, hg, r5, n5, z5⟩
  have hsg := size_g hg
  rw [show (16 + ((⟨#[]⟩ : ByteArray).size : Int)) = 16 from rfl] at hsg
  go_wp2_with fail
  refine hsg.mono ?_
  clear hsg
  rintro e w12 ⟨rfl, rfl⟩
  obtain ⟨k, hk, hk0, hk1⟩ : ∃ k : Nat, a1 % 1000 + 1050 = (k : Int) ∧ 1050 ≤ k ∧ k ≤ 2049 := ⟨(a1 % 1000 + 1050).toNat, by omega, by omega, by omega⟩
  have hzs := zerosB_size k
  have hes : (⟨#[]⟩ : ByteArray).size = 0 := rfl
  go_wp2_with (at_make; refine wpList_make_full _ rfl _ _ 29 rfl 0 5 i0 _ 1 Try.underlying29 hi0 hz0 hz1 _ _ _ _ k rfl rfl rfl rfl (by rw [hz2]; omega) (by unfold maxLen; omega) (Nat.zero_le _) ?_; intro w13 hown hgrow; have hz := zeros_str hown)
  have hbz : Below w12.heap.size w12 w13 := (Below.refl _ w12).grown hgrow (Nat.le_refl _) (fun k e => by cases e)
  replace hg := hg.next hbz
  refine (write_g (by omega) (by omega) (by simp) (by simp) (by omega) (by omega) (by omega) (zerosB k) (by omega) (by omega) hg).mono ?_
  clear hg hbz hown hgrow hz
  rintro e w14 ⟨e, p, cs', c', s6, rfl, hg, hw, r6, n6, _⟩
  cases hw with
  | begun hro => exact absurd hro.1 (by omega)
  | full bad => omega
  | half bad => omega
  | put hro z6 =>
  simp only [empty_app] at hg z6
  have bP := Blk.new w14 52 #[.int .i64 1, .int .i64 16]
  have hBp : Below w14.heap.size w14 (w14.alloc (.cells #[.int .i64 1, .int .i64 16] 52)) := (Below.refl _ w14).alloc (Nat.le_refl _) _
  have hPB : w14.heap.size ∉ [B, D, M] := by have := hg.wk.lt; have := hg.wk.dk.at'.blk.lt; have := hg.wk.dk.at'.map.lt; simp; omega
  replace hg := hg.next hBp
  clear hBp
  go_wp2_with (at_make; refine wpList_make_full _ rfl _ _ 29 rfl 0 5 i0 _ 1 Try.underlying29 hi0 hz0 hz1 _ _ _ _ k rfl rfl rfl rfl (by rw [hz2]; omega) (by unfold maxLen; omega) (Nat.zero_le _) ?_; intro w15 hown hgrow; have hz := zeros_str hown; simp only [World.size_alloc] at hz)
  generalize w14.alloc (.cells #[.int .i64 1, .int .i64 16] 52) = w14' at *
  have hbz : Below w14'.heap.size w14' w15 := (Below.refl _ w14').grown hgrow (Nat.le_refl _) (fun k e => by cases e)
  replace hg := hg.next hbz
  replace bP := bP.below hbz bP.lt
  refine (write_g (by omega) (by omega) (by simp) (by simp) (by omega) (by omega) (by omega) (zerosB k) (by omega) (by omega) hg).mono ?_
  clear hg hbz hown hgrow hz
  rintro e w16 ⟨e, p, cs', c', s7, rfl, hg, hw, r7, n7, hC⟩
  replace bP := (hC.block _ bP.lt hPB).trans bP
  clear hC hPB
  cases hw with
  | put hro2 => exact absurd (show rolls 2100 (zerosB k) (zerosB k) from ⟨by omega, by omega⟩) hro2
  | full bad => omega
  | half bad => omega
  | begun hro2 z7 =>
  obtain ⟨kp, f2⟩ := hg.img.last
  simp only [List.length_append, List.length_cons, List.length_nil] at f2
  have rd := read_u hg.u f2
  simp only at rd
  have hsz : (headB (1 + (0 + 1)) ++ zerosB k).size = 16 + k := by rw [app_size, headB_size, hzs]
  have hex : (headB (1 + (0 + 1)) ++ zerosB k).extract 0 16 = headB 2 := by
    exact head_cut (headB_size 2)
  rw [show 1 + (0 + 1) = 2 from rfl] at rd hsz hex
  go_wp2_with fail
  have bQ := Blk.new w16 52 #[.int .i64 2, .int .i64 16]
  have hBp : Below w16.heap.size w16 (w16.alloc (.cells #[.int .i64 2, .int .i64 16] 52)) := (Below.refl _ w16).alloc (Nat.le_refl _) _
  replace hg := hg.next hBp
  replace bP := Blk.below bP hBp (Blk.lt bP)
  clear hBp
  generalize w16.alloc (.cells #[.int .i64 2, .int .i64 16] 52) = w17 at *
  refine (hn2 w17).mono ?_
  rintro e w18 ⟨rfl, hB⟩
  have h18 := hg.wk.dk.next hB
  replace bP := Blk.below bP hB (Blk.lt bP)
  replace bQ := bQ.below hB bQ.lt
  have rdc := dread_calls D M s7 (nameB 2) w18 h18.at'
  rw [rd] at rdc
  clear hB hg
  go_wp2_with fail
  refine rdc.mono ?_
  clear rdc
  rintro e w19 ⟨rfl, hB⟩
  have h19 := h18.next hB
  replace bP := Blk.below bP hB (Blk.lt bP)
  replace bQ := bQ.below hB bQ.lt
  have q0 : w19.cell? ⟨w14.heap.size, 0, none⟩ = some (.int .i64 1) := Blk.cell bP 0
  have q1 : w19.cell? ⟨w14.heap.size, 1, none⟩ = some (.int .i64 16) := Blk.cell bP 1
  have q2 : w19.cell? ⟨w16.heap.size, 0, none⟩ = some (.int .i64 2) := bQ.cell 0
  have q3 : w19.cell? ⟨w16.heap.size, 1, none⟩ = some (.int .i64 16) := bQ.cell 1
  clear hB h18
  generalize headB 2 ++ zerosB k = S at *
  have h16 : 16 ≤ S.size := by omega
  have lP := Blk.lt bP
  have lQ := bQ.lt
  have hB0 := Below.refl w19.heap.size w19
  have hw16 : IntKind.i64.wrap (16 + (k : Int)) = (S.size : Int) := by rw [IntKind.wrap_i64]; omega
  have h16' : (16 : Int) ≤ (S.size : Int) := by omega
  clear hsz
  clear bP bQ
  go_wp2_with fail
  go_region_held3 (fun w' => w'.cell? ⟨w14.heap.size, 0, none⟩ = some (.int .i64 1) ∧ w'.cell? ⟨w14.heap.size, 1, none⟩ = some (.int .i64 16) ∧ w'.cell? ⟨w16.heap.size, 0, none⟩ = some (.int .i64 2) ∧ w'.cell? ⟨w16.heap.size, 1, none⟩ = some (.int .i64 16) ∧ Bx (Below w19.heap.size w19 w'))
    (first | exact ⟨q0, q1, q2, q3, ⟨hB0.drew⟩⟩ | exact ⟨kept_cell (w := w19.drew) hB20 ⟨hB0.drew⟩ (Nat.le_refl _) lP q0, kept_cell (w := w19.drew) hB20 ⟨hB0.drew⟩ (Nat.le_refl _) lP q1, kept_cell (w := w19.drew) hB20 ⟨hB0.drew⟩ (Nat.le_refl _) lQ q2, kept_cell (w := w19.drew) hB20 ⟨hB0.drew⟩ (Nat.le_refl _) lQ q3, kept_below (w := w19.drew) hB20 ⟨hB0.drew⟩ (Nat.le_refl _)⟩ | go_keep)
    (first | (go_at_call 40; refine (hh2 _).mono ?_; rintro e w20 ⟨rfl, hB20⟩))
  go_wp2
  go_ret
  exact ⟨rfl, h19.below.trans ((kept_below (w := w19.drew) hB20 ⟨hB0.drew⟩ (Nat.le_refl _)).h.mono h19.size)⟩
end Go.Proofs.Ytoaegleieacokaa
