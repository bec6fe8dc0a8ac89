/- WriterPlays: the walk. -/
import Derived.Test.YtoaegleieacokaaGreatPlayLM
import Derived.Deep.CutBlock
namespace Go.Proofs.YtoaegleieacokaaGreat
open Go.RowKit Go.Shelf

set_option maxRecDepth 100000 in
set_option maxHeartbeats 4000000 in
theorem walk_WriterPlays {W : World} (a0 : Int) (_ : (Lit.int .i64 a0).wf = true) (a1 : Option Addr) (c1 : Nat) (l1 : List Wt) (r1 : Rd W W.heap.size 3 (.slice a1 l1.length c1) l1.length (l1.flatMap Wt.cells)) (hc1 : c1 ≤ maxLen) (g1 : ∀ x ∈ l1, x.Good) :
    Calls Tryz.prog 3 #[.int .i64 a0, .slice a1 l1.length c1] W fun e w' => e = .returned (.bool true) ∧ Below W.heap.size W w' := by
  have hcap := r1.cap
  have hh1 := fun w' => rhead_calls 1 w'
  rw [show idN 1 = 1 from rfl] at hh1
  go_enter Tryz.func3, Tryz.ntmps3
  go_wp2_with fail
  refine (known22_calls W).mono ?_
  rintro e w1 ⟨rfl, hB1⟩
  go_wp2_with fail
  refine (few_calls a1 c1 l1 (by omega) w1 ((r1.below hB1 (Nat.le_refl _)).up hB1.size)).mono ?_
  rintro e w2 ⟨r, rfl, hr, hB2⟩
  replace hB2 := hB1.trans (hB2.mono hB1.size)
  clear hB1 hcap hc1
  cases r with
  | false =>
    go_wp2
    go_ret
    exact ⟨rfl, hB2⟩
  | true =>
    have HFEW := Lib.hid (hr rfl)
    clear hr
    go_wp2_with fail
    refine (new_dk 1000000 hB2 hB2.size).mono ?_
    rintro e w3 ⟨D, rfl, M, hd⟩
    clear hB2
    go_wp2_with fail
    refine (make_only (X := []) a0 1000000 (by decide) (by simp) hd).mono ?_
    clear hd
    rintro e w4 ⟨B, s4, rfl, hg, ho, hr4, hl4, hu4⟩
    rw [show (newDS 1000000).room = 1000000 from by decide] at hr4
    have hB5 : Below w4.heap.size w4 (w4.alloc (.cells #[.int .i64 1] 3)) := (Below.refl _ w4).alloc (Nat.le_refl _) _
    have ri := RowAt.lit w4 3 (.int .i64 1)
    go_wp2_with fail
    generalize w4.alloc (.cells #[.int .i64 1] 3) = w5 at *
    refine (hh1 w5).mono ?_
    clear hh1
    rintro e w6 ⟨rfl, hB6⟩
    replace ri := ri.below hB6 ri.lt
    have rb := RowAt.lit w6 9 (.string (headB 1))
    have hB7 : Below w6.heap.size w6 ((w6.alloc (.cells #[.string (headB 1)] 9)).alloc (.cells #[.slice (some ⟨w4.heap.size, 0, none⟩) 1 1, .slice (some ⟨w6.heap.size, 0, none⟩) 1 1, .int .i64 (limN a0)] 36)) := ((Below.refl _ w6).alloc (Nat.le_refl _) _).alloc (by simp) _
    have bI := Blk.new (w6.alloc (.cells #[.string (headB 1)] 9)) 36 #[.slice (some ⟨w4.heap.size, 0, none⟩) 1 1, .slice (some ⟨w6.heap.size, 0, none⟩) 1 1, .int .i64 (limN a0)]
    have hlm : max 2100 (min a0 100000) = limN a0 := by unfold limN; omega
    have hlm2 : 0 ≤ limN a0 ∧ limN a0 ≤ 1000000 := by unfold limN; omega
    go_wp2_with fail
    rw [World.size_alloc] at bI
    have h46 : w4.heap.size < w6.heap.size := ri.lt
    have hng := hg.wk.dk.size
    have hB47 : Below w4.heap.size w4 ((w6.alloc (.cells #[.string (headB 1)] 9)).alloc (.cells #[.slice (some ⟨w4.heap.size, 0, none⟩) 1 1, .slice (some ⟨w6.heap.size, 0, none⟩) 1 1, .int .i64 (limN a0)] 36)) := hB5.trans ((hB6.mono hB5.size).trans (hB7.mono (by omega)))
    have hB67 : Below (w6.heap.size + 1) (w6.alloc (.cells #[.string (headB 1)] 9)) ((w6.alloc (.cells #[.string (headB 1)] 9)).alloc (.cells #[.slice (some ⟨w4.heap.size, 0, none⟩) 1 1, .slice (some ⟨w6.heap.size, 0, none⟩) 1 1, .int .i64 (limN a0)] 36)) := (Below.refl _ _).alloc (by simp) _
    have him : Im W.heap.size (w6.heap.size + 1) w4.heap.size w6.heap.size (limN a0) 1 [] ⟨#[]⟩ ((w6.alloc (.cells #[.string (headB 1)] 9)).alloc (.cells #[.slice (some ⟨w4.heap.size, 0, none⟩) 1 1, .slice (some ⟨w6.heap.size, 0, none⟩) 1 1, .int .i64 (limN a0)] 36)) :=
      ⟨by omega, by omega, by omega, ⟨by omega, by omega, by omega⟩, 0, 1, 0, 1, bI, ri.below hB7 h46, by
        have := rb.below hB67 (by omega)
        show RowAt _ _ _ _ _ _ [.string (headB 1 ++ ⟨#[]⟩)]
        rw [app_empty]
        exact this⟩
    have hlt := him.lts
    have hPl : Pl W.heap.size W D M (w6.heap.size + 1) (limN a0) 1 B w4.heap.size w6.heap.size 1 [] ⟨#[]⟩ s4 16 ((w6.alloc (.cells #[.string (headB 1)] 9)).alloc (.cells #[.slice (some ⟨w4.heap.size, 0, none⟩) 1 1, .slice (some ⟨w6.heap.size, 0, none⟩) 1 1, .int .i64 (limN a0)] 36)) :=
      ⟨⟨hg.wk.turn (Y := []) (Chg.of_below hB47) (by simp) (by simp) (by simp) (fun x hx => by
        simp only [List.mem_cons, List.not_mem_nil, or_false] at hx
        rcases hx with rfl | rfl | rfl
        · exact ⟨.inr (by omega), hlt.1⟩
        · exact ⟨.inr (by omega), hlt.2.1⟩
        · exact ⟨.inr (by omega), hlt.2.2⟩), hg.u, hg.img⟩, him, ho, hr4, hlm2, by omega, by simp, by simp [ByteArray.size], by omega, by omega, by omega⟩
    clear him hlt hB47 hB67 h46 hng bI hB7 rb ri hB6 hB5 hg ho hr4 hl4 hu4 hlm hlm2
    generalize (w6.alloc (.cells #[.string (headB 1)] 9)).alloc (.cells #[.slice (some ⟨w4.heap.size, 0, none⟩) 1 1, .slice (some ⟨w6.heap.size, 0, none⟩) 1 1, .int .i64 (limN a0)] 36) = w7 at *
    generalize hI : w6.heap.size + 1 = I at *
    clear hI
    generalize w4.heap.size = gi0 at *
    generalize w6.heap.size = gb0 at *
    go_loopw [6, 9] (fun p i wr => ∃ k : Nat, k ≤ l1.length ∧ i = .int .i64 k ∧ ∃ B gi gb a cs c s N, p = .pointer (some ⟨B, 0, none⟩) ∧ Pl W.heap.size W D M I (limN a0) (9 * k + 1) B gi gb a cs c s N wr) (fun _ i _ => l1.length - (intOf i).toNat)
    case atStart => exact ⟨0, Nat.zero_le _, rfl, _, _, _, _, _, _, _, _, rfl, hPl⟩
    case round =>
      clear hPl
      obtain ⟨k, hk, rfl, B, gi, gb, a, cs, c, s, N, rfl, hp⟩ := hrel
      by_cases hlt : k < l1.length
      · obtain ⟨b1, o1, rfl, hb1, q0, q1, q2⟩ := wt_cells r1 k hlt
        have hgood := g1 _ (List.getElem_mem hlt)
        have h20 := HFEW.out.1
        have hbsz := HFEW.out.2 k hlt
        generalize l1[k] = x at *
        obtain ⟨xw, xb, xt⟩ := x
        obtain ⟨t0, t1⟩ := hgood
        simp only at q0 q1 q2 hbsz t0 t1
        have hz : (0 : Int) ≤ (k : Int) := by omega
        have hz2 : (k : Int) < (l1.length : Int) := by omega
        have hcl : ∀ w', Below W.heap.size W w' → w'.cell? ⟨b1, o1 + k * 3, none⟩ = some (.int .i64 xw) ∧ w'.cell? ⟨b1, o1 + k * 3 + 1, none⟩ = some (.string xb) ∧ w'.cell? ⟨b1, o1 + k * 3 + 2, none⟩ = some (.int .u8 xt) := fun w' hb =>
          ⟨(hb.cell (p := ⟨b1, o1 + k * 3, none⟩) hb1).trans q0, (hb.cell (p := ⟨b1, o1 + k * 3 + 1, none⟩) hb1).trans q1, (hb.cell (p := ⟨b1, o1 + k * 3 + 2, none⟩) hb1).trans q2⟩
        have HCL := Lib.hid hcl
        clear hcl q0 q1 q2 g1 r1
        have hK : 9 * k + 10 ≤ 190 := by omega
        go_upto_block 2 with fail
        go_cut [6] from 41 to 229 (fun p wx => ∃ B gi gb a cs c s N, p = .pointer (some ⟨B, 0, none⟩) ∧ Pl W.heap.size W D M I (limN a0) (9 * k + 10) B gi gb a cs c s N wx)
        case first =>
          as_aux_lemma =>
            obtain ⟨q0, q1, q2⟩ := HCL.out _ hp.g.wk.dk.below
            by_cases h4 : xw ≤ 4
            · have d4 : decide (xw ≤ 4) = true := decide_eq_true h4
              have ht : (0 : Int) ≤ xt % 8 ∧ xt % 8 < 8 := by omega
              go_wp2_with fail
              go_loopw [10] (fun j wr2 => ∃ m : Nat, (m : Int) ≤ xt % 8 + 1 ∧ j = .int .i64 m ∧ ∃ gi gb a cs c s N, Pl W.heap.size W D M I (limN a0) (9 * k + 1 + m) B gi gb a cs c s N wr2) (fun j _ => 9 - (intOf j).toNat)
              case atStart => exact ⟨0, by omega, rfl, gi, gb, a, cs, c, s, N, hp⟩
              case round =>
                clear hp q0 q1 q2
                obtain ⟨m, hm, rfl, gi, gb, a, cs, c, s, N, hp⟩ := hrel
                obtain ⟨q0, q1, q2⟩ := HCL.out _ hp.g.wk.dk.below
                by_cases hml : (m : Int) < xt % 8 + 1
                · have dm : decide ((m : Int) < xt % 8 + 1) = true := decide_eq_true hml
                  by_cases hbad : xb.size = 0 ∨ 2084 < xb.size
                  · have hw := fun w' => write_bad (B := B) xb hbad w'
                    go_wp2_with fail
                    refine (hw _).mono ?_
                    clear hw
                    rintro e w8 ⟨rfl, hB8⟩
                    replace hp := hp.next hB8
                    have hB9 : Below w8.heap.size w8 (w8.alloc (.cells #[.int .i64 0, .int .i64 0] 40)) := (Below.refl _ w8).alloc (Nat.le_refl _) _
                    have bP := Blk.new w8 40 #[.int .i64 0, .int .i64 0]
                    replace hp := hp.next hB9
                    obtain ⟨q0', q1', q2'⟩ := HCL.out _ hp.g.wk.dk.below
                    have p0 : (w8.alloc (.cells #[.int .i64 0, .int .i64 0] 40)).cell? ⟨w8.heap.size, 0, none⟩ = some (.int .i64 0) := bP.cell 0
                    have p1 : (w8.alloc (.cells #[.int .i64 0, .int .i64 0] 40)).cell? ⟨w8.heap.size, 1, none⟩ = some (.int .i64 0) := bP.cell 1
                    clear q0 q1 q2 hB8 hB9 bP
                    rcases hbad with hb0 | hb0
                    · have hz0 : xb = ⟨#[]⟩ := by
                        obtain ⟨⟨l⟩⟩ := xb
                        cases l with
                        | nil => rfl
                        | cons x l => simp [ByteArray.size] at hb0
                      subst hz0
                      clear hb0 hbsz
                      go_wp2_with fail
                      go_roundw
                      case rel => exact ⟨m + 1, by omega, by simp, gi, gb, a, cs, c, s, N, hp.up (by omega)⟩
                      case measure => simp [intOf]; omega
                    · obtain ⟨z1, z3, z2⟩ := size_list (b := xb) (by omega)
                      have d1 : decide (2084 < (xb.size : Int)) = true := decide_eq_true (by omega)
                      go_wp2_with fail
                      go_roundw
                      case rel => exact ⟨m + 1, by omega, by simp, gi, gb, a, cs, c, s, N, hp.up (by omega)⟩
                      case measure => simp [intOf]; omega
                  · have hw := write_pl (by omega) xb (by omega) (by omega) hp
                    go_wp2_with fail
                    refine hw.mono ?_
                    clear hw hp
                    rintro e w8 ⟨x1, y1, cs', c', s', N', rfl, hmid, hC⟩
                    have hB9 : Below w8.heap.size w8 (w8.alloc (.cells #[.int .i64 x1, .int .i64 y1] 40)) := (Below.refl _ w8).alloc (Nat.le_refl _) _
                    have bP := Blk.new w8 40 #[.int .i64 x1, .int .i64 y1]
                    have hlts := hmid.im.lts
                    have hPn : w8.heap.size ∉ [I, gi, gb] := by simp; omega
                    replace hmid := hmid.next hB9
                    obtain ⟨q0', q1', q2'⟩ := HCL.out _ hmid.g.wk.dk.below
                    have hbn : b1 ∉ [I, gi, gb] := by have := hmid.im.hI; have := hmid.im.hi; have := hmid.im.hb; simp; omega
                    have p0 : (w8.alloc (.cells #[.int .i64 x1, .int .i64 y1] 40)).cell? ⟨w8.heap.size, 0, none⟩ = some (.int .i64 x1) := bP.cell 0
                    have p1 : (w8.alloc (.cells #[.int .i64 x1, .int .i64 y1] 40)).cell? ⟨w8.heap.size, 1, none⟩ = some (.int .i64 y1) := bP.cell 1
                    have lP := bP.lt
                    have lb : b1 < (w8.alloc (.cells #[.int .i64 x1, .int .i64 y1] 40)).heap.size := Nat.lt_of_lt_of_le hb1 hmid.g.wk.dk.below.size
                    clear q0 q1 q2 hC hB9 bP hlts
                    obtain ⟨z1, z3, z2⟩ := size_list (b := xb) (by omega)
                    have d1 : decide (2084 < (xb.size : Int)) = false := decide_eq_false (by omega)
                    go_wp2_with fail
                    generalize w8.alloc (.cells #[.int .i64 x1, .int .i64 y1] 40) = w9 at *
                    generalize w8.heap.size = Pb at *
                    have hput := put_mid (by omega) (hmid.next (Below.refl _ w9).drew)
                    clear hmid
                    go_region_held3 (fun w' => w'.cell? ⟨Pb, 0, none⟩ = some (.int .i64 x1) ∧ w'.cell? ⟨Pb, 1, none⟩ = some (.int .i64 y1) ∧ w'.cell? ⟨b1, o1 + k * 3 + 1, none⟩ = some (.string xb))
                      (first | exact ⟨p0, p1, q1'⟩ | exact ⟨hC10.cell hPn lP p0, hC10.cell hPn lP p1, hC10.cell hbn lb q1'⟩)
                      (first | (go_at_call 11; refine hput.mono ?_; clear hput; rintro e w10 ⟨rfl, hpl, hC10⟩))
                    go_wp2_with fail
                    obtain ⟨gi', gb', hpl⟩ := hpl
                    go_roundw
                    case rel => exact ⟨m + 1, by omega, by simp, gi', gb', a, cs', c', s', N', hpl⟩
                    case measure => simp [intOf]; omega
                · have dm : decide ((m : Int) < xt % 8 + 1) = false := decide_eq_false hml
                  go_wp2_with fail
                  go_meet
                  exact ⟨_, _, _, _, _, _, _, _, rfl, hp.up (by omega)⟩
            · have d4 : decide (xw ≤ 4) = false := decide_eq_false h4
              by_cases h5 : xw = 5
              · have e5 : (xw == 5) = true := by simp [h5]
                clear h5 h4
                go_wp2_with fail
                refine (sync_pl (by omega) hp).mono ?_
                clear hp
                rintro e w' ⟨rfl, s', N', hp'⟩
                go_wp2_with fail
                go_meet
                exact ⟨_, _, _, _, _, _, _, _, rfl, hp'.up (by omega)⟩
              · have e5 : (xw == 5) = false := by simp [h5]
                by_cases h6 : xw = 6
                · have e6 : (xw == 6) = true := by simp [h6]
                  clear h4 h5 h6
                  have h1 := hp.hac
                  cases cs with
                  | nil =>
                    obtain ⟨oi, ki, ob, kb, r1, r2, r3⟩ := hp.im.rows
                    have i0 : wr.cell? ⟨I, 0, none⟩ = some (.slice (some ⟨gi, oi, none⟩) 1 ki) := r1.cell 0
                    have hdr := drop1_pl rfl hp
                    clear r1 r2 r3
                    go_wp2_with fail
                    refine hdr.mono ?_
                    clear hdr
                    rintro e w' ⟨rfl, rfl⟩
                    go_wp2_with fail
                    go_meet
                    exact ⟨_, _, _, _, _, _, _, _, rfl, hp.up (by omega)⟩
                  | cons y cs =>
                    have hdr := drop_pl (by omega) hp
                    clear hp
                    go_wp2_with fail
                    refine hdr.mono ?_
                    clear hdr
                    rintro e w8 ⟨rfl, s', N', hc⟩
                    obtain ⟨oi, ki, ob, kb, r1, r2, r3⟩ := hc.im.rows
                    have hfin := hc.done r1 r2 r3
                    have i0 : w8.cell? ⟨I, 0, none⟩ = some (.slice (some ⟨gi, oi, none⟩) (cs.length + 1 + 1) ki) := r1.cell 0
                    have i1 : w8.cell? ⟨I, 1, none⟩ = some (.slice (some ⟨gb, ob, none⟩) (cs.length + 1 + 1) kb) := r1.cell 1
                    have f0 := r1.frozen 0
                    have f1 := r1.frozen 1
                    have j0 : w8.cell? ⟨gi, oi, none⟩ = some (.int .i64 (a : Int)) := r2.cell (j := 0) (idV_at a (cs.length + 1 + 1) 0 (by omega))
                    have k1 : cs.length + 1 + 1 ≤ ki := r2.le
                    have k2 : cs.length + 1 + 1 ≤ kb := r3.le
                    have k3 : (1 : Int) ≤ (ki : Int) := by omega
                    have k4 : (1 : Int) ≤ (kb : Int) := by omega
                    have k5 : ((ki : Int) == 1) = false := by simp; omega
                    have k6 : ((kb : Int) == 1) = false := by simp; omega
                    have z1 : ((cs.length : Int) + 1 + 1 == 1) = false := by simp; omega
                    clear r1 r2 r3
                    go_wp2_with fail
                    go_region
                    go_wp2_with fail
                    go_meet
                    exact ⟨_, _, _, _, _, _, _, _, rfl, (hfin.next (Below.refl _ _).drew).up (by omega)⟩
                · have e6 : (xw == 6) = false := by simp [h6]
                  clear h4 h5 h6
                  obtain ⟨oi, ki, ob, kb, r1, r2, r3⟩ := hp.im.rows
                  have i0 : wr.cell? ⟨I, 0, none⟩ = some (.slice (some ⟨gi, oi, none⟩) (cs.length + 1) ki) := r1.cell 0
                  have hon := on_pl a0 rfl (by omega) r2 hp
                  clear r1 r2 r3
                  go_wp2_with fail
                  refine hon.mono ?_
                  clear hon hp
                  rintro e w' ⟨B', rfl, hp'⟩
                  go_wp2_with fail
                  go_meet
                  exact ⟨_, _, _, _, _, _, _, _, rfl, hp'.up (by omega)⟩
        case rest =>
          as_aux_lemma =>
            clear hp
            obtain ⟨B, gi, gb, a, cs, c, s, N, rfl, hp⟩ := hcut
            have h1 := hp.hac; have h3 := hp.hl; have h7 := hp.ha
            obtain ⟨kp, hf⟩ := all_files hp.g.u hp.g.img hp.only (by omega)
            have hon := fun w' (hb : Below wc.heap.size wc w') => on_im h7 (by omega) (by omega) hf (by omega) (hp.im.next hb) (hp.g.wk.dk.next hb)
            obtain ⟨oi, ki, ob, kb, r1, r2, r3⟩ := hp.im.rows
            have hgi := r2.lt
            have hIl := r1.lt
            have hgl := r3.lt
            have i0 : wc.cell? ⟨I, 0, none⟩ = some (.slice (some ⟨gi, oi, none⟩) (cs.length + 1) ki) := r1.cell 0
            have i1 : wc.cell? ⟨I, 1, none⟩ = some (.slice (some ⟨gb, ob, none⟩) (cs.length + 1) kb) := r1.cell 1
            have i2 : wc.cell? ⟨I, 2, none⟩ = some (.int .i64 (limN a0)) := r1.cell 2
            have j4 := r3.cell (byV_last a cs c)
            have hsame : ∀ w' (A5 : Addr) (C5 : Nat), Rd w' w'.heap.size 1 (.slice (some A5) (cs.length + 1) C5) (cs.length + 1) ((segL a (cs.length + 1)).map (Value.int .i64)) → Below wc.heap.size wc w' → Calls Tryz.prog 15 #[.slice (some A5) (cs.length + 1) C5, .slice (some ⟨gi, oi, none⟩) (cs.length + 1) ki] w' fun e w'' => e = .returned (.bool true) ∧ Below w'.heap.size w' w'' := fun w' A5 C5 hR hb => by
              have hsl := segL_len a (cs.length + 1)
              have := wsame_calls (some A5) C5 (segL a (cs.length + 1)) (some ⟨gi, oi, none⟩) ki (segL a (cs.length + 1)) (by omega) (by omega) w' (by unfold Ints; rw [hsl]; exact hR) (by unfold Ints; rw [hsl]; exact (r2.below hb hgi).rd (Nat.lt_of_lt_of_le hgi hb.size))
              rw [hsl, decide_eq_true rfl] at this
              exact this
            have hsz : (headB (a + cs.length) ++ c).size = 16 + c.size := by rw [app_size, headB_size]
            have hsize : ∀ w', Below wc.heap.size wc w' → Calls Tryz.prog 17 #[.pointer (some ⟨B, 0, none⟩)] w' fun e w'' => e = .returned (.int .i64 ((headB (a + cs.length) ++ c).size : Int)) ∧ w'' = w' := fun w' hb => by
              rw [hsz]
              have := size_g (hp.g.next hb)
              rw [show (16 + (c.size : Int)) = ((16 + c.size : Nat) : Int) from by omega] at this
              exact this
            have hlimit := fun w' (hb : Below wc.heap.size wc w') => limit_g (hp.g.next hb)
            have hsegs := segs_g (by omega) (hp.g.next (Below.refl wc.heap.size wc).drew)
            have HON := Lib.hid hon
            have HSAME := Lib.hid hsame
            have HSIZE := Lib.hid hsize
            have HLIMIT := Lib.hid hlimit
            have HP := Lib.hid hp
            clear hon hsame hsize hlimit hsz hf r1 r2 r3 hp
            generalize headB (a + cs.length) ++ c = S at *
            have hw9 : IntKind.i64.wrap ((cs.length : Int) + 1 - 1) = (cs.length : Int) := by rw [IntKind.wrap_i64]; omega
            have hw10 : IntKind.i64.wrap (cs.length : Int) = (cs.length : Int) := by rw [IntKind.wrap_i64]; omega
            have hz9 : (0 : Int) ≤ (cs.length : Int) := by omega
            have hz8 : (cs.length : Int) < (cs.length : Int) + 1 := by omega
            have hBr := Below.refl wc.heap.size wc
            have HS := Lib.hid (fun w' (hb : Below wc.heap.size wc w') => show w'.cell? ⟨I, 0, none⟩ = some (.slice (some ⟨gi, oi, none⟩) (cs.length + 1) ki) ∧ w'.cell? ⟨I, 1, none⟩ = some (.slice (some ⟨gb, ob, none⟩) (cs.length + 1) kb) ∧ w'.cell? ⟨I, 2, none⟩ = some (.int .i64 (limN a0)) ∧ w'.cell? ⟨gb, ob + cs.length, none⟩ = some (.string S) from
              ⟨(hb.cell (p := ⟨I, 0, none⟩) hIl).trans i0, (hb.cell (p := ⟨I, 1, none⟩) hIl).trans i1, (hb.cell (p := ⟨I, 2, none⟩) hIl).trans i2, (hb.cell (p := ⟨gb, ob + cs.length, none⟩) hgl).trans j4⟩)
            clear i0 i1 i2 j4
            go_wp2_with fail
            go_region_held3 (fun w' => w'.cell? ⟨I, 0, none⟩ = some (.slice (some ⟨gi, oi, none⟩) (cs.length + 1) ki) ∧ w'.cell? ⟨I, 1, none⟩ = some (.slice (some ⟨gb, ob, none⟩) (cs.length + 1) kb) ∧ w'.cell? ⟨I, 2, none⟩ = some (.int .i64 (limN a0)) ∧ w'.cell? ⟨gb, ob + cs.length, none⟩ = some (.string S))
              (first | exact HS.out _ hK8 | exact HS.out _ hK6 | exact HS.out _ hK5 | exact HS.out _ hBr.drew)
              (first | (go_at_call 16; refine hsegs.mono ?_; clear hsegs; rintro e w5 ⟨A5, C5, rfl, hR5, _, hB5⟩; have hK5 : Below wc.heap.size wc w5 := hBr.drew.trans hB5) | (go_at_call 15; refine (HSAME.out _ A5 C5 hR5 hK5).mono ?_; clear HSAME; rintro e w6 ⟨rfl, hB6⟩; have hK6 : Below wc.heap.size wc w6 := hK5.trans (hB6.mono hK5.size)) | (go_at_call 17; refine (HSIZE.out _ hK6).mono ?_; clear HSIZE; rintro e w7 ⟨rfl, rfl⟩) | (go_at_call 18; refine (HLIMIT.out _ hK6).mono ?_; clear HLIMIT; rintro e w7 ⟨rfl, rfl⟩) | (go_at_call 19; refine (HON.out _ hK6).mono ?_; clear HON; rintro e w8 ⟨rfl, hB8⟩; have hK8 : Below wc.heap.size wc w8 := hK6.trans (hB8.mono hK6.size)))
            go_wp2_with fail
            have hp8 := (HP.out.next hK8).up (show 9 * k + 10 ≤ 9 * (k + 1) + 1 by omega)
            go_roundw
            case rel => exact ⟨k + 1, by omega, by simp, _, _, _, _, _, _, _, _, rfl, hp8⟩
            case measure => simp [intOf]; omega
      · obtain rfl : k = l1.length := by omega
        go_wp2
        go_ret
        exact ⟨rfl, hp.g.wk.dk.below⟩
end Go.Proofs.YtoaegleieacokaaGreat
