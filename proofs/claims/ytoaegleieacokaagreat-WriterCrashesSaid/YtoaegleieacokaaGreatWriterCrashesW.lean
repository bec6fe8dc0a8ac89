/- WriterCrashes: the walk. -/
import Derived.Test.YtoaegleieacokaaGreatPlayLM
import Derived.Test.YtoaegleieacokaaGreatFitCrashM
import Derived.Test.YtoaegleieacokaaGreatWrArg
namespace Go.Proofs.YtoaegleieacokaaGreat
open Go.RowKit Go.Shelf

theorem head_cut' {H Z : ByteArray} {k : Nat} (h : H.size = k) : (H ++ Z).extract 0 k = H := by
  apply WideShapes.bytes_inj
  have hs : H.data.toList.length = k := h
  rw [ByteArray.data_extract, ByteArray.data_append, Array.toList_extract, Array.toList_append]
  show ((H.data.toList ++ Z.data.toList).drop 0).take k = _
  rw [List.drop_zero, ← hs, List.take_left']
  rfl
theorem bs_left {N : Int} {U L a : Nat} {bs : List ByteArray} {s : DS} (h : Bs N U L a bs 0 anyF anyF s) {m : Int} (hm : m ≤ 9223372036854775807) : Bs N U L a bs 0 anyF anyF { s with left := m } :=
  ⟨⟨h.fit.steps0, h.fit.steps, hm, h.fit.room0, h.fit.room, h.fit.used, h.fit.keys, h.fit.many, h.fit.sound⟩, h.room, h.used, h.len, ⟨h.base.seg, h.base.sheet⟩, trivial, trivial⟩
set_option maxRecDepth 100000 in
set_option maxHeartbeats 40000000 in
theorem walk_WriterCrashes {W : World} (a0 : Option Addr) (c0 : Nat) (l0 : List Int) (r0 : Rd W W.heap.size 1 (.slice a0 l0.length c0) l0.length (l0.map (Value.int .u16))) (_ : c0 ≤ maxLen) (g0 : ∀ x ∈ l0, (Lit.int .u16 x).wf = true) (a1 : Int) (v1 : (Lit.int .u8 a1).wf = true) (a2 : Int) (v2 : (Lit.int .u64 a2).wf = true) :
    Calls Tryz.prog 4 #[.slice a0 l0.length c0, .int .u8 a1, .int .u64 a2] W fun e w' => e = .returned (.bool true) ∧ Below W.heap.size W w' := by
  obtain ⟨i0, hi0, hz0, hz1, hz2⟩ := info_parts infoU8
  obtain ⟨x1, y1⟩ := wf_u8 v1
  obtain ⟨x2, y2⟩ := wf_u64 v2
  have hh1 := fun w' => rhead_calls 1 w'
  rw [show idN 1 = 1 from rfl] at hh1
  clear v1 v2
  go_enter Tryz.func4, Tryz.ntmps4
  go_wp2_with fail
  refine (known22_calls W).mono ?_
  rintro e w2 ⟨rfl, hB2⟩
  by_cases hlen : 20 < l0.length
  · go_wp2
    go_ret
    exact ⟨rfl, hB2⟩
  go_wp2_with fail
  refine (new_dk 1000000 hB2 hB2.size).mono ?_
  rintro e w3 ⟨D, rfl, M, hd⟩
  clear hB2
  have hmk := make_only (X := []) 2100 1000000 (by decide) (by simp) hd
  rw [show limN 2100 = 2100 from rfl] at hmk
  clear hd
  go_wp2_with fail
  refine hmk.mono ?_
  clear hmk
  rintro e w4 ⟨B, s4, rfl, hg, ho, hr4, hl4, hu4⟩
  rw [show (newDS 1000000).room = 1000000 from by decide] at hr4
  have hB5 : Below w4.heap.size w4 (w4.alloc (.cells #[.int .i64 1] 3)) := (Below.refl _ w4).alloc (Nat.le_refl _) _
  have ri := RowAt.lit w4 3 (.int .i64 1)
  go_wp2_with fail
  generalize w4.alloc (.cells #[.int .i64 1] 3) = w5 at *
  refine (hh1 w5).mono ?_
  clear hh1
  rintro e w6 ⟨rfl, hB6⟩
  replace ri := ri.below hB6 ri.lt
  have rb := RowAt.lit w6 9 (.string (headB 1))
  have hB7 : Below w6.heap.size w6 ((w6.alloc (.cells #[.string (headB 1)] 9)).alloc (.cells #[.slice (some ⟨w4.heap.size, 0, none⟩) 1 1, .slice (some ⟨w6.heap.size, 0, none⟩) 1 1, .int .i64 2100] 36)) := ((Below.refl _ w6).alloc (Nat.le_refl _) _).alloc (by simp) _
  have bI := Blk.new (w6.alloc (.cells #[.string (headB 1)] 9)) 36 #[.slice (some ⟨w4.heap.size, 0, none⟩) 1 1, .slice (some ⟨w6.heap.size, 0, none⟩) 1 1, .int .i64 2100]
  have hlm2 : (0 : Int) ≤ 2100 ∧ (2100 : Int) ≤ 1000000 := by omega
  go_wp2_with fail
  rw [World.size_alloc] at bI
  have h46 : w4.heap.size < w6.heap.size := ri.lt
  have hng := hg.wk.dk.size
  have hB47 : Below w4.heap.size w4 ((w6.alloc (.cells #[.string (headB 1)] 9)).alloc (.cells #[.slice (some ⟨w4.heap.size, 0, none⟩) 1 1, .slice (some ⟨w6.heap.size, 0, none⟩) 1 1, .int .i64 2100] 36)) := hB5.trans ((hB6.mono hB5.size).trans (hB7.mono (by omega)))
  have hB67 : Below (w6.heap.size + 1) (w6.alloc (.cells #[.string (headB 1)] 9)) ((w6.alloc (.cells #[.string (headB 1)] 9)).alloc (.cells #[.slice (some ⟨w4.heap.size, 0, none⟩) 1 1, .slice (some ⟨w6.heap.size, 0, none⟩) 1 1, .int .i64 2100] 36)) := (Below.refl _ _).alloc (by simp) _
  have him : Im W.heap.size (w6.heap.size + 1) w4.heap.size w6.heap.size 2100 1 [] ⟨#[]⟩ ((w6.alloc (.cells #[.string (headB 1)] 9)).alloc (.cells #[.slice (some ⟨w4.heap.size, 0, none⟩) 1 1, .slice (some ⟨w6.heap.size, 0, none⟩) 1 1, .int .i64 2100] 36)) :=
    ⟨by omega, by omega, by omega, ⟨by omega, by omega, by omega⟩, 0, 1, 0, 1, bI, ri.below hB7 h46, by
      have := rb.below hB67 (by omega)
      show RowAt _ _ _ _ _ _ [.string (headB 1 ++ ⟨#[]⟩)]
      rw [app_empty]
      exact this⟩
  have hlt := him.lts
  have hPl : Pl W.heap.size W D M (w6.heap.size + 1) 2100 1 B w4.heap.size w6.heap.size 1 [] ⟨#[]⟩ s4 16 ((w6.alloc (.cells #[.string (headB 1)] 9)).alloc (.cells #[.slice (some ⟨w4.heap.size, 0, none⟩) 1 1, .slice (some ⟨w6.heap.size, 0, none⟩) 1 1, .int .i64 2100] 36)) :=
    ⟨⟨hg.wk.turn (Y := []) (Chg.of_below hB47) (by simp) (by simp) (by simp) (fun x hx => by
      simp only [List.mem_cons, List.not_mem_nil, or_false] at hx
      rcases hx with rfl | rfl | rfl
      · exact ⟨.inr (by omega), hlt.1⟩
      · exact ⟨.inr (by omega), hlt.2.1⟩
      · exact ⟨.inr (by omega), hlt.2.2⟩), hg.u, hg.img⟩, him, ho, hr4, hlm2, by omega, by simp, by simp [ByteArray.size], by omega, by omega, by omega⟩
  clear him hlt hB47 hB67 h46 hng bI hB7 rb ri hB6 hB5 hg ho hr4 hl4 hu4 hlm2
  generalize (w6.alloc (.cells #[.string (headB 1)] 9)).alloc (.cells #[.slice (some ⟨w4.heap.size, 0, none⟩) 1 1, .slice (some ⟨w6.heap.size, 0, none⟩) 1 1, .int .i64 2100] 36) = w7 at *
  generalize hI : w6.heap.size + 1 = I at *
  clear hI
  generalize w4.heap.size = gi0 at *
  generalize w6.heap.size = gb0 at *
  go_loopw [11] (fun i wr => ∃ k : Nat, k ≤ l0.length ∧ i = .int .i64 k ∧ ∃ gi gb a cs c s N, Pl W.heap.size W D M I 2100 (k + 1) B gi gb a cs c s N wr) (fun i _ => l0.length - (intOf i).toNat)
  case atStart => exact ⟨0, Nat.zero_le _, rfl, _, _, _, _, _, _, _, hPl⟩
  case round =>
    clear hPl
    obtain ⟨k, hk, rfl, gi, gb, a, cs, c, s, N, hp⟩ := hrel
    by_cases hlt : k < l0.length
    · obtain ⟨b, off, rfl, hb, hcell⟩ := u16_cell (r0.below hp.g.wk.dk.below (Nat.le_refl _)) (by omega)
      have q := hcell k hlt
      have hgood := g0 _ (List.getElem_mem hlt)
      clear hcell g0
      generalize l0[k] = x at *
      obtain ⟨z1, z2⟩ := wf_u16 hgood
      obtain ⟨n, hn, hn0, hn1⟩ : ∃ n : Nat, x % 2000 + 1 = (n : Int) ∧ 0 < n ∧ n ≤ 2000 := ⟨(x % 2000 + 1).toNat, by omega, by omega, by omega⟩
      have hzs := zerosB_size n
      go_wp2_with (at_make; refine wpList_make_full _ rfl _ _ 55 rfl 0 5 i0 _ 1 Tryz.underlying55 hi0 hz0 hz1 _ _ _ _ n rfl rfl rfl rfl (by rw [hz2]; omega) (by unfold maxLen; omega) (Nat.zero_le _) ?_; intro w6 hown hgrow; have hz := zeros_str hown)
      have hbz : Below wr.heap.size wr w6 := (Below.refl _ wr).grown hgrow (Nat.le_refl _) (fun k e => by cases e)
      have hw := write_pl (by omega) (zerosB n) (by omega) (by omega) (hp.next hbz)
      clear hp hbz hown hgrow hz
      refine hw.mono ?_
      clear hw
      rintro e w8 ⟨p1, p2, cs', c', s', N', rfl, hmid, hC⟩
      have hB9 : Below w8.heap.size w8 (w8.alloc (.cells #[.int .i64 p1, .int .i64 p2] 40)) := (Below.refl _ w8).alloc (Nat.le_refl _) _
      have hput := put_mid (by omega) (hmid.next hB9)
      clear hmid hC hB9
      go_wp2_with fail
      refine hput.mono ?_
      clear hput
      rintro e w10 ⟨rfl, ⟨gi', gb', hpl⟩, _⟩
      go_wp2_with fail
      go_roundw
      case rel => exact ⟨k + 1, by omega, by simp, gi', gb', a, cs', c', s', N', hpl⟩
      case measure => simp [intOf]; omega
    · obtain rfl : k = l0.length := by omega
      have h1 := hp.hac; have h2 := hp.hc; have h3 := hp.hl; have h4 := hp.hu; have h5 := hp.hN; have h7 := hp.ha
      have hsy := sync_base (U := 100000) (L := 200) (by omega) h7 (by omega) (by omega) hp.only hp.room (by omega) (by omega) hp.g
      have him := hp.im
      obtain ⟨i1, i2, i3⟩ := im_aside hp.g.wk hp.im
      clear hp
      go_wp2_with fail
      refine hsy.mono ?_
      clear hsy
      rintro e w5 ⟨rfl, s1, hk1, hb1, hC1⟩
      replace him := him.kept (hC1.more (cs := [B, D, M]) (by simp)) i1 i2 i3
      have hb2 := bs_left hb1 (m := max (a1 % 12) 0) (by omega)
      have hlm := limit_dk (m := a1 % 12) rfl (hb2.fit.ok (by omega)) hk1.dk
      go_wp2_with fail
      refine hlm.mono ?_
      clear hlm
      rintro e w6 ⟨⟨v, rfl⟩, hd2, hC2⟩
      replace him := him.kept (hC2.more (cs := [B, D, M]) (by simp)) i1 i2 i3
      have hk2 := hk1.disk hd2 hC2
      clear hk1 hd2 hC1 hC2 hb1
      have hzs := zerosB_size 1500
      have hN0 : 0 ≤ N + 1 := by have := hb2.fit.steps0; have := hb2.fit.steps; omega
      go_wp2_with (at_make; refine wpList_make_full _ rfl _ _ 55 rfl 0 5 i0 _ 1 Tryz.underlying55 hi0 hz0 hz1 _ _ _ _ 1500 rfl rfl rfl rfl (by rw [hz2]; omega) (by unfold maxLen; omega) (Nat.zero_le _) ?_; intro w7 hown hgrow; have hz := zeros_str hown)
      have hbz : Below w6.heap.size w6 w7 := (Below.refl _ w6).grown hgrow (Nat.le_refl _) (fun k e => by cases e)
      have hw := write_lim (b := zerosB 1500) ⟨hN0, by omega⟩ h7 (by omega) (by omega) (by omega) (by omega) (by omega) (by omega) (by omega) (by omega) hb2 (hk2.next hbz)
      replace him := him.next hbz
      clear hk2 hb2 hbz hown hgrow hz
      refine hw.mono ?_
      clear hw
      rintro x w8 ⟨p1, p2, e, s3, rfl, he, hss, hd, hC⟩
      replace him := him.kept hC i1 i2 i3
      have hB9 : Below w8.heap.size w8 (w8.alloc (.cells #[.int .i64 p1, .int .i64 p2] 40)) := (Below.refl _ w8).alloc (Nat.le_refl _) _
      replace him := him.next hB9
      replace hd := hd.next hB9
      clear hC hB9
      obtain ⟨m, hleft⟩ := safe_left hss.fit (keep := a2) x2 y2 hss.safe
      have hcr := crash_dk (keep := a2) x2 y2 (by have := hss.len; omega) hss.fit.fok rfl ((fit_crash hss.fit a2 x2 y2).ok (by omega)) hd
      clear hd hss
      generalize s3.crash a2 = s4' at *
      go_wp2_with fail
      refine hcr.mono ?_
      clear hcr
      rintro x w9 ⟨⟨v, rfl⟩, hd, hC⟩
      replace him := him.kept (hC.more (cs := [B, D, M]) (by simp)) i1 i2 i3
      clear hC
      go_wp2_with fail
      have hrd := dread_calls D M s4' nSheet w9 hd.at'
      rw [hleft.sheet] at hrd
      refine hrd.mono ?_
      clear hrd
      rintro x w10 ⟨rfl, hB10⟩
      replace him := him.next hB10
      replace hd := hd.next hB10
      have hm := hleft.hm
      rw [show (cs ++ [c]).length = cs.length + 1 from by simp] at hm
      have hmlen := segL_len a m
      have hrf := refread_ok (segL a m) (isL_segL h7 (by omega) (by omega) (by omega)) w10
      rw [hmlen] at hrf
      clear hB10
      go_wp2_with fail
      refine hrf.mono ?_
      clear hrf
      rintro x w11 ⟨v, rfl, hown, hB11⟩
      replace him := him.next hB11
      replace hd := hd.next hB11
      have hRv := Rd.of_owns hown
      obtain ⟨aL, cL, rfl⟩ := Rd.val hRv
      clear hown hB11
      obtain ⟨oi, ki, ob, kb, r1, r2, r3⟩ := him.rows
      have q0 : w11.cell? ⟨I, 0, none⟩ = some (.slice (some ⟨gi, oi, none⟩) (cs.length + 1) ki) := r1.cell 0
      have dm1 : decide ((m : Int) < (cs.length : Int) + 1) = false := decide_eq_false (by omega)
      have dm2 : decide ((cs.length : Int) + 1 + 1 < (m : Int)) = false := decide_eq_false (by omega)
      have HML := Lib.hid hmlen
      have HM := Lib.hid hm
      clear hmlen hm
      go_upto_region 25 with (fail)
      go_cut [134] from 100 to 134 (fun v wx => v = .bool false ∧ wx = w11)
      case first =>
        rcases he with rfl | rfl
        all_goals
          go_wp2_with fail
          go_meet
          exact ⟨rfl, rfl⟩
      case rest =>
        obtain ⟨rfl, rfl⟩ := hcut
        go_wp2_with fail
        go_loopw [21] (fun i wr => ∃ k : Nat, k ≤ m ∧ i = .int .i64 k ∧ Below wc.heap.size wc wr) (fun i _ => m - (intOf i).toNat)
        case atStart => exact ⟨0, Nat.zero_le _, rfl, Below.refl _ _⟩
        case round =>
          clear q0 dm1 dm2
          obtain ⟨k, hk, rfl, hB⟩ := hrel
          by_cases hkm : k < m
          · obtain ⟨x, hx1, hx2⟩ := hleft.seg k hkm
            have hRv2 := hRv.at (by omega)
            obtain ⟨bL, oL, rfl, hbL, _, hcs⟩ := hRv2
            have hlk := hcs k (by rw [HML.out] at *; omega)
            rw [List.getElem?_map, show (segL a m)[k]? = some ((a + k : Nat) : Int) from by unfold segL; simp [hkm]] at hlk
            simp only [Option.map_some] at hlk
            clear hcs
            have hnm := fun w' => rname_calls ((a + k : Nat) : Int) w'
            have hhd := fun w' => rhead_calls ((a + k : Nat) : Int) w'
            rw [idN_nat (by omega) (by have := HM.out; omega)] at hnm hhd
            have hrd := fun w' (hb : Below wc.heap.size wc w') => dread_calls D M s4' (nameB (a + k)) w' (hd.next hb).at'
            rw [hx1] at hrd
            have p0 := (hB.cell (p := ⟨bL, oL + k, none⟩) hbL).trans hlk
            have hS16 : 16 ≤ (headB (a + k) ++ x).size := by rw [app_size, headB_size]; omega
            have hex : (headB (a + k) ++ x).extract 0 16 = headB (a + k) := head_cut' (headB_size _)
            have hgi := r2.lt
            have hIl := r1.lt
            have hgl := r3.lt
            have hz : (0 : Int) ≤ (k : Int) := by omega
            have hzm : (k : Int) < (m : Int) := by omega
            have hkM := HM.out
            have HML2 := HML
            by_cases hkn : k < cs.length + 1
            · as_aux_lemma =>
                have hkl : k < (cs ++ [c]).length := by simp; omega
                obtain ⟨y, hy⟩ := hx2 _ (List.getElem?_eq_getElem hkl)
                subst hy
                have hT : wc.cell? ⟨gb, ob + k, none⟩ = some (.string (headB (a + k) ++ (cs ++ [c])[k])) := r3.cell (byV_at a (cs ++ [c]) k hkl)
                have hG : wc.cell? ⟨gi, oi + k, none⟩ = some (.int .i64 ((a + k : Nat) : Int)) := r2.cell (idV_at a (cs.length + 1) k hkn)
                have i1 : wc.cell? ⟨I, 1, none⟩ = some (.slice (some ⟨gb, ob, none⟩) (cs.length + 1) kb) := r1.cell 1
                have i0 : wc.cell? ⟨I, 0, none⟩ = some (.slice (some ⟨gi, oi, none⟩) (cs.length + 1) ki) := r1.cell 0
                rw [← app_assoc] at hS16 hex hrd
                generalize headB (a + k) ++ (cs ++ [c])[k] = T at *
                have hTS : T.size ≤ (T ++ y).size := by rw [app_size]; omega
                have hexT : (T ++ y).extract 0 T.size = T := head_cut' rfl
                have hTS' : (T.size : Int) ≤ ((T ++ y).size : Int) := by omega
                have hS16' : (16 : Int) ≤ ((T ++ y).size : Int) := by omega
                have hCL : ∀ w', Below wc.heap.size wc w' → w'.cell? ⟨bL, oL + k, none⟩ = some (.int .i64 ((a + k : Nat) : Int)) ∧ w'.cell? ⟨I, 0, none⟩ = some (.slice (some ⟨gi, oi, none⟩) (cs.length + 1) ki) ∧ w'.cell? ⟨I, 1, none⟩ = some (.slice (some ⟨gb, ob, none⟩) (cs.length + 1) kb) ∧ w'.cell? ⟨gi, oi + k, none⟩ = some (.int .i64 ((a + k : Nat) : Int)) ∧ w'.cell? ⟨gb, ob + k, none⟩ = some (.string T) := fun w' hb =>
                  ⟨(hb.cell (p := ⟨bL, oL + k, none⟩) hbL).trans hlk, (hb.cell (p := ⟨I, 0, none⟩) hIl).trans i0, (hb.cell (p := ⟨I, 1, none⟩) hIl).trans i1, (hb.cell (p := ⟨gi, oi + k, none⟩) hgi).trans hG, (hb.cell (p := ⟨gb, ob + k, none⟩) hgl).trans hT⟩
                have HCL := Lib.hid hCL
                have HRD := Lib.hid hrd
                have HEX := Lib.hid hex
                have HEXT := Lib.hid hexT
                have HX1 := Lib.hid hx1
                have dk1 : decide ((k : Int) < (cs.length : Int) + 1) = true := decide_eq_true (by omega)
                have dk2 : decide (((T ++ y).size : Int) < 16) = false := decide_eq_false (by omega)
                have dk3 : decide (((T ++ y).size : Int) < (T.size : Int)) = false := decide_eq_false (by omega)
                have dk4 : decide ((T ++ y).size < T.size) = false := decide_eq_false (by omega)
                have dk5 : ¬ (T ++ y).size < T.size := by omega
                have hkn' : (k : Int) < (cs.length : Int) + 1 := by omega
                clear hCL hrd hex hexT hx1 hx2 hT hG i1 i0 hlk p0
                generalize T ++ y = S at *
                generalize nameB (a + k) = nm at *
                generalize headB (a + k) = H at *
                generalize ((a + k : Nat) : Int) = v at *
                obtain ⟨p0, p1, p2, p3, p4⟩ := HCL.out _ hB
                go_wp2_with fail
                refine (hnm _).mono ?_
                clear hnm p0 p1 p2 p3 p4
                rintro x w12 ⟨rfl, hB12⟩
                have hC12 := hB.trans (hB12.mono hB.size)
                obtain ⟨p0, p1, p2, p3, p4⟩ := HCL.out _ hC12
                go_wp2_with fail
                refine (HRD.out _ hC12).mono ?_
                clear p0 p1 p2 p3 p4
                rintro x w13 ⟨rfl, hB13⟩
                have hC13 := hC12.trans (hB13.mono hC12.size)
                obtain ⟨p0, p1, p2, p3, p4⟩ := HCL.out _ hC13
                have hex := HEX.out
                have hexT := HEXT.out
                have hBr := Below.refl w13.heap.size w13
                go_wp2_with fail
                simp only [List.append_eq, List.cons_append, List.nil_append]
                go_region_held3 (fun w' => w'.cell? ⟨bL, oL + k, none⟩ = some (.int .i64 v) ∧ w'.cell? ⟨I, 0, none⟩ = some (.slice (some ⟨gi, oi, none⟩) (cs.length + 1) ki) ∧ w'.cell? ⟨I, 1, none⟩ = some (.slice (some ⟨gb, ob, none⟩) (cs.length + 1) kb) ∧ w'.cell? ⟨gi, oi + k, none⟩ = some (.int .i64 v) ∧ w'.cell? ⟨gb, ob + k, none⟩ = some (.string T))
                  (first | exact HCL.out _ hC14 | exact HCL.out _ (hC13.trans (hBr.drew.mono hC13.size)))
                  (first | (go_at_call 9; refine (hhd _).mono ?_; clear hhd; rintro x w14 ⟨rfl, hB14⟩; have hC14 := (hC13.trans (hBr.drew.mono hC13.size)).trans (hB14.mono (Nat.le_trans hC13.size hBr.drew.size))))
                go_wp2_with fail
                go_roundw
                case rel => exact ⟨k + 1, by omega, by simp, hC14⟩
                case measure => simp [intOf]; omega
            · as_aux_lemma =>
                obtain rfl : k = cs.length + 1 := by omega
                have hz' : (0 : Int) ≤ (cs.length : Int) + 1 := by omega
                have hzm' : (cs.length : Int) + 1 < (m : Int) := by omega
                have i0 : wc.cell? ⟨I, 0, none⟩ = some (.slice (some ⟨gi, oi, none⟩) (cs.length + 1) ki) := r1.cell 0
                have hS16' : (16 : Int) ≤ ((headB (a + (cs.length + 1)) ++ x).size : Int) := by omega
                have hCL : ∀ w', Below wc.heap.size wc w' → w'.cell? ⟨bL, oL + (cs.length + 1), none⟩ = some (.int .i64 ((a + (cs.length + 1) : Nat) : Int)) ∧ w'.cell? ⟨I, 0, none⟩ = some (.slice (some ⟨gi, oi, none⟩) (cs.length + 1) ki) := fun w' hb =>
                  ⟨(hb.cell (p := ⟨bL, oL + (cs.length + 1), none⟩) hbL).trans hlk, (hb.cell (p := ⟨I, 0, none⟩) hIl).trans i0⟩
                have HCL := Lib.hid hCL
                have HRD := Lib.hid hrd
                have HEX := Lib.hid hex
                have dk2 : decide (((headB (a + (cs.length + 1)) ++ x).size : Int) < 16) = false := decide_eq_false (by omega)
                clear hCL hrd hex hx1 hx2 i0 hlk p0
                generalize headB (a + (cs.length + 1)) ++ x = S at *
                generalize nameB (a + (cs.length + 1)) = nm at *
                generalize headB (a + (cs.length + 1)) = H at *
                generalize ((a + (cs.length + 1) : Nat) : Int) = v at *
                obtain ⟨p0, p1⟩ := HCL.out _ hB
                go_wp2_with fail
                refine (hnm _).mono ?_
                clear hnm p0 p1
                rintro x w12 ⟨rfl, hB12⟩
                have hC12 := hB.trans (hB12.mono hB.size)
                obtain ⟨p0, p1⟩ := HCL.out _ hC12
                go_wp2_with fail
                refine (HRD.out _ hC12).mono ?_
                clear p0 p1
                rintro x w13 ⟨rfl, hB13⟩
                have hC13 := hC12.trans (hB13.mono hC12.size)
                obtain ⟨p0, p1⟩ := HCL.out _ hC13
                have hex := HEX.out
                have hBr := Below.refl w13.heap.size w13
                go_wp2_with fail
                simp only [List.append_eq, List.cons_append, List.nil_append]
                refine wp_region_held_drew (S := (fun w' => w'.cell? ⟨bL, oL + (cs.length + 1), none⟩ = some (.int .i64 v) ∧ w'.cell? ⟨I, 0, none⟩ = some (.slice (some ⟨gi, oi, none⟩) (cs.length + 1) ki))) (by kernel_rfl) ?_ (fun hHeld => ?_)
                · exact HCL.out _ (hC13.trans (hBr.drew.mono hC13.size))
                refine takeH 0 151 (v := ?_) rfl rfl (by kernel_rfl) (by kernel_rfl) (by kernel_rfl) (fun _ _ _ h => h) (by rfl) ?_ (by assumption) ?_
                rotate_left
                · intro w hSw; obtain ⟨s0, s1⟩ := hSw; go_simp; (try with_reducible rfl)
                try simp only [Act.put, List.setIfInBounds_toArray, List.set_cons_zero, List.set_cons_succ]
                refine takeH 1 152 (v := ?_) rfl rfl (by kernel_rfl) (by kernel_rfl) (by kernel_rfl) (fun _ _ _ h => h) (by rfl) ?_ (by assumption) ?_
                rotate_left
                · intro w hSw; obtain ⟨s0, s1⟩ := hSw; go_simp; (try with_reducible rfl)
                try simp only [Act.put, List.setIfInBounds_toArray, List.set_cons_zero, List.set_cons_succ]
                refine takeH 2 153 (v := ?_) rfl rfl (by kernel_rfl) (by kernel_rfl) (by kernel_rfl) (fun _ _ _ h => h) (by rfl) ?_ (by assumption) ?_
                rotate_left
                · intro w hSw; obtain ⟨s0, s1⟩ := hSw; go_simp; (try with_reducible rfl)
                try simp only [Act.put, List.setIfInBounds_toArray, List.set_cons_zero, List.set_cons_succ]
                refine takeH 3 154 (v := ?_) rfl rfl (by kernel_rfl) (by kernel_rfl) (by kernel_rfl) (fun _ _ _ h => h) (by rfl) ?_ (by assumption) ?_
                rotate_left
                · intro w hSw; obtain ⟨s0, s1⟩ := hSw; go_simp; (try with_reducible rfl)
                try simp only [Act.put, List.setIfInBounds_toArray, List.set_cons_zero, List.set_cons_succ]
                refine takeH 4 155 (v := ?_) rfl rfl (by kernel_rfl) (by kernel_rfl) (by kernel_rfl) (fun _ _ _ h => h) (by rfl) ?_ (by assumption) ?_
                rotate_left
                · intro w hSw; obtain ⟨s0, s1⟩ := hSw; go_simp; (try with_reducible rfl)
                try simp only [Act.put, List.setIfInBounds_toArray, List.set_cons_zero, List.set_cons_succ]
                refine takeH 5 156 (v := ?_) rfl rfl (by kernel_rfl) (by kernel_rfl) (by kernel_rfl) (fun _ _ _ h => h) (by rfl) ?_ (by assumption) ?_
                rotate_left
                · intro w hSw; obtain ⟨s0, s1⟩ := hSw; go_simp; (try with_reducible rfl)
                try simp only [Act.put, List.setIfInBounds_toArray, List.set_cons_zero, List.set_cons_succ]
                refine takeH 6 157 (v := ?_) rfl rfl (by kernel_rfl) (by kernel_rfl) (by kernel_rfl) (fun _ _ _ h => h) (by rfl) ?_ (by assumption) ?_
                rotate_left
                · intro w hSw; obtain ⟨s0, s1⟩ := hSw; go_simp; (try with_reducible rfl)
                try simp only [Act.put, List.setIfInBounds_toArray, List.set_cons_zero, List.set_cons_succ]
                refine takeH 7 158 (v := ?_) rfl rfl (by kernel_rfl) (by kernel_rfl) (by kernel_rfl) (fun _ _ _ h => h) (by rfl) ?_ (by assumption) ?_
                rotate_left
                · intro w hSw; obtain ⟨s0, s1⟩ := hSw; go_simp; (try with_reducible rfl)
                try simp only [Act.put, List.setIfInBounds_toArray, List.set_cons_zero, List.set_cons_succ]
                refine takeH 8 159 (v := ?_) rfl rfl (by kernel_rfl) (by kernel_rfl) (by kernel_rfl) (fun _ _ _ h => h) (by rfl) ?_ (by assumption) ?_
                rotate_left
                · intro w hSw; obtain ⟨s0, s1⟩ := hSw; go_simp; (try with_reducible rfl)
                try simp only [Act.put, List.setIfInBounds_toArray, List.set_cons_zero, List.set_cons_succ]
                refine takeH 9 160 (v := ?_) rfl rfl (by kernel_rfl) (by kernel_rfl) (by kernel_rfl) (fun _ _ _ h => h) (by rfl) ?_ (by assumption) ?_
                rotate_left
                · intro w hSw; obtain ⟨s0, s1⟩ := hSw; go_simp; (try with_reducible rfl)
                try simp only [Act.put, List.setIfInBounds_toArray, List.set_cons_zero, List.set_cons_succ]
                refine takeH 10 161 (v := ?_) rfl rfl (by kernel_rfl) (by kernel_rfl) (by kernel_rfl) (fun _ _ _ h => h) (by rfl) ?_ (by assumption) ?_
                rotate_left
                · intro w hSw; obtain ⟨s0, s1⟩ := hSw; go_simp; (try with_reducible rfl)
                try simp only [Act.put, List.setIfInBounds_toArray, List.set_cons_zero, List.set_cons_succ]
                refine takeH 11 162 (v := ?_) rfl rfl (by kernel_rfl) (by kernel_rfl) (by kernel_rfl) (fun _ _ _ h => h) (by rfl) ?_ (by assumption) ?_
                rotate_left
                · intro w hSw; obtain ⟨s0, s1⟩ := hSw; go_simp; (try with_reducible rfl)
                try simp only [Act.put, List.setIfInBounds_toArray, List.set_cons_zero, List.set_cons_succ]
                refine takeH 12 163 (v := ?_) rfl rfl (by kernel_rfl) (by kernel_rfl) (by kernel_rfl) (fun _ _ _ h => h) (by rfl) ?_ (by assumption) ?_
                rotate_left
                · intro w hSw; obtain ⟨s0, s1⟩ := hSw; go_simp; (try with_reducible rfl)
                try simp only [Act.put, List.setIfInBounds_toArray, List.set_cons_zero, List.set_cons_succ]
                refine takeH 13 164 (v := ?_) rfl rfl (by kernel_rfl) (by kernel_rfl) (by kernel_rfl) (fun _ _ _ h => h) (by rfl) ?_ (by assumption) ?_
                rotate_left
                · intro w hSw; obtain ⟨s0, s1⟩ := hSw; go_simp; (try with_reducible rfl)
                try simp only [Act.put, List.setIfInBounds_toArray, List.set_cons_zero, List.set_cons_succ]
                refine wpAnyH_ready (rs := [14]) (by kernel_rfl) (by simp) ?_
                refine AllReadyH.cons rfl (fun K hK => ?_) AllReadyH.nil
                go_simp
                go_wp2_with (go_at_call 9; refine (hhd _).mono ?_; clear hhd; rintro x w14 ⟨rfl, hB14⟩)
                have hC14 := (hC13.trans (hBr.drew.mono hC13.size)).trans (hB14.mono (Nat.le_trans hC13.size hBr.drew.size))
                clear hHeld
                refine hK.out _ _ ?_ (fun hHeld => ?_)
                · exact HCL.out _ hC14
                clear hK K
                try simp only [Act.put, List.setIfInBounds_toArray, List.set_cons_zero, List.set_cons_succ]
                refine takeH 15 166 (v := ?_) rfl rfl (by kernel_rfl) (by kernel_rfl) (by kernel_rfl) (fun _ _ _ h => h) (by rfl) ?_ (by assumption) ?_
                rotate_left
                · intro w hSw; obtain ⟨s0, s1⟩ := hSw; go_simp; (try with_reducible rfl)
                try simp only [Act.put, List.setIfInBounds_toArray, List.set_cons_zero, List.set_cons_succ]
                refine takeH 16 167 (v := ?_) rfl rfl (by kernel_rfl) (by kernel_rfl) (by kernel_rfl) (fun _ _ _ h => h) (by rfl) ?_ (by assumption) ?_
                rotate_left
                · intro w hSw; obtain ⟨s0, s1⟩ := hSw; go_simp; (try with_reducible rfl)
                try simp only [Act.put, List.setIfInBounds_toArray, List.set_cons_zero, List.set_cons_succ]
                refine takeH 17 168 (v := ?_) rfl rfl (by kernel_rfl) (by kernel_rfl) (by kernel_rfl) (fun _ _ _ h => h) (by rfl) ?_ (by assumption) ?_
                rotate_left
                · intro w hSw; obtain ⟨s0, s1⟩ := hSw; go_simp; (try with_reducible rfl)
                try simp only [Act.put, List.setIfInBounds_toArray, List.set_cons_zero, List.set_cons_succ]
                refine takeH 18 169 (v := ?_) rfl rfl (by kernel_rfl) (by kernel_rfl) (by kernel_rfl) (fun _ _ _ h => h) (by rfl) ?_ (by assumption) ?_
                rotate_left
                · intro w hSw; obtain ⟨s0, s1⟩ := hSw; go_simp; (try with_reducible rfl)
                try simp only [Act.put, List.setIfInBounds_toArray, List.set_cons_zero, List.set_cons_succ]
                refine takeH 19 170 (v := ?_) rfl rfl (by kernel_rfl) (by kernel_rfl) (by kernel_rfl) (fun _ _ _ h => h) (by rfl) ?_ (by assumption) ?_
                rotate_left
                · intro w hSw; obtain ⟨s0, s1⟩ := hSw; go_simp; (try with_reducible rfl)
                try simp only [Act.put, List.setIfInBounds_toArray, List.set_cons_zero, List.set_cons_succ]
                refine takeH 20 171 (v := ?_) rfl rfl (by kernel_rfl) (by kernel_rfl) (by kernel_rfl) (fun _ _ _ h => h) (by rfl) ?_ (by assumption) ?_
                rotate_left
                · intro w hSw; obtain ⟨s0, s1⟩ := hSw; go_simp; (try with_reducible rfl)
                try simp only [Act.put, List.setIfInBounds_toArray, List.set_cons_zero, List.set_cons_succ]
                refine takeH 21 172 (v := ?_) rfl rfl (by kernel_rfl) (by kernel_rfl) (by kernel_rfl) (fun _ _ _ h => h) (by rfl) ?_ (by assumption) ?_
                rotate_left
                · intro w hSw; obtain ⟨s0, s1⟩ := hSw; go_simp; (try with_reducible rfl)
                try simp only [Act.put, List.setIfInBounds_toArray, List.set_cons_zero, List.set_cons_succ]
                refine takeH 22 173 (v := ?_) rfl rfl (by kernel_rfl) (by kernel_rfl) (by kernel_rfl) (fun _ _ _ h => h) (by rfl) ?_ (by assumption) ?_
                rotate_left
                · intro w hSw; obtain ⟨s0, s1⟩ := hSw; go_simp; (try with_reducible rfl)
                try simp only [Act.put, List.setIfInBounds_toArray, List.set_cons_zero, List.set_cons_succ]
                refine takeH 23 174 (v := ?_) rfl rfl (by kernel_rfl) (by kernel_rfl) (by kernel_rfl) (fun _ _ _ h => h) (by rfl) ?_ (by assumption) ?_
                rotate_left
                · intro w hSw; obtain ⟨s0, s1⟩ := hSw; go_simp; (try with_reducible rfl)
                try simp only [Act.put, List.setIfInBounds_toArray, List.set_cons_zero, List.set_cons_succ]
                refine takeH 24 175 (v := ?_) rfl rfl (by kernel_rfl) (by kernel_rfl) (by kernel_rfl) (fun _ _ _ h => h) (by rfl) ?_ (by assumption) ?_
                rotate_left
                · intro w hSw; obtain ⟨s0, s1⟩ := hSw; go_simp; (try with_reducible rfl)
                try simp only [Act.put, List.setIfInBounds_toArray, List.set_cons_zero, List.set_cons_succ]
                refine takeH 25 176 (v := ?_) rfl rfl (by kernel_rfl) (by kernel_rfl) (by kernel_rfl) (fun _ _ _ h => h) (by rfl) ?_ (by assumption) ?_
                rotate_left
                · intro w hSw; obtain ⟨s0, s1⟩ := hSw; go_simp; (try with_reducible rfl)
                try simp only [Act.put, List.setIfInBounds_toArray, List.set_cons_zero, List.set_cons_succ]
                refine skipH 26 177 rfl rfl (by kernel_rfl) (by kernel_rfl) (by kernel_rfl) (fun _ _ _ h => h) (by rfl) (by assumption) ?_
                try simp only [Act.put, List.setIfInBounds_toArray, List.set_cons_zero, List.set_cons_succ]
                refine skipH 27 178 rfl rfl (by kernel_rfl) (by kernel_rfl) (by kernel_rfl) (fun _ _ _ h => h) (by rfl) (by assumption) ?_
                try simp only [Act.put, List.setIfInBounds_toArray, List.set_cons_zero, List.set_cons_succ]
                refine skipH 28 179 rfl rfl (by kernel_rfl) (by kernel_rfl) (by kernel_rfl) (fun _ _ _ h => h) (by rfl) (by assumption) ?_
                try simp only [Act.put, List.setIfInBounds_toArray, List.set_cons_zero, List.set_cons_succ]
                refine skipH 29 180 rfl rfl (by kernel_rfl) (by kernel_rfl) (by kernel_rfl) (fun _ _ _ h => h) (by rfl) (by assumption) ?_
                try simp only [Act.put, List.setIfInBounds_toArray, List.set_cons_zero, List.set_cons_succ]
                refine skipH 30 181 rfl rfl (by kernel_rfl) (by kernel_rfl) (by kernel_rfl) (fun _ _ _ h => h) (by rfl) (by assumption) ?_
                try simp only [Act.put, List.setIfInBounds_toArray, List.set_cons_zero, List.set_cons_succ]
                refine skipH 31 182 rfl rfl (by kernel_rfl) (by kernel_rfl) (by kernel_rfl) (fun _ _ _ h => h) (by rfl) (by assumption) ?_
                try simp only [Act.put, List.setIfInBounds_toArray, List.set_cons_zero, List.set_cons_succ]
                refine skipH 32 183 rfl rfl (by kernel_rfl) (by kernel_rfl) (by kernel_rfl) (fun _ _ _ h => h) (by rfl) (by assumption) ?_
                try simp only [Act.put, List.setIfInBounds_toArray, List.set_cons_zero, List.set_cons_succ]
                refine skipH 33 184 rfl rfl (by kernel_rfl) (by kernel_rfl) (by kernel_rfl) (fun _ _ _ h => h) (by rfl) (by assumption) ?_
                try simp only [Act.put, List.setIfInBounds_toArray, List.set_cons_zero, List.set_cons_succ]
                refine skipH 34 185 rfl rfl (by kernel_rfl) (by kernel_rfl) (by kernel_rfl) (fun _ _ _ h => h) (by rfl) (by assumption) ?_
                try simp only [Act.put, List.setIfInBounds_toArray, List.set_cons_zero, List.set_cons_succ]
                refine skipH 35 186 rfl rfl (by kernel_rfl) (by kernel_rfl) (by kernel_rfl) (fun _ _ _ h => h) (by rfl) (by assumption) ?_
                try simp only [Act.put, List.setIfInBounds_toArray, List.set_cons_zero, List.set_cons_succ]
                refine skipH 36 187 rfl rfl (by kernel_rfl) (by kernel_rfl) (by kernel_rfl) (fun _ _ _ h => h) (by rfl) (by assumption) ?_
                try simp only [Act.put, List.setIfInBounds_toArray, List.set_cons_zero, List.set_cons_succ]
                refine skipH 37 188 rfl rfl (by kernel_rfl) (by kernel_rfl) (by kernel_rfl) (fun _ _ _ h => h) (by rfl) (by assumption) ?_
                try simp only [Act.put, List.setIfInBounds_toArray, List.set_cons_zero, List.set_cons_succ]
                refine skipH 38 189 rfl rfl (by kernel_rfl) (by kernel_rfl) (by kernel_rfl) (fun _ _ _ h => h) (by rfl) (by assumption) ?_
                try simp only [Act.put, List.setIfInBounds_toArray, List.set_cons_zero, List.set_cons_succ]
                refine skipH 39 190 rfl rfl (by kernel_rfl) (by kernel_rfl) (by kernel_rfl) (fun _ _ _ h => h) (by rfl) (by assumption) ?_
                try simp only [Act.put, List.setIfInBounds_toArray, List.set_cons_zero, List.set_cons_succ]
                refine skipH 40 191 rfl rfl (by kernel_rfl) (by kernel_rfl) (by kernel_rfl) (fun _ _ _ h => h) (by rfl) (by assumption) ?_
                try simp only [Act.put, List.setIfInBounds_toArray, List.set_cons_zero, List.set_cons_succ]
                refine skipH 41 192 rfl rfl (by kernel_rfl) (by kernel_rfl) (by kernel_rfl) (fun _ _ _ h => h) (by rfl) (by assumption) ?_
                try simp only [Act.put, List.setIfInBounds_toArray, List.set_cons_zero, List.set_cons_succ]
                refine skipH 42 193 rfl rfl (by kernel_rfl) (by kernel_rfl) (by kernel_rfl) (fun _ _ _ h => h) (by rfl) (by assumption) ?_
                try simp only [Act.put, List.setIfInBounds_toArray, List.set_cons_zero, List.set_cons_succ]
                refine skipH 43 194 rfl rfl (by kernel_rfl) (by kernel_rfl) (by kernel_rfl) (fun _ _ _ h => h) (by rfl) (by assumption) ?_
                try simp only [Act.put, List.setIfInBounds_toArray, List.set_cons_zero, List.set_cons_succ]
                refine skipH 44 195 rfl rfl (by kernel_rfl) (by kernel_rfl) (by kernel_rfl) (fun _ _ _ h => h) (by rfl) (by assumption) ?_
                try simp only [Act.put, List.setIfInBounds_toArray, List.set_cons_zero, List.set_cons_succ]
                refine skipH 45 196 rfl rfl (by kernel_rfl) (by kernel_rfl) (by kernel_rfl) (fun _ _ _ h => h) (by rfl) (by assumption) ?_
                try simp only [Act.put, List.setIfInBounds_toArray, List.set_cons_zero, List.set_cons_succ]
                refine skipH 46 197 rfl rfl (by kernel_rfl) (by kernel_rfl) (by kernel_rfl) (fun _ _ _ h => h) (by rfl) (by assumption) ?_
                try simp only [Act.put, List.setIfInBounds_toArray, List.set_cons_zero, List.set_cons_succ]
                refine skipH 47 198 rfl rfl (by kernel_rfl) (by kernel_rfl) (by kernel_rfl) (fun _ _ _ h => h) (by rfl) (by assumption) ?_
                try simp only [Act.put, List.setIfInBounds_toArray, List.set_cons_zero, List.set_cons_succ]
                refine skipH 48 199 rfl rfl (by kernel_rfl) (by kernel_rfl) (by kernel_rfl) (fun _ _ _ h => h) (by rfl) (by assumption) ?_
                try simp only [Act.put, List.setIfInBounds_toArray, List.set_cons_zero, List.set_cons_succ]
                refine skipH 49 200 rfl rfl (by kernel_rfl) (by kernel_rfl) (by kernel_rfl) (fun _ _ _ h => h) (by rfl) (by assumption) ?_
                try simp only [Act.put, List.setIfInBounds_toArray, List.set_cons_zero, List.set_cons_succ]
                refine skipH 50 201 rfl rfl (by kernel_rfl) (by kernel_rfl) (by kernel_rfl) (fun _ _ _ h => h) (by rfl) (by assumption) ?_
                try simp only [Act.put, List.setIfInBounds_toArray, List.set_cons_zero, List.set_cons_succ]
                refine skipH 51 202 rfl rfl (by kernel_rfl) (by kernel_rfl) (by kernel_rfl) (fun _ _ _ h => h) (by rfl) (by assumption) ?_
                try simp only [Act.put, List.setIfInBounds_toArray, List.set_cons_zero, List.set_cons_succ]
                refine skipH 52 203 rfl rfl (by kernel_rfl) (by kernel_rfl) (by kernel_rfl) (fun _ _ _ h => h) (by rfl) (by assumption) ?_
                try simp only [Act.put, List.setIfInBounds_toArray, List.set_cons_zero, List.set_cons_succ]
                refine skipH 53 204 rfl rfl (by kernel_rfl) (by kernel_rfl) (by kernel_rfl) (fun _ _ _ h => h) (by rfl) (by assumption) ?_
                try simp only [Act.put, List.setIfInBounds_toArray, List.set_cons_zero, List.set_cons_succ]
                refine skipH 54 205 rfl rfl (by kernel_rfl) (by kernel_rfl) (by kernel_rfl) (fun _ _ _ h => h) (by rfl) (by assumption) ?_
                try simp only [Act.put, List.setIfInBounds_toArray, List.set_cons_zero, List.set_cons_succ]
                refine skipH 55 206 rfl rfl (by kernel_rfl) (by kernel_rfl) (by kernel_rfl) (fun _ _ _ h => h) (by rfl) (by assumption) ?_
                try simp only [Act.put, List.setIfInBounds_toArray, List.set_cons_zero, List.set_cons_succ]
                refine skipH 56 207 rfl rfl (by kernel_rfl) (by kernel_rfl) (by kernel_rfl) (fun _ _ _ h => h) (by rfl) (by assumption) ?_
                try simp only [Act.put, List.setIfInBounds_toArray, List.set_cons_zero, List.set_cons_succ]
                refine skipH 57 208 rfl rfl (by kernel_rfl) (by kernel_rfl) (by kernel_rfl) (fun _ _ _ h => h) (by rfl) (by assumption) ?_
                try simp only [Act.put, List.setIfInBounds_toArray, List.set_cons_zero, List.set_cons_succ]
                refine skipH 58 209 rfl rfl (by kernel_rfl) (by kernel_rfl) (by kernel_rfl) (fun _ _ _ h => h) (by rfl) (by assumption) ?_
                try simp only [Act.put, List.setIfInBounds_toArray, List.set_cons_zero, List.set_cons_succ]
                refine skipH 59 210 rfl rfl (by kernel_rfl) (by kernel_rfl) (by kernel_rfl) (fun _ _ _ h => h) (by rfl) (by assumption) ?_
                try simp only [Act.put, List.setIfInBounds_toArray, List.set_cons_zero, List.set_cons_succ]
                refine skipH 60 211 rfl rfl (by kernel_rfl) (by kernel_rfl) (by kernel_rfl) (fun _ _ _ h => h) (by rfl) (by assumption) ?_
                try simp only [Act.put, List.setIfInBounds_toArray, List.set_cons_zero, List.set_cons_succ]
                refine skipH 61 212 rfl rfl (by kernel_rfl) (by kernel_rfl) (by kernel_rfl) (fun _ _ _ h => h) (by rfl) (by assumption) ?_
                try simp only [Act.put, List.setIfInBounds_toArray, List.set_cons_zero, List.set_cons_succ]
                refine skipH 62 213 rfl rfl (by kernel_rfl) (by kernel_rfl) (by kernel_rfl) (fun _ _ _ h => h) (by rfl) (by assumption) ?_
                try simp only [Act.put, List.setIfInBounds_toArray, List.set_cons_zero, List.set_cons_succ]
                refine skipH 63 214 rfl rfl (by kernel_rfl) (by kernel_rfl) (by kernel_rfl) (fun _ _ _ h => h) (by rfl) (by assumption) ?_
                try simp only [Act.put, List.setIfInBounds_toArray, List.set_cons_zero, List.set_cons_succ]
                refine skipH 64 215 rfl rfl (by kernel_rfl) (by kernel_rfl) (by kernel_rfl) (fun _ _ _ h => h) (by rfl) (by assumption) ?_
                try simp only [Act.put, List.setIfInBounds_toArray, List.set_cons_zero, List.set_cons_succ]
                refine skipH 65 216 rfl rfl (by kernel_rfl) (by kernel_rfl) (by kernel_rfl) (fun _ _ _ h => h) (by rfl) (by assumption) ?_
                try simp only [Act.put, List.setIfInBounds_toArray, List.set_cons_zero, List.set_cons_succ]
                refine skipH 66 217 rfl rfl (by kernel_rfl) (by kernel_rfl) (by kernel_rfl) (fun _ _ _ h => h) (by rfl) (by assumption) ?_
                try simp only [Act.put, List.setIfInBounds_toArray, List.set_cons_zero, List.set_cons_succ]
                refine skipH 67 218 rfl rfl (by kernel_rfl) (by kernel_rfl) (by kernel_rfl) (fun _ _ _ h => h) (by rfl) (by assumption) ?_
                try simp only [Act.put, List.setIfInBounds_toArray, List.set_cons_zero, List.set_cons_succ]
                refine skipH 68 219 rfl rfl (by kernel_rfl) (by kernel_rfl) (by kernel_rfl) (fun _ _ _ h => h) (by rfl) (by assumption) ?_
                try simp only [Act.put, List.setIfInBounds_toArray, List.set_cons_zero, List.set_cons_succ]
                refine skipH 69 220 rfl rfl (by kernel_rfl) (by kernel_rfl) (by kernel_rfl) (fun _ _ _ h => h) (by rfl) (by assumption) ?_
                try simp only [Act.put, List.setIfInBounds_toArray, List.set_cons_zero, List.set_cons_succ]
                refine skipH 70 221 rfl rfl (by kernel_rfl) (by kernel_rfl) (by kernel_rfl) (fun _ _ _ h => h) (by rfl) (by assumption) ?_
                try simp only [Act.put, List.setIfInBounds_toArray, List.set_cons_zero, List.set_cons_succ]
                refine takeH 71 222 (v := ?_) rfl rfl (by kernel_rfl) (by kernel_rfl) (by kernel_rfl) (fun _ _ _ h => h) (by rfl) ?_ (by assumption) ?_
                rotate_left
                · intro w hSw; obtain ⟨s0, s1⟩ := hSw; go_simp; (try with_reducible rfl)
                try simp only [Act.put, List.setIfInBounds_toArray, List.set_cons_zero, List.set_cons_succ]
                refine takeH 72 223 (v := ?_) rfl rfl (by kernel_rfl) (by kernel_rfl) (by kernel_rfl) (fun _ _ _ h => h) (by rfl) ?_ (by assumption) ?_
                rotate_left
                · intro w hSw; obtain ⟨s0, s1⟩ := hSw; go_simp; (try with_reducible rfl)
                try simp only [Act.put, List.setIfInBounds_toArray, List.set_cons_zero, List.set_cons_succ]
                refine wpAnyH_done (by kernel_rfl) ?_ _
                go_wp2_with fail
                go_roundw
                case rel => exact ⟨cs.length + 1 + 1, by omega, by simp, hC14⟩
                case measure => simp [intOf]; omega
          · obtain rfl : k = m := by omega
            go_wp2
            go_ret
            exact ⟨rfl, hd.below.trans (hB.mono hd.size)⟩
end Go.Proofs.YtoaegleieacokaaGreat
