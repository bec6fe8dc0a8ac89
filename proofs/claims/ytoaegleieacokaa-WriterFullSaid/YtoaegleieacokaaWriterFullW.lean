/- WriterFull: the walk. -/
import Derived.Test.YtoaegleieacokaaFullArg
namespace Go.Proofs.Ytoaegleieacokaa
open Go.RowKit Go.Shelf

set_option maxRecDepth 100000 in
set_option maxHeartbeats 2000000 in
theorem walk_WriterFull {W : World} (a0 : Option Addr) (c0 : Nat) (l0 : List Int) (r0 : Rd W W.heap.size 1 (.slice a0 l0.length c0) l0.length (l0.map (Value.int .u16))) (_ : c0 ≤ maxLen) (g0 : ∀ x ∈ l0, (Lit.int .u16 x).wf = true) (a1 : Int) (w1 : (Lit.int .u16 a1).wf = true) :
    Calls Try.prog 7 #[.slice a0 l0.length c0, .int .u16 a1] W fun e w' => e = .returned (.bool true) ∧ Below W.heap.size W w' := by
  obtain ⟨x0, y0⟩ := wf_u16 w1
  go_enter Try.func7, Try.ntmps7
  go_wp2_with fail
  refine (known22_calls W).mono ?_
  rintro e w1 ⟨rfl, hB1⟩
  by_cases hlen : 30 < l0.length
  · go_wp2
    go_ret
    exact ⟨rfl, hB1⟩
  obtain ⟨r, hrr, hr0, hr1⟩ : ∃ r : Nat, a1 % 9000 + 200 = (r : Int) ∧ 200 ≤ r ∧ r ≤ 9199 := ⟨(a1 % 9000 + 200).toNat, by omega, by omega, by omega⟩
  go_wp2_with fail
  refine (new_dk (r : Int) hB1 hB1.size).mono ?_
  rintro e w2 ⟨D, rfl, M, h⟩
  clear hB1
  have hrm : (newDS (r : Int)).room = (r : Int) := by simp only [newDS]; omega
  have hzu : used (newDS (r : Int)).l = 0 := rfl
  have hll : (newDS (r : Int)).l.length = 0 := rfl
  have hmk := make_g 2100 (uns_new (r : Int)) (by decide) (by omega) (by omega) h
  rw [show limN 2100 = 2100 from rfl] at hmk
  clear h
  go_wp2_with fail
  refine hmk.mono ?_
  clear hmk
  rintro e w3 ⟨B, s0, rfl, hg, hr2, hl0, hu0⟩
  go_wp2_with fail
  go_loopw [8, 9] (fun o i wr => ∃ j : Nat, j ≤ l0.length ∧ i = .int .i64 j ∧ ∃ cs c s, o = .string (cat (cs ++ [c])) ∧ Wg W.heap.size W D M B 2100 (16 + 30 * (j : Int)) 1 cs c s wr ∧ cs.length ≤ j ∧ s.room = (r : Int) ∧ s.l.length ≤ 2 + 4 * j ∧ (∀ x ∈ cs ++ [c], x.size ≤ 2084) ∧ (cat (cs ++ [c])).size ≤ 2084 * j) (fun _ i _ => l0.length - (intOf i).toNat)
  case atStart => exact ⟨0, Nat.zero_le _, rfl, [], ⟨#[]⟩, s0, rfl, hg, Nat.le_refl _, by omega, by omega, by simp [show (⟨#[]⟩ : ByteArray).size = 0 from rfl], Nat.le_refl _⟩
  case round =>
    obtain ⟨j, hj, rfl, cs, c, s, rfl, hg, hcs, hr, hl, hsz, htot⟩ := hrel
    by_cases hlt : j < l0.length
    · obtain ⟨b, off, rfl, hb, hcell⟩ := u16_cell (r0.below hg.wk.dk.below (Nat.le_refl _)) (by omega)
      have q := hcell j hlt
      have hgood := g0 _ (List.getElem_mem hlt)
      clear hcell g0
      generalize l0[j] = x at *
      obtain ⟨x1, y1⟩ := wf_u16 hgood
      obtain ⟨n, hn, hn1⟩ : ∃ n : Nat, x.tmod 1900 = (n : Int) ∧ n < 1900 := ⟨(x % 1900).toNat, by rw [Int.tmod_eq_emod_of_nonneg x1]; omega, by omega⟩
      obtain ⟨m, hmm, hm1⟩ : ∃ m : Nat, 97 + (j : Int) % 26 = (m : Int) ∧ m < 256 := ⟨97 + j % 26, by omega, by omega⟩
      have hzs := zerosB_size n
      go_wp2_with fail
      go_cut [10] from 45 to 59 (fun s10 wx => s10 = .string ((⟨#[UInt8.ofNat m]⟩ : ByteArray) ++ zerosB n) ∧ Below wr.heap.size wr wx)
      case first =>
        have hbl : b < wr.heap.size := Nat.lt_of_lt_of_le hb hg.wk.dk.size
        have hwn : IntKind.i64.wrap (n : Int) = (n : Int) := by rw [IntKind.wrap_i64]; omega
        have hmk := zeros_made n (by omega)
        have hj0 : (0 : Int) ≤ (j : Int) := by omega
        have hj1 : (j : Int) < (l0.length : Int) := by omega
        have hc1 := fun (w : World) => zeros_conv n (w.alloc (.cells (madeCells #[.int .u8 0] n) 5)).drew w.heap.size (Blk.new w _ _)
        have hc2 := fun (w : World) (X : Array Value) (t : TypeId) => zeros_conv n ((w.alloc (.cells (madeCells #[.int .u8 0] n) 5)).alloc (.cells X t)).drew w.heap.size ((Blk.new w _ _).alloc _)
        have hc3 := fun (w : World) (X : Array Value) (t : TypeId) => zeros_conv n ((w.alloc (.cells X t)).alloc (.cells (madeCells #[.int .u8 0] n) 5)).drew (w.alloc (.cells X t)).heap.size (Blk.new _ _ _)
        have hl1 := fun (w : World) => one_conv m hm1 (w.alloc (.cells #[.int .u8 (m : Int)] 5)).drew w.heap.size (Blk.new w _ _)
        have hl2 := fun (w : World) (X : Array Value) (t : TypeId) => one_conv m hm1 ((w.alloc (.cells #[.int .u8 (m : Int)] 5)).alloc (.cells X t)).drew w.heap.size ((Blk.new w _ _).alloc _)
        have hl3 := fun (w : World) (X : Array Value) (t : TypeId) => one_conv m hm1 ((w.alloc (.cells X t)).alloc (.cells #[.int .u8 (m : Int)] 5)).drew (w.alloc (.cells X t)).heap.size (Blk.new _ _ _)
        simp only [World.size_alloc] at hc3 hl3
        have hB0 := Below.refl wr.heap.size wr
        clear hg hgood htot hsz
        have hnew := World.new_ne wr _ q
        have hm2 : 97 + (j : Int) % 26 = (m : Int) := hmm
        have hn2 : x % 1900 = (n : Int) := by rw [← hn, Int.tmod_eq_emod_of_nonneg x1]
        have hlt1 : ¬ 9223372036854775807 < 1 + n := by omega
        have hlt2 : ¬ (9223372036854775807 : Int) < 1 + (n : Int) := by omega
        have hq1 := fun (o : Obj) => (World.cell?_alloc_lt wr.drew o ⟨b, off + j, none⟩ hbl).trans q
        have hq2 := fun (o o' : Obj) => (World.cell?_alloc_lt (wr.drew.alloc o) o' ⟨b, off + j, none⟩ (by rw [World.size_alloc]; exact Nat.lt_succ_of_lt hbl)).trans (hq1 o)
        go_region
        all_goals
          go_wp2_with fail
          go_meet
          exact ⟨rfl, ((hB0.drew.alloc (Nat.le_refl _) _).alloc (by simp) _)⟩
      case rest =>
        obtain ⟨rfl, hBc⟩ := hcut
        have hbs : ((⟨#[UInt8.ofNat m]⟩ : ByteArray) ++ zerosB n).size = 1 + n := by rw [app_size, hzs]; rfl
        generalize (⟨#[UInt8.ofNat m]⟩ : ByteArray) ++ zerosB n = bb at *
        clear q hmm hm1 hzs hn
        replace hg := hg.next hBc
        clear hBc
        have hsm : c.size ≤ 2084 := hsz c (by simp)
        go_wp2_with fail
        refine (write_g (by omega) (by omega) (by omega) (by omega) (by omega) (by omega) (by omega) bb (by omega) (by omega) hg).mono ?_
        clear hg
        rintro e w5 ⟨e, p, cs', c', s', rfl, hg, hw, hr', hl', _⟩
        obtain ⟨hcat, hcs', hsz', u, v, rfl⟩ := wrote_cat hw (by omega) hsz
        have htot' : (cat (cs' ++ [c'])).size ≤ 2084 * (j + 1) := by
          rcases hcat with ⟨_, h⟩ | ⟨_, h⟩
          · rw [← h, app_size]; omega
          · rw [← h]; omega
        clear hw hsz
        have hBp : Below w5.heap.size w5 (w5.alloc (.cells #[.int .i64 u, .int .i64 v] 52)) := (Below.refl _ w5).alloc (Nat.le_refl _) _
        replace hg := hg.next hBp
        clear hBp
        have hlc : ¬ 9223372036854775807 < (cat (cs ++ [c])).size + (1 + n) := by omega
        have hsegs := segs_g (by omega) hg
        have hlenL : (cs' ++ [c']).length = cs'.length + 1 := by simp
        have hlenS := segL_len 1 (cs'.length + 1)
        rcases hcat with ⟨rfl, hcat⟩ | ⟨rfl, hcat⟩
        all_goals
          go_wp2_with fail
          refine hsegs.mono ?_
          clear hsegs
          rintro e w6 ⟨A, C, rfl, hRd, hg, _⟩
          go_wp2_with fail
          clear hcat hlc
          have hgu := hg.u.fit.used
          go_loopw [14, 15] (fun g i wx => ∃ k : Nat, k ≤ cs'.length + 1 ∧ i = .int .i64 k ∧ g = .string (cat ((cs' ++ [c']).take k)) ∧ Below w6.heap.size w6 wx) (fun _ i _ => cs'.length + 1 - (intOf i).toNat)
          case atStart => exact ⟨0, Nat.zero_le _, rfl, rfl, Below.refl _ _⟩
          case round =>
            obtain ⟨k, hk, rfl, rfl, hBk⟩ := hrel
            have hgk := hg.next hBk
            by_cases hkl : k < cs'.length + 1
            · have hI : Ints w6 w6.heap.size (.slice (some A) (segL 1 (cs'.length + 1)).length C) (segL 1 (cs'.length + 1)) := by unfold Ints; rw [hlenS]; exact hRd
              obtain ⟨b2, off2, hA, hb2, hc2⟩ := (hI.below hBk (Nat.le_refl _)).cell (by omega)
              obtain rfl : A = ⟨b2, off2, none⟩ := by simpa using hA
              have q2 := hc2 k (by omega)
              rw [segL_at] at q2
              obtain ⟨kp, f2⟩ := hg.img.get (k := k) (by omega)
              have rd := read_u hg.u f2
              simp only at rd
              have hcut := body_cut (H := headB (1 + k)) (Z := (cs' ++ [c'])[k]'(by omega)) (headB_size _)
              have hnx := cat_take (l := cs' ++ [c']) (k := k) (by omega)
              have hsz2 := hsz' _ (List.getElem_mem (l := cs' ++ [c']) (n := k) (by omega))
              have hS : (headB (1 + k) ++ (cs' ++ [c'])[k]'(by omega)).size = 16 + ((cs' ++ [c'])[k]'(by omega)).size := by rw [app_size, headB_size]
              have hle2 := cat_take_le (cs' ++ [c']) (k + 1)
              rw [hnx, app_size] at hle2
              generalize headB (1 + k) ++ (cs' ++ [c'])[k]'(by omega) = S at *
              generalize (cs' ++ [c'])[k]'(by omega) = Z at *
              have hid : idN (((1 + k : Nat) : Int)) = 1 + k := idN_nat (by omega) (by omega)
              have hnm := fun w' => rname_calls (((1 + k : Nat) : Int)) w'
              rw [hid] at hnm
              have hrdc := fun w' (hx : Below wr.heap.size wr w') => dread_calls D M s' (nameB (1 + k)) w' (hgk.wk.dk.next hx).at'
              rw [rd] at hrdc
              have h16 : (16 : Int) ≤ (S.size : Int) := by omega
              have h16n : ¬ (S.size : Int) < 16 := by omega
              have h21 : ¬ (2100 : Int) < (S.size : Int) := by omega
              have hlc2 : ¬ 9223372036854775807 < (cat ((cs' ++ [c']).take k)).size + Z.size := by omega
              have hkl2 : (k : Int) < (cs'.length : Int) + 1 := by omega
              have HN := Lib.hid hnx
              clear hS hI hc2 f2 rd hid hle2 hnx hsz' hRd hA htot'
              generalize nameB (1 + k) = nm at *
              generalize ((1 + k : Nat) : Int) = v at *
              go_wp2_with fail
              refine (hnm _).mono ?_
              rintro e w7 ⟨rfl, hB7⟩
              go_wp2_with fail
              refine (hrdc _ hB7).mono ?_
              rintro e w8 ⟨rfl, hB8⟩
              go_wp2_with fail
              go_roundw
              case rel => exact ⟨k + 1, by omega, by simp, by rw [HN.out], hBk.trans ((hB7.trans (hB8.mono hB7.size)).mono hBk.size)⟩
              case measure => simp [intOf]; omega
            · obtain rfl : k = cs'.length + 1 := by omega
              have htk : (cs' ++ [c']).take (cs'.length + 1) = cs' ++ [c'] := List.take_of_length_le (by omega)
              rw [htk]
              have huc := used_calls D M s' hgk.wk.dk.ok.used _ hgk.wk.dk.at'
              have hur : ¬ (r : Int) < (used s'.l : Int) := by omega
              have HT := Lib.hid htot'
              have HS := Lib.hid hsz'
              clear htk htot' hsz'
              generalize hL : cat (cs' ++ [c']) = cc at *
              go_wp2_with fail
              refine huc.mono ?_
              rintro e w7 ⟨rfl, hB7⟩
              go_wp2_with fail
              go_roundw
              case rel => exact ⟨j + 1, by omega, by simp, cs', c', s', by rw [hL], (hgk.next hB7).up (by omega), by omega, by omega, by omega, HS.out, by rw [hL]; exact HT.out⟩
              case measure => simp [intOf]; omega
    · obtain rfl : j = l0.length := by omega
      go_wp2
      go_ret
      exact ⟨rfl, hg.wk.dk.below⟩
end Go.Proofs.Ytoaegleieacokaa
