/- crc.steps, its iterator, crc.More, crc.Of. -/
import Derived.Test.YtoaegleieacokaaGreatStepIn
import Derived.Test.YtoaegleieacokaaGreatZerosM
import Derived.Laws.BitsAllLaws
namespace Go.Proofs.YtoaegleieacokaaGreat
open Go.RowKit Go.Shelf
attribute [local go_sem] Oper.semAt_some

/-- One bit of a check sum. -/
def st1 (c : Nat) : Nat := if c % 2 = 1 then (c / 2) ^^^ 2197175160 else c / 2
theorem st1_lt {c : Nat} (h : c < 4294967296) : st1 c < 4294967296 := by
  unfold st1
  split
  · exact Nat.xor_lt_two_pow (n := 32) (by omega) (by omega)
  · omega
def stN : Nat → Nat → Nat
  | 0, c => c
  | k + 1, c => st1 (stN k c)
theorem stN_lt {c : Nat} (h : c < 4294967296) : ∀ k, stN k c < 4294967296
  | 0 => h
  | k + 1 => st1_lt (stN_lt h k)
def stepsL (c k : Nat) : List Nat := (List.range k).map fun i => stN (i + 1) c
theorem stepsL_succ (c k : Nat) : stepsL c (k + 1) = stepsL c k ++ [stN (k + 1) c] := by simp [stepsL, List.range_succ]
def encU32 (x : Nat) : Array Value := #[.int .u32 (x : Int)]

theorem steps_crc_calls (m : Int) (w : World) :
    Calls Tryz.prog 91 #[.int .u32 m] w fun e w' => e = .returned (.func (.func 104) #[] #[.pointer (some ⟨w.heap.size, 0, none⟩)]) ∧ w.alloc (.cells #[.int .u32 m] 74) = w' := by
  go_enter Tryz.func91, Tryz.ntmps91
  go_wp2
  go_ret
  exact ⟨rfl, rfl⟩
theorem low_bit (c : Nat) (h : c < 4294967296) : bits .and .u32 (c : Int) 1 = ((c % 2 : Nat) : Int) := by
  rw [u32_and _ _ (by omega) (by omega) (by omega) (by omega)]
  have e1 : ((c : Int)).toNat = c := by omega
  rw [e1, show (1 : Int).toNat = 1 from rfl, nat_mask1]
theorem poly_xor (c : Nat) (h : c < 4294967296) : bits .xor .u32 (c : Int) 2197175160 = ((c ^^^ 2197175160 : Nat) : Int) := by
  rw [u32_xor _ _ (by omega) (by omega) (by omega) (by omega)]
  have e1 : ((c : Int)).toNat = c := by omega
  rw [e1]
  rfl

set_option maxRecDepth 100000 in
set_option maxHeartbeats 2000000 in
theorem steps1_calls (n : Nat) (hn : 1 ≤ n) (l Bn m : Nat) (hm : m < 4294967296) (J : List Nat → World → Prop) (hJc : ∀ s A u, J s A → J s (A.setCell ⟨Bn, 0, none⟩ u))
    (hY : ∀ pre x W1, J pre W1 → pre.length < 8 → YieldAt Fence.wide (n - 1) Tryz.prog l (encU32 x) W1 fun e W' => e = .returned (.bool true) ∧ J (pre ++ [x]) W' ∧ W'.heap[Bn]? = W1.heap[Bn]?)
    (W : World) (hb : Boxed W Bn 74 (.int .u32 m)) (h0 : J [] W) :
    CallsIn Fence.wide n Tryz.prog 104 #[.func (.yield l) #[] #[], .pointer (some ⟨Bn, 0, none⟩)] W fun e W' => (∃ v, e = .returned v) ∧ ∃ xs, xs = stepsL m 8 ∧ J xs W' := by
  refine callsIn_of_wp Tryz.func104 rfl trivial ?_ rfl
  simp only [Tryz.ntmps104, List.size_toArray, List.length_cons, List.length_nil, Nat.reduceAdd, Nat.reduceSub, Array.replicate_succ, Array.replicate_zero, List.push_toArray, List.append_toArray, List.nil_append, List.cons_append]
  gi_wp2
  gi_loopw [4] (fun i wr => ∃ k : Nat, k ≤ 8 ∧ i = .int .i64 k ∧ Boxed wr Bn 74 (.int .u32 (stN k m)) ∧ J (stepsL m k) wr) (fun i _ => 8 - (intOf i).toNat)
  case atStart => exact ⟨0, by omega, rfl, hb, h0⟩
  case round =>
    obtain ⟨k, hk, rfl, hbr, hJ⟩ := hrel
    by_cases hlt : k < 8
    · have hc0 := hbr.cell
      have hf0 := hbr.frozen
      have hcl := stN_lt hm k
      have hnx : stN (k + 1) m = st1 (stN k m) := rfl
      have hsu := Lib.hid (stepsL_succ m k)
      have hlb := low_bit _ hcl
      generalize stN k m = c at *
      by_cases hodd : c % 2 = 1
      · have hs1 : st1 c = (c / 2) ^^^ 2197175160 := by unfold st1; rw [if_pos hodd]
        have hx := poly_xor (c / 2) (by omega)
        rw [Int.natCast_ediv, show ((2 : Nat) : Int) = 2 from rfl] at hx
        have hJ1 := hJc _ _ (.int .u32 ((c : Int) / 2)) hJ
        have hJ2 := hJc _ _ (.int .u32 ((c / 2 ^^^ 2197175160 : Nat) : Int)) hJ1
        have hb1 := hbr.set (.int .u32 ((c : Int) / 2))
        have hb2 := hb1.set (.int .u32 ((c / 2 ^^^ 2197175160 : Nat) : Int))
        have hc1 := hb1.cell
        have hf1 := hb1.frozen
        have hc2 := hb2.cell
        obtain ⟨fn, tmps, assign, body, hy, hR⟩ := hY _ (st1 c) _ hJ2 (by simp [stepsL]; omega)
        unfold encU32 at hy
        rw [hs1] at hy
        rw [hodd] at hlb
        gi_wp2
        refine hR.mono ?_
        rintro e W3 ⟨rfl, hJ3, hk3⟩
        have hb3 := hk3.trans hb2
        gi_wp2
        go_roundw
        case rel => exact ⟨k + 1, by omega, by simp, by rw [hnx, hs1]; exact hb3, by rw [hsu.out, hnx]; exact hJ3⟩
        case measure => simp [intOf]; omega
      · have hs1 : st1 c = c / 2 := by unfold st1; rw [if_neg hodd]
        have hJ1 := hJc _ _ (.int .u32 ((c : Int) / 2)) hJ
        have hb1 := hbr.set (.int .u32 ((c : Int) / 2))
        have hc1 := hb1.cell
        obtain ⟨fn, tmps, assign, body, hy, hR⟩ := hY _ (st1 c) _ hJ1 (by simp [stepsL]; omega)
        unfold encU32 at hy
        rw [hs1, Int.natCast_ediv, show ((2 : Nat) : Int) = 2 from rfl] at hy
        rw [show c % 2 = 0 from by omega] at hlb
        gi_wp2
        refine hR.mono ?_
        rintro e W3 ⟨rfl, hJ3, hk3⟩
        have hb3 := hk3.trans hb1
        gi_wp2
        go_roundw
        case rel => exact ⟨k + 1, by omega, by simp, by rw [hnx, hs1, Int.natCast_ediv]; exact hb3, by rw [hsu.out, hnx]; exact hJ3⟩
        case measure => simp [intOf]; omega
    · obtain rfl : k = 8 := by omega
      gi_wp2
      go_end0
      exact ⟨⟨_, rfl⟩, _, rfl, hJ⟩

theorem steps_seq (n : Nat) (hn : 1 ≤ n) (Bn m : Nat) (hm : m < 4294967296) (w : World) (hb : Boxed w Bn 74 (.int .u32 m)) :
    SeqOwn Fence.wide n Tryz.prog 104 #[.pointer (some ⟨Bn, 0, none⟩)] encU32 Bn (fun xs => xs = stepsL m 8) 8 w := fun l J W hW _ hJc hY h0 =>
  steps1_calls n hn l Bn m hm J hJc hY W ((hW.block Bn hb.lt).trans hb) h0

theorem xor_ones (c : Nat) (h : c < 4294967296) : 4294967295 ^^^ c = 4294967295 - c := by
  have h1 := congrArg BitVec.toNat (BitVec.allOnes_xor (x := BitVec.ofNat 32 c))
  rw [BitVec.toNat_xor, BitVec.toNat_not, BitVec.toNat_allOnes, BitVec.toNat_ofNat, Nat.mod_eq_of_lt (by omega)] at h1
  exact h1
theorem not32 (c : Nat) (h : c < 4294967296) : bits .xor .u32 IntKind.u32.max (c : Int) = ((4294967295 - c : Nat) : Int) := by
  rw [show IntKind.u32.max = 4294967295 from rfl, u32_xor _ _ (by omega) (by omega) (by omega) (by omega)]
  have e1 : ((c : Int)).toNat = c := by omega
  rw [e1, show (4294967295 : Int).toNat = 4294967295 from rfl, xor_ones c h]
/-- []byte(s): a new row. -/
theorem str_bytes (w : World) (s : ByteArray) : ∃ W' cap, (convert 9 55 (.string s)).run Tryz.prog w = .ok (.slice (some ⟨w.heap.size, 0, none⟩) s.size cap) W' ∧ Below w.heap.size w W' ∧ W'.heap.size = w.heap.size + 1 ∧
    ∀ j (hj : j < s.data.size), W'.cell? ⟨w.heap.size, j, none⟩ = some (.int .u8 (s.data[j].toNat : Int)) := by
  refine ⟨_, _, run_bytes_of_string (P := Tryz.prog) w 9 55 5 s Tryz.underlying9 Tryz.underlying55 Tryz.underlying5, ((Below.refl _ w).drew).alloc (Nat.le_refl _) _, by rw [World.size_alloc]; rfl, fun j hj => ?_⟩
  have := World.cell?_alloc_mark w.drew (bytesRow s (grownCap w s.size 0 5)) 5 ((bytesRow s (grownCap w s.size 0 5)).size, (bytesRow s (grownCap w s.size 0 5)).size + 1) j
  exact this.trans (bytesRow_at s _ j hj)
/-- The sum, turned over, behind a byte. -/
def crcB (c : Nat) (b : UInt8) : Nat := stN 8 (c ^^^ b.toNat)
theorem crcB_lt {c : Nat} (h : c < 4294967296) (b : UInt8) : crcB c b < 4294967296 := stN_lt (Nat.xor_lt_two_pow (n := 32) (by omega) (by have := b.toNat_lt; omega)) 8
def crcL (c : Nat) (l : List UInt8) : Nat := l.foldl crcB c
theorem crcL_lt : ∀ (l : List UInt8) {c : Nat}, c < 4294967296 → crcL c l < 4294967296
  | [], _, h => h
  | b :: l, _, h => crcL_lt l (crcB_lt h b)
def crcMore (c : Nat) (b : ByteArray) : Nat := 4294967295 - crcL (4294967295 - c) b.data.toList
theorem crcL_snoc (c : Nat) (l : List UInt8) (b : UInt8) : crcL c (l ++ [b]) = crcB (crcL c l) b := by simp [crcL]

set_option maxRecDepth 100000 in
set_option maxHeartbeats 2000000 in
theorem more_calls (c : Nat) (hc : c < 4294967296) (b : ByteArray) (hb : b.size ≤ 1099511627776) (w : World) :
    Calls Tryz.prog 85 #[.int .u32 c, .string b] w fun e w' => e = .returned (.int .u32 (crcMore c b : Int)) ∧ Below w.heap.size w w' := by
  refine (callsIn_wide (n := 4)).1 ?_
  refine callsIn_of_wp_marks Tryz.func85 rfl trivial ?_ rfl
  simp only [Tryz.ntmps85, List.size_toArray, List.length_cons, List.length_nil, Nat.reduceAdd, Nat.reduceSub, Array.replicate_succ, Array.replicate_zero, List.push_toArray, List.append_toArray, List.nil_append, List.cons_append]
  obtain ⟨c0, hc0⟩ : ∃ c0 : Nat, c0 = 4294967295 - c := ⟨_, rfl⟩
  have hn : bits .xor .u32 IntKind.u32.max (c : Int) = (c0 : Int) := by rw [hc0]; exact not32 c hc
  have HC := Lib.hid hc0
  have hc0l : c0 < 4294967296 := by omega
  clear hc0
  obtain ⟨W1, cap, hcv, hB1, hs1, hcells⟩ := str_bytes (w.alloc (.cells #[.int .u32 (c0 : Int)] 74)) b
  rw [World.size_alloc] at hB1 hs1 hcells hcv
  have hbx : Boxed W1 w.heap.size 74 (.int .u32 (c0 : Int)) := (hB1.block _ (by omega)).trans (Boxed.new w _ _)
  have hBW : Below w.heap.size w W1 := ((Below.refl _ w).alloc (Nat.le_refl _) _).trans (hB1.mono (by omega))
  gi_wp2
  refine wpIn_loop (fun a' wr => ∃ (k : Nat) (Ds : List Nat) (u6 u7 u14 u15 u16 u17 u18 u19 u20 u21 u22 u23 u24 : Value), (a' = { tmps := #[.int .u32 c, .string b, .pointer (some ⟨w.heap.size, 0, none⟩), undef, .int .u32 0, undef, u6, u7, .int .u32 c, .int .u32 c0, .string b, .slice (some ⟨w.heap.size + 1, 0, none⟩) b.size cap, .int .i64 b.size, .int .i64 k, u14, u15, u16, u17, u18, u19, u20, u21, u22, u23, u24, undef, undef], defers := Ds.map fun D => { target := .collected D, args := #[] } }) ∧
    k ≤ b.size ∧ Boxed wr w.heap.size 74 (.int .u32 (crcL c0 (b.data.toList.take k) : Int)) ∧ wr.heap[w.heap.size + 1]? = W1.heap[w.heap.size + 1]? ∧ W1.heap.size ≤ wr.heap.size ∧ Below w.heap.size w wr ∧ Ds.Nodup ∧ ∀ D ∈ Ds, w.heap.size + 2 ≤ D ∧ wr.heap[D]? = some (.deferred (some [])))
    (fun a' _ => b.size - (intOf (a'.tmps.getD 13 undef)).toNat) ?start ?round
  case start => exact ⟨0, [], _, _, _, _, _, _, _, _, _, _, _, _, _, rfl, Nat.zero_le _, hbx, rfl, Nat.le_refl _, hBW, List.nodup_nil, fun D h => by simp at h⟩
  case round =>
    rintro _ wr ⟨k, Ds, u6, u7, u14, u15, u16, u17, u18, u19, u20, u21, u22, u23, u24, rfl, hk, hbr, hrow, hsz, hBr, hnd, hds⟩
    by_cases hlt : k < b.size
    · have hcc : wr.cell? ⟨w.heap.size + 1, k, none⟩ = some (.int .u8 (b.data[k].toNat : Int)) := (World.cell?_of_block hrow).trans (hcells k hlt)
      have hlk : k < b.data.toList.length := by simpa using hlt
      have hsn := Lib.hid (crcL_snoc c0 (b.data.toList.take k) b.data.toList[k])
      have htk := Lib.hid (List.take_succ_eq_append_getElem hlk)
      have hel : b.data.toList[k] = b.data[k] := by simp
      rw [hel] at hsn htk
      have hcl := crcL_lt (b.data.toList.take k) hc0l
      have hcrc : crcL c0 (b.data.toList.take (k + 1)) = crcB (crcL c0 (b.data.toList.take k)) b.data[k] := by rw [htk.out, hsn.out]
      have HCR := Lib.hid hcrc
      clear hcrc hsn htk hel hcells
      generalize b.data[k] = x at *
      generalize crcL c0 (b.data.toList.take k) = cc at *
      have hx8 := x.toNat_lt
      have hxor : bits .xor .u32 (cc : Int) (x.toNat : Int) = ((cc ^^^ x.toNat : Nat) : Int) := by
        rw [u32_xor _ _ (by omega) (by omega) (by omega) (by omega)]
        rfl
      have hxl : cc ^^^ x.toNat < 4294967296 := Nat.xor_lt_two_pow (n := 32) (by omega) (by omega)
      have hc0' := hbr.cell
      have hgt := hbr.lt
      gi_wp2_with (refine ⟨trivial, ?_⟩; gi_at_call 91; refine (callsIn_wide.2 (steps_crc_calls _ _)).mono ?_; rintro e w' ⟨rfl, rfl⟩)
      have bN := Boxed.new wr 74 (.int .u32 ((cc ^^^ x.toNat : Nat) : Int))
      have hbr2 := hbr.alloc (.cells #[.int .u32 ((cc ^^^ x.toNat : Nat) : Int)] 74)
      have hCh : Chg [w.heap.size, wr.heap.size] wr (wr.alloc (.cells #[.int .u32 ((cc ^^^ x.toNat : Nat) : Int)] 74)) := Chg.of_below ((Below.refl _ wr).alloc (Nat.le_refl _) _)
      have hVs : (wr.alloc (.cells #[.int .u32 ((cc ^^^ x.toNat : Nat) : Int)] 74)).heap.size = wr.heap.size + 1 := World.size_alloc _ _
      generalize hV : wr.alloc (.cells #[.int .u32 ((cc ^^^ x.toNat : Nat) : Int)] 74) = V at *
      refine wpIn_rangeFunc_st (α := Nat) rfl (by omega) (gf := 104) (lb := #[.pointer (some ⟨wr.heap.size, 0, none⟩)]) rfl trivial (enters_of Tryz.func104 (by kernel_rfl) rfl)
        (steps_seq 3 (by omega) wr.heap.size _ hxl _ bN) (Below.refl _ _) (by omega) (fun _ => rfl)
        (fun (pre : List Nat) W => Boxed W w.heap.size 74 (.int .u32 ((pre.getLast?.getD cc : Nat) : Int)) ∧ (∃ u, Boxed W wr.heap.size 74 u) ∧ Chg [w.heap.size, wr.heap.size] V W)
        (OwnFrom.and (Own.from (boxed_own _ _ (fun (pre : List Nat) => .int .u32 ((pre.getLast?.getD cc : Nat) : Int))) _) (OwnFrom.and (Own.from (boxEx_own _ _) _) (chg_own _ _)))
        ?cell ⟨hbr2, ⟨_, bN⟩, Chg.refl _ _⟩
        (fun y => { tmps := #[.int .u32 c, .string b, .pointer (some ⟨w.heap.size, 0, none⟩), undef, .int .u32 0, undef, .int .u8 (x.toNat : Int), .int .u32 (y : Int), .int .u32 c, .int .u32 c0, .string b, .slice (some ⟨w.heap.size + 1, 0, none⟩) b.size cap, .int .i64 b.size, .int .i64 k, .bool true, .pointer (some ⟨w.heap.size + 1, k, none⟩), .int .u8 (x.toNat : Int), .int .u32 cc, .int .u8 (x.toNat : Int), .int .u32 (x.toNat : Int), .int .u32 ((cc ^^^ x.toNat : Nat) : Int), .func (.func 104) #[] #[.pointer (some ⟨wr.heap.size, 0, none⟩)], .int .u32 (y : Int), u23, u24, undef, undef], defers := [] }) ?assign ?body ?done
      case cell =>
        rintro s A u ⟨h1, ⟨u0, h2⟩, h3⟩
        exact ⟨h1.other (by omega) u, ⟨u, h2.set u⟩, h3.trans (Chg.setCell (p := ⟨wr.heap.size, 0, none⟩) (by simp) u)⟩
      case assign =>
        intro l y W K hK
        unfold encU32
        gi_wp2
        exact hK
      case body =>
        rintro l pre y W ⟨h1, ⟨u0, h2⟩, h3⟩ hlen
        have hcx := h1.cell
        have hfx := h1.frozen
        gi_wp2
        refine ⟨(KeepsOthers.setCell _ _ _).from _, Below.heap_setCell _ _ _ _ (by simp; omega), ?_, ⟨u0, h2.other (by omega) _⟩, h3.trans (Chg.setCell (p := ⟨w.heap.size, 0, none⟩) (by simp) _)⟩
        rw [List.getLast?_append]
        exact h1.set _
      case done =>
        rintro D ys W hD rfl ⟨h1, _, h3⟩ hK
        have hC := hCh.trans h3
        have hWs := hC.size
        have hlast : (stepsL (cc ^^^ x.toNat) 8).getLast?.getD cc = crcB cc x := rfl
        rw [hlast] at h1
        gi_wp2
        refine ⟨⟨k + 1, D :: Ds, _, _, _, _, _, _, _, _, _, _, _, _, _, rfl, by omega, by rw [HCR.out]; exact h1, ?_, by omega, ?_, ?_, ?_⟩, ?_⟩
        · exact (hC.block _ (by omega) (by simp; omega)).trans hrow
        · exact hBr.trans (hC.below hBr.size (by simp; omega))
        · refine List.nodup_cons.2 ⟨fun hin => ?_, hnd⟩
          have := (Array.getElem?_eq_some_iff.1 (hds D hin).2).1
          omega
        · intro D' hD'
          rcases List.mem_cons.1 hD' with rfl | hD'
          · exact ⟨by omega, hK⟩
          · have hlD := (Array.getElem?_eq_some_iff.1 (hds D' hD').2).1
            have hlo := (hds D' hD').1
            exact ⟨hlo, (hC.block _ hlD (by simp; omega)).trans (hds D' hD').2⟩
        · simp [intOf]
          omega
    · obtain rfl : k = b.size := by omega
      have hc0' := hbr.cell
      gi_wp2
      refine leaves_marks Ds wr hBr hBr.size hnd (fun D h => ⟨by have := (hds D h).1; omega, (hds D h).2⟩) (fun W' hW' _ => ?_)
      refine ⟨_, results_tmp rfl _ _ _, ?_, hW'⟩
      rw [not32 _ (crcL_lt _ hc0l), List.take_of_length_le (by simp), HC.out]
      rfl
theorem of_crc_calls (b : ByteArray) (hb : b.size ≤ 1099511627776) (w : World) :
    Calls Tryz.prog 76 #[.string b] w fun e w' => e = .returned (.int .u32 (crcMore 0 b : Int)) ∧ Below w.heap.size w w' := by
  go_enter Tryz.func76, Tryz.ntmps76
  go_wp2_with (go_at_call 85; refine (more_calls 0 (by omega) b hb w).mono ?_; rintro e w1 ⟨rfl, h1⟩)
  go_ret
  exact ⟨rfl, h1⟩
end Go.Proofs.YtoaegleieacokaaGreat
