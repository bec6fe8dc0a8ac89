/- Package head: how segments' files are named, and how they begin. -/
import Derived.Test.YtoaegleieacokaaGreatCodeFixed
namespace Go.Proofs.YtoaegleieacokaaGreat
open Go.RowKit Go.Shelf
attribute [local go_sem] Oper.semAt_some

/-- The decimal at the place k, as a byte. -/
def dg (m k : Nat) : Nat := 48 + m / 10 ^ k % 10
theorem dg_lt (m k : Nat) : dg m k < 58 := by unfold dg; omega
def digitsL (m : Nat) : List UInt8 := [UInt8.ofNat (dg m 7), UInt8.ofNat (dg m 6), UInt8.ofNat (dg m 5), UInt8.ofNat (dg m 4), UInt8.ofNat (dg m 3), UInt8.ofNat (dg m 2), UInt8.ofNat (dg m 1), UInt8.ofNat (dg m 0)]
/-- The number that a segment may have. -/
def idN (id : Int) : Nat := (max 1 (min id 99999999)).toNat
def nameB (m : Nat) : ByteArray := ⟨(([115, 101, 103, 45] : List UInt8) ++ digitsL m).toArray⟩
theorem held_calls (id : Int) (w : World) : Calls Tryz.prog 67 #[.int .i64 id] w fun e w' => e = .returned (.int .i64 (idN id : Int)) ∧ w = w' := by
  by_cases h1 : id < 1
  · rw [show (idN id : Int) = 1 from by unfold idN; omega]
    go_enter Tryz.func67, Tryz.ntmps67
    go_wp2
    go_ret
    exact ⟨rfl, rfl⟩
  by_cases h2 : 99999999 < id
  · rw [show (idN id : Int) = 99999999 from by unfold idN; omega]
    go_enter Tryz.func67, Tryz.ntmps67
    go_wp2
    go_ret
    exact ⟨rfl, rfl⟩
  · rw [show (idN id : Int) = id from by unfold idN; omega]
    go_enter Tryz.func67, Tryz.ntmps67
    go_wp2
    go_ret
    exact ⟨rfl, rfl⟩
theorem decimals_calls (m : Int) (w : World) :
    Calls Tryz.prog 66 #[.int .i64 m] w fun e w' => e = .returned (.func (.func 79) #[] #[.pointer (some ⟨w.heap.size, 0, none⟩)]) ∧ w.alloc (.cells #[.int .i64 m] 3) = w' := by
  go_enter Tryz.func66, Tryz.ntmps66
  go_wp2
  go_ret
  exact ⟨rfl, rfl⟩
def encDg (m : Nat) (x : Fin 8) : Array Value := #[.int .i64 (x.val : Int), .int .u8 (dg m x.val : Int)]
set_option maxRecDepth 100000 in
set_option maxHeartbeats 2000000 in
theorem decimals1_calls (n : Nat) (hn : 1 ≤ n) (l Bn m : Nat) (hm : m < 100000000) (J : List (Fin 8) → World → Prop) (hJc : ∀ s A u, J s A → J s (A.setCell ⟨Bn, 0, none⟩ u))
    (hY : ∀ pre x W1, J pre W1 → pre.length < 8 → YieldAt Fence.wide (n - 1) Tryz.prog l (encDg m x) W1 fun e W' => e = .returned (.bool true) ∧ J (pre ++ [x]) W' ∧ W'.heap[Bn]? = W1.heap[Bn]?)
    (W : World) (hb : Boxed W Bn 3 (.int .i64 m)) (h0 : J [] W) :
    CallsIn Fence.wide n Tryz.prog 79 #[.func (.yield l) #[] #[], .pointer (some ⟨Bn, 0, none⟩)] W fun e W' => (∃ v, e = .returned v) ∧ ∃ xs, xs = List.finRange 8 ∧ J xs W' := by
  refine callsIn_of_wp Tryz.func79 rfl trivial ?_ rfl
  simp only [Tryz.ntmps79, List.size_toArray, List.length_cons, List.length_nil, Nat.reduceAdd, Nat.reduceSub, Array.replicate_succ, Array.replicate_zero, List.push_toArray, List.append_toArray, List.nil_append, List.cons_append]
  gi_wp2
  gi_loopw [4] (fun i wr => ∃ (k c : Nat), k ≤ 8 ∧ i = .int .i64 k ∧ c < 100000000 ∧ Hid (c = m / 10 ^ k) ∧ Boxed wr Bn 3 (.int .i64 c) ∧ J ((List.finRange 8).take k) wr) (fun i _ => 8 - (intOf i).toNat)
  case atStart => exact ⟨0, m, by omega, rfl, hm, Lib.hid (by simp), hb, h0⟩
  case round =>
    obtain ⟨k, c, hk, rfl, hc, HC, hbr, hJ⟩ := hrel
    have hc0 := hbr.cell
    by_cases hlt : k < 8
    · obtain ⟨fn, tmps, assign, body, hy, hR⟩ := hY _ ⟨k, hlt⟩ wr hJ (by simp; omega)
      have hdg : (dg m k : Int) = 48 + (c : Int) % 10 := by rw [HC.out]; unfold dg; omega
      unfold encDg at hy
      rw [hdg] at hy
      have HT := Lib.hid (show (List.finRange 8).take (k + 1) = (List.finRange 8).take k ++ [⟨k, hlt⟩] from by rw [List.take_succ_eq_append_getElem (by simpa using hlt)]; simp)
      have HC2 : Hid (c / 10 = m / 10 ^ (k + 1)) := Lib.hid (by rw [HC.out, Nat.div_div_eq_div_mul, Nat.pow_succ])
      clear hdg
      gi_wp2
      refine hR.mono ?_
      rintro e W3 ⟨rfl, hJ3, hk3⟩
      have hb3 : Boxed W3 Bn 3 (.int .i64 c) := hk3.trans hbr
      have hc3 := hb3.cell
      have hf3 := hb3.frozen
      have hnx := hJc _ _ (.int .i64 (c / 10)) hJ3
      have hbn := hb3.set (.int .i64 ((c : Int) / 10))
      gi_wp2
      go_roundw
      case rel => exact ⟨k + 1, c / 10, by omega, by simp, by omega, HC2, by rw [Int.natCast_ediv]; exact hbn, by rw [HT.out]; exact hnx⟩
      case measure => simp [intOf]; omega
    · obtain rfl : k = 8 := by omega
      rw [List.take_of_length_le (by simp)] at hJ
      gi_wp2
      go_end0
      first | exact ⟨⟨_, rfl⟩, _, rfl, hJ⟩ | exact ⟨⟨_, rfl⟩, hJ⟩
theorem decimals_seq (n : Nat) (hn : 1 ≤ n) (Bn m : Nat) (hm : m < 100000000) (w : World) (hb : Boxed w Bn 3 (.int .i64 m)) :
    SeqOwn Fence.wide n Tryz.prog 79 #[.pointer (some ⟨Bn, 0, none⟩)] (encDg m) Bn (fun xs => xs = List.finRange 8) 8 w := fun l J W hW _ hJc hY h0 =>
  decimals1_calls n hn l Bn m hm J hJc hY W ((hW.block Bn hb.lt).trans hb) h0
/-- The digits behind some rounds. -/
def dgs (m : Nat) (pre : List (Fin 8)) : List UInt8 := pre.foldl (fun a x => a.set (7 - x.val) (UInt8.ofNat (dg m x.val))) (List.replicate 8 0)
theorem dgs_snoc (m : Nat) (pre : List (Fin 8)) (x : Fin 8) : dgs m (pre ++ [x]) = (dgs m pre).set (7 - x.val) (UInt8.ofNat (dg m x.val)) := by simp [dgs]
theorem dgs_len (m : Nat) (pre : List (Fin 8)) : (dgs m pre).length = 8 := by
  unfold dgs
  have : ∀ (pre : List (Fin 8)) (a : List UInt8), a.length = 8 → (pre.foldl (fun a x => a.set (7 - x.val) (UInt8.ofNat (dg m x.val))) a).length = 8 := by
    intro pre
    induction pre with
    | nil => intro a h; exact h
    | cons x pre ih => intro a h; exact ih _ (by simpa using h)
  exact this pre _ (by simp)
theorem dgs_all (m : Nat) : dgs m (List.finRange 8) = digitsL m := rfl
set_option maxRecDepth 100000 in
set_option maxHeartbeats 2000000 in
theorem name_calls (id : Int) (w : World) :
    Calls Tryz.prog 35 #[.int .i64 id] w fun e w' => e = .returned (.string (nameB (idN id))) ∧ Below w.heap.size w w' := by
  have hm : idN id < 100000000 := by unfold idN; omega
  generalize hmm : idN id = m at *
  have hheld := held_calls id
  rw [hmm] at hheld
  have HH := Lib.hid hheld
  clear hheld hmm
  refine (callsIn_wide (n := 4)).1 ?_
  refine callsIn_of_wp_marks Tryz.func35 rfl trivial ?_ rfl
  simp only [Tryz.ntmps35, List.size_toArray, List.length_cons, List.length_nil, Nat.reduceAdd, Nat.reduceSub, Array.replicate_succ, Array.replicate_zero, List.push_toArray, List.append_toArray, List.nil_append, List.cons_append]
  gi_wp2_with (first
    | (refine ⟨trivial, ?_⟩; gi_at_call 67; refine (callsIn_wide.2 (HH.out _)).mono ?_; rintro e w2 ⟨rfl, rfl⟩)
    | (refine ⟨trivial, ?_⟩; gi_at_call 66; refine (callsIn_wide.2 (decimals_calls _ _)).mono ?_; rintro e w' ⟨rfl, rfl⟩))
  have bA := Blk.new w 102 #[.int .u8 0, .int .u8 0, .int .u8 0, .int .u8 0, .int .u8 0, .int .u8 0, .int .u8 0, .int .u8 0]
  have bN := Boxed.new (w.alloc (.cells #[.int .u8 0, .int .u8 0, .int .u8 0, .int .u8 0, .int .u8 0, .int .u8 0, .int .u8 0, .int .u8 0] 102)) 3 (.int .i64 (m : Int))
  simp only [World.size_alloc] at bN
  have hB0 : Below w.heap.size w ((w.alloc (.cells #[.int .u8 0, .int .u8 0, .int .u8 0, .int .u8 0, .int .u8 0, .int .u8 0, .int .u8 0, .int .u8 0] 102)).alloc (.cells #[.int .i64 (m : Int)] 3)) := ((Below.refl _ w).alloc (Nat.le_refl _) _).alloc (by simp) _
  refine wpIn_rangeFunc_st (α := Fin 8) rfl (by omega) (gf := 79) (lb := #[.pointer (some ⟨w.heap.size + 1, 0, none⟩)]) rfl trivial (enters_of Tryz.func79 (by kernel_rfl) rfl)
    (decimals_seq 3 (by omega) (w.heap.size + 1) m hm _ bN) (Below.refl _ _) (by simp) (fun _ => rfl)
    (fun (pre : List (Fin 8)) W => Blk W w.heap.size 102 (byteVals (dgs m pre)).toArray ∧ (∃ u, Boxed W (w.heap.size + 1) 3 u) ∧ Below w.heap.size w W)
    (OwnFrom.and (Own.from (blk_own w.heap.size 102 (fun (pre : List (Fin 8)) => (byteVals (dgs m pre)).toArray)) _) (OwnFrom.and (Own.from (boxEx_own _ _) _) (ownFrom_below (Nat.le_refl _) (by simp; omega))))
    ?cell ⟨bA.alloc _, ⟨_, bN⟩, hB0⟩
    (fun x => { tmps := #[.int .i64 id, undef, .string ⟨#[]⟩, .pointer (some ⟨w.heap.size, 0, none⟩), .int .i64 (x.val : Int), .int .u8 (dg m x.val : Int), .int .i64 id, .int .i64 (m : Int), .func (.func 79) #[] #[.pointer (some ⟨w.heap.size + 1, 0, none⟩)], .int .i64 (x.val : Int), .int .u8 (dg m x.val : Int), undef, undef, undef, undef, undef, undef, undef], defers := [] }) ?assign ?body ?done
  case cell =>
    rintro s A u ⟨h1, ⟨u0, h4⟩, h3⟩
    exact ⟨h1.other (by simp) u, ⟨u, h4.set u⟩, h3.setCell (by simp) u⟩
  case assign =>
    intro l x W K hK
    unfold encDg
    gi_wp2
    exact hK
  case body =>
    rintro l pre ⟨i, hi⟩ W ⟨h1, ⟨u0, h4⟩, h3⟩ hlt
    have hd := dgs_snoc m pre ⟨i, hi⟩
    have hdl := dgs_len m pre
    have hdg : (dg m i : Int) = ((UInt8.ofNat (dg m i)).toNat : Int) := by have := dg_lt m i; rw [u8_toNat (by omega)]
    simp only at hd
    have hq : (7 : Int) - (i : Int) = ((7 - i : Nat) : Int) := by omega
    have hq7 : 7 - i < 8 := by omega
    have hst := h1.set (7 - i) (.int .u8 (dg m i : Int))
    have hv : (byteVals (dgs m pre)).toArray.setIfInBounds (7 - i) (.int .u8 (dg m i : Int)) = (byteVals (dgs m (pre ++ [⟨i, hi⟩]))).toArray := by
      rw [hd, hdg]
      simp [byteVals]
    have c1 : (W.cell? ⟨w.heap.size, 7 - i, none⟩).isSome = true := by
      rw [h1.cell]
      simp [byteVals, hdl, hq7]
    obtain ⟨v1, hc1⟩ := Option.isSome_iff_exists.1 c1
    have f1 := h1.frozen (7 - i)
    rw [hv] at hst
    clear hv hd hdl c1 hdg
    have hoth : (W.setCell ⟨w.heap.size, 7 - i, none⟩ (.int .u8 (dg m i : Int))).heap[w.heap.size + 1]? = W.heap[w.heap.size + 1]? := Below.heap_setCell _ _ _ _ (by simp)
    generalize 7 - i = q at *
    generalize dg m i = dd at *
    gi_wp2
    exact ⟨(KeepsOthers.setCell _ _ _).from _, hoth, hst, ⟨u0, hoth.trans h4⟩, h3.setCell (p := ⟨w.heap.size, q, none⟩) (Nat.le_refl _) _⟩
  case done =>
    rintro D ys W hD rfl ⟨h1, _, hB⟩ hK
    rw [dgs_all] at h1
    have hst : (convert 55 9 (.slice (some ⟨w.heap.size, 0, none⟩) 8 8)).run Tryz.prog W = .ok (.string ⟨(digitsL m).toArray⟩) W :=
      run_convert_bytes_back (P := Tryz.prog) W 55 9 5 ⟨w.heap.size, 0, none⟩ 8 (digitsL m) Tryz.underlying55 Tryz.underlying5 Tryz.underlying9 (fun j hj => by
        rw [Go.WideShapes.add_plain, Nat.zero_add, h1.cell]
        simp [byteVals, hj])
    have hN : (⟨#[115, 101, 103, 45]⟩ : ByteArray) ++ ⟨(digitsL m).toArray⟩ = nameB m := by
      apply WideShapes.bytes_inj
      rw [ByteArray.data_append]
      simp [nameB]
    have HN := Lib.hid hN
    clear hN
    have hdl : (digitsL m).length ≤ 8 := by simp [digitsL]
    generalize digitsL m = ds at *
    gi_wp2
    refine ⟨by simp, .inl ⟨_, _, rfl, run_takeDeferred hK, ?_⟩⟩
    refine ⟨_, results_tmp rfl _ _ _, ?_, hB.trans (belowK_b (w := w) (Nat.le_refl _) W D _ _ (by simp at hD; omega) hK rfl rfl)⟩
    rw [← HN.out]
    rfl
end Go.Proofs.YtoaegleieacokaaGreat
