/- string(make([]byte, n)): n zero bytes. code.septets, its iterator, code.Put. -/
import Derived.Test.YtoaegleieacokaaGreatDiskBaseM
import Derived.Test.YtoaegleieacokaaGreatProg
import Derived.OwnWalk
import Derived.Laws.IdiomStrings
import Derived.Test.YtoaegleieacokaaGreatStepIn
import Derived.Laws.BitsAllLaws
namespace Go.Proofs.YtoaegleieacokaaGreat
open Go.RowKit Go.Shelf

theorem infoU8 : (Tryz.prog.info? 5).map (fun i => (i.zero, i.size, i.bytes)) = some (some (.int .u8 0), 1, 1) := by kernel_rfl
def zerosB (n : Nat) : ByteArray := ⟨(List.replicate n (0 : UInt8)).toArray⟩
theorem zeros_str {w : World} {base g n : Nat} (h : w.ownsRow base 5 1 (.slice (some ⟨g, 0, none⟩) n n) n (madeCells (Value.int .u8 0).cells (n * 1)).toList) :
    (convert 55 9 (.slice (some ⟨g, 0, none⟩) n n)).run Tryz.prog w = .ok (.string (zerosB n)) w := by
  have hc : ∀ j (hj : j < (List.replicate n (0 : UInt8)).length), w.cell? ((⟨g, 0, none⟩ : Addr).add j) = some (.int .u8 ((List.replicate n (0 : UInt8))[j].toNat : Int)) := by
    intro j hj
    rw [Go.WideShapes.add_plain, Nat.zero_add]
    have h1 := World.ownsRow.cellAt (w := w) (base := base) (e := 5) (size := 1) (n := n) h j (by simpa using hj)
    rw [h1]
    have hj' : j < n := by simpa using hj
    rw [Array.getElem?_toList, Array.getElem?_eq_getElem (by rw [size_madeCells]; omega)]
    simp [madeCells, Value.cells, Nat.mod_one]
  have := run_convert_bytes_back (P := Tryz.prog) w 55 9 5 ⟨g, 0, none⟩ n (List.replicate n 0) Tryz.underlying55 Tryz.underlying5 Tryz.underlying9 hc
  rwa [List.length_replicate] at this
end Go.Proofs.YtoaegleieacokaaGreat
namespace Go.Proofs.YtoaegleieacokaaGreat
open Go.RowKit Go.Shelf
attribute [local go_sem] Oper.semAt_some

/-- A number's sevens of bits, the lowest first, and whether others follow. -/
def septs (n : Nat) : List (UInt8 × Bool) := if h : n < 128 then [(UInt8.ofNat n, false)] else (UInt8.ofNat (n % 128), true) :: septs (n / 128)
termination_by n
decreasing_by omega
theorem septs_small {n : Nat} (h : n < 128) : septs n = [(UInt8.ofNat n, false)] := by rw [septs, dif_pos h]
theorem septs_big {n : Nat} (h : ¬ n < 128) : septs n = (UInt8.ofNat (n % 128), true) :: septs (n / 128) := by rw [septs, dif_neg h]
theorem septs_ne (n : Nat) : septs n ≠ [] := by
  by_cases h : n < 128
  · rw [septs_small h]; simp
  · rw [septs_big h]; simp
theorem septs_len (k : Nat) : ∀ n, n < 128 ^ (k + 1) → (septs n).length ≤ k + 1 := by
  induction k with
  | zero => intro n h; rw [septs_small (by simpa using h)]; simp
  | succ k ih =>
    intro n h
    by_cases h1 : n < 128
    · rw [septs_small h1]; simp
    · rw [septs_big h1]
      have := ih (n / 128) (Nat.div_lt_of_lt_mul (by rw [Nat.pow_succ] at h; omega))
      simp
      omega
def sepB (x : UInt8 × Bool) : UInt8 := if x.2 then x.1 ||| 128 else x.1
def putL (n : Nat) : List UInt8 := (septs n).map sepB
def encSep (x : UInt8 × Bool) : Array Value := #[.int .u8 (x.1.toNat : Int), .bool x.2]

theorem septets_calls (m : Int) (w : World) :
    Calls Tryz.prog 86 #[.int .u64 m] w fun e w' => e = .returned (.func (.func 92) #[] #[.pointer (some ⟨w.heap.size, 0, none⟩)]) ∧ w.alloc (.cells #[.int .u64 m] 54) = w' := by
  go_enter Tryz.func86, Tryz.ntmps86
  go_wp2
  go_ret
  exact ⟨rfl, rfl⟩
theorem u8_toNat {n : Nat} (h : n < 256) : ((UInt8.ofNat n).toNat : Int) = (n : Int) := by
  rw [UInt8.toNat_ofNat']
  omega
theorem sept_hi (c : Nat) : ((UInt8.ofNat (c % 128)).toNat : Int) = bits .andNot .u8 ((c : Int) % 256) 128 := by
  rw [u8_toNat (by omega), u8_andNot _ _ (by omega) (by omega) (by omega) (by omega)]
  have e1 : ((c : Int) % 256).toNat = c % 256 := by omega
  rw [e1, show (255 - (128 : Int).toNat : Nat) = 2 ^ 7 - 1 from rfl, Nat.and_two_pow_sub_one_eq_mod]
  omega
/-- The number in a cell. -/
def natAt (W : World) (B : Nat) : Nat := match W.cell? ⟨B, 0, none⟩ with | some v => (intOf v).toNat | none => 0
theorem natAt_eq {W : World} {B : Nat} {k : IntKind} {c : Int} (h : W.cell? ⟨B, 0, none⟩ = some (.int k c)) : natAt W B = c.toNat := by simp [natAt, h, intOf]

set_option maxRecDepth 100000 in
set_option maxHeartbeats 2000000 in
theorem septets1_calls (n : Nat) (hn : 1 ≤ n) (l Bn m : Nat) (hm : m < 18446744073709551616) (J : List (UInt8 × Bool) → World → Prop) (hJc : ∀ s A u, J s A → J s (A.setCell ⟨Bn, 0, none⟩ u))
    (hY : ∀ pre x W1, J pre W1 → pre.length < (septs m).length → YieldAt Fence.wide (n - 1) Tryz.prog l (encSep x) W1 fun e W' => e = .returned (.bool true) ∧ J (pre ++ [x]) W' ∧ W'.heap[Bn]? = W1.heap[Bn]?)
    (W : World) (hb : Boxed W Bn 54 (.int .u64 m)) (h0 : J [] W) :
    CallsIn Fence.wide n Tryz.prog 92 #[.func (.yield l) #[] #[], .pointer (some ⟨Bn, 0, none⟩)] W fun e W' => (∃ v, e = .returned v) ∧ ∃ xs, xs = septs m ∧ J xs W' := by
  refine callsIn_of_wp Tryz.func92 rfl trivial ?_ rfl
  simp only [Tryz.ntmps92, List.size_toArray, List.length_cons, List.length_nil, Nat.reduceAdd, Nat.reduceSub, Array.replicate_succ, Array.replicate_zero, List.push_toArray, List.append_toArray, List.nil_append, List.cons_append]
  gi_wp2
  gi_loopw [] (fun wr => ∃ (pre : List (UInt8 × Bool)) (c : Nat), c < 18446744073709551616 ∧ septs m = pre ++ septs c ∧ Boxed wr Bn 54 (.int .u64 c) ∧ J pre wr) (fun wr => natAt wr Bn)
  case atStart => exact ⟨[], m, hm, rfl, hb, h0⟩
  case round =>
    obtain ⟨pre, c, hc, hs, hbr, hJ⟩ := hrel
    have hc0 := hbr.cell
    by_cases hlt : c < 128
    · rw [septs_small hlt] at hs
      obtain ⟨fn, tmps, assign, body, hy, hR⟩ := hY pre (UInt8.ofNat c, false) wr hJ (by rw [hs]; simp)
      unfold encSep at hy
      simp only [u8_toNat (show c < 256 by omega)] at hy
      gi_wp2
      refine hR.mono ?_
      rintro e W3 ⟨rfl, hJ3, _⟩
      gi_wp2
      go_end0
      exact ⟨⟨_, rfl⟩, _, hs.symm, hJ3⟩
    · rw [septs_big hlt] at hs
      obtain ⟨fn, tmps, assign, body, hy, hR⟩ := hY pre (UInt8.ofNat (c % 128), true) wr hJ (by rw [hs]; simp)
      unfold encSep at hy
      simp only [sept_hi] at hy
      gi_wp2
      refine hR.mono ?_
      rintro e W3 ⟨rfl, hJ3, hk3⟩
      have hb3 : Boxed W3 Bn 54 (.int .u64 c) := hk3.trans hbr
      have hc3 := hb3.cell
      have hf3 := hb3.frozen
      have hnx := hJc _ _ (.int .u64 (c / 128)) hJ3
      have hbn := hb3.set (.int .u64 ((c : Int) / 128))
      gi_wp2
      go_roundw
      case rel => exact ⟨_, c / 128, by omega, by rw [hs, List.append_assoc]; rfl, by rw [Int.natCast_ediv]; exact hbn, hnx⟩
      case measure => rw [natAt_eq hbn.cell, natAt_eq hc0]; omega

theorem septs_seq (n : Nat) (hn : 1 ≤ n) (Bn m : Nat) (hm : m < 18446744073709551616) (w : World) (hb : Boxed w Bn 54 (.int .u64 m)) :
    SeqOwn Fence.wide n Tryz.prog 92 #[.pointer (some ⟨Bn, 0, none⟩)] encSep Bn (fun xs => xs = septs m) (septs m).length w := fun l J W hW _ hJc hY h0 =>
  septets1_calls n hn l Bn m hm J hJc hY W ((hW.block Bn hb.lt).trans hb) h0

theorem sepB_or (x : UInt8) : ((x ||| 128).toNat : Int) = bits .or .u8 (x.toNat : Int) 128 := by
  have := x.toNat_lt
  rw [u8_or _ _ (by omega) (by omega) (by omega) (by omega)]
  simp
/-- A row of bytes. -/
def byteVals (l : List UInt8) : List Value := l.map fun b => .int .u8 (b.toNat : Int)
theorem byteVals_snoc (l : List UInt8) (b : UInt8) : byteVals (l ++ [b]) = byteVals l ++ [.int .u8 (b.toNat : Int)] := by simp [byteVals]
theorem bytes_str {w : World} {base g c : Nat} {l : List UInt8} (h : w.ownsRow base 5 1 (.slice (some ⟨g, 0, none⟩) l.length c) l.length (byteVals l)) :
    (convert 55 9 (.slice (some ⟨g, 0, none⟩) l.length c)).run Tryz.prog w = .ok (.string ⟨l.toArray⟩) w := by
  have hc : ∀ j (hj : j < l.length), w.cell? ((⟨g, 0, none⟩ : Addr).add j) = some (.int .u8 (l[j].toNat : Int)) := by
    intro j hj
    rw [Go.WideShapes.add_plain, Nat.zero_add]
    have h1 := World.ownsRow.cellAt (w := w) (base := base) (e := 5) (size := 1) (n := l.length) h j (by simpa using hj)
    rw [h1]
    simp [byteVals, hj]
  exact run_convert_bytes_back (P := Tryz.prog) w 55 9 5 ⟨g, 0, none⟩ c l Tryz.underlying55 Tryz.underlying5 Tryz.underlying9 hc

set_option maxRecDepth 100000 in
set_option maxHeartbeats 2000000 in
theorem put_calls (k : Int) (hk0 : -9223372036854775808 ≤ k) (hk1 : k < 9223372036854775808) (w : World) :
    Calls Tryz.prog 77 #[.int .i64 k] w fun e w' => e = .returned (.string ⟨(putL k.toNat).toArray⟩) ∧ Below w.heap.size w w' := by
  obtain ⟨i0, hi, hz0, hz1, hz2⟩ := info_parts infoU8
  obtain ⟨m, hm, hmk⟩ : ∃ m : Nat, max k 0 = (m : Int) ∧ k.toNat = m := ⟨k.toNat, by omega, rfl⟩
  rw [hmk]
  have hm64 : m < 18446744073709551616 := by omega
  have hlen := septs_len 9 m (by omega)
  refine (callsIn_wide (n := 4)).1 ?_
  refine callsIn_of_wp_marks Tryz.func77 rfl trivial ?_ rfl
  simp only [Tryz.ntmps77, List.size_toArray, List.length_cons, List.length_nil, Nat.reduceAdd, Nat.reduceSub, Array.replicate_succ, Array.replicate_zero, List.push_toArray, List.append_toArray, List.nil_append, List.cons_append]
  rcases Int.lt_or_le k 0 with hneg | hpos
  · obtain rfl : m = 0 := by omega
    gi_wp2_with (refine ⟨trivial, ?_⟩; gi_at_call 86; refine (callsIn_wide.2 (septets_calls _ _)).mono ?_; rintro e w' ⟨rfl, rfl⟩)
    have bO := Boxed.new w 55 (.slice none 0 0)
    have bN := Boxed.new (w.alloc (.cells #[.slice none 0 0] 55)) 54 (.int .u64 0)
    simp only [World.size_alloc] at bN
    have hB0 : Below w.heap.size w ((w.alloc (.cells #[.slice none 0 0] 55)).alloc (.cells #[.int .u64 0] 54)) := ((Below.refl _ w).alloc (Nat.le_refl _) _).alloc (by simp) _
    refine wpIn_rangeFunc_st (α := UInt8 × Bool) rfl (by omega) (gf := 92) (lb := #[.pointer (some ⟨w.heap.size + 1, 0, none⟩)]) rfl trivial (enters_of Tryz.func92 (by kernel_rfl) rfl)
      (septs_seq 3 (by omega) (w.heap.size + 1) 0 (by omega) _ bN) (Below.refl _ _) (by simp) (fun _ => rfl)
      (fun (pre : List (UInt8 × Bool)) W => (∃ v, Boxed W w.heap.size 55 v ∧ W.ownsRow w.heap.size 5 1 v pre.length (byteVals (pre.map sepB)) ∧ True) ∧ (∃ u, Boxed W (w.heap.size + 1) 54 u) ∧ Below w.heap.size w W)
      (OwnFrom.and (Own.from (holdsRow_own w.heap.size w.heap.size 55 5 1 (fun (pre : List (UInt8 × Bool)) => pre.length) (fun (pre : List (UInt8 × Bool)) => byteVals (pre.map sepB)) (fun _ _ => True)) _) (OwnFrom.and (Own.from (boxEx_own _ _) _) (ownFrom_below (Nat.le_refl _) (by simp; omega))))
      ?cell ⟨⟨_, bO.alloc _, World.ownsRow_nil _ _ _ _, trivial⟩, ⟨_, bN⟩, hB0⟩
      (fun x => { tmps := #[.int .i64 k, undef, .string ⟨#[]⟩, .pointer (some ⟨w.heap.size, 0, none⟩), .int .u8 (x.1.toNat : Int), .bool x.2, .int .i64 k, .int .i64 0, .int .u64 0, .func (.func 92) #[] #[.pointer (some ⟨w.heap.size + 1, 0, none⟩)], .int .u8 (x.1.toNat : Int), .bool x.2, undef, undef, undef, undef, undef, undef, undef, undef, undef], defers := [] }) ?assign ?body ?done
    case cell =>
      rintro s A u ⟨⟨v, h1, h2, _⟩, ⟨u0, h4⟩, h3⟩
      exact ⟨⟨v, h1.other (by omega) u, ownsRow_setCell_other h2 (h4.not_row (by decide) h2).symm u, trivial⟩, ⟨u, h4.set u⟩, h3.setCell (by simp) u⟩
    case assign =>
      intro l x W K hK
      unfold encSep
      gi_wp2
      exact hK
    case body =>
      rintro l pre ⟨b, on⟩ W ⟨⟨v, hv, hrow, _⟩, ⟨u0, h4⟩, hB⟩ hlt
      have hc := hv.cell
      cases on
      · gi_wp2_with (gi_at_builtin; refine wpListIn_append_own _ rfl _ _ 55 rfl w.heap.size 5 i0 _ 1 1 Tryz.underlying55 hi hz0 hz1 hz2 rfl (by decide) _ _ _ rfl (hrow.alloc _) ⟨W.heap.size, 0, none⟩ 1 1 [.int .u8 (b.toNat : Int)] rfl rfl (cell_one_new _ _ _) (by simp [Value.oneCell']) (by unfold maxLen; omega) (by omega) (by have := hB.size; simp; omega) ?_; intro v' w1 hown' hgrow _; obtain ⟨g', cap', rfl⟩ := ownsRow_succ hown'; obtain ⟨hv1, hv2, hr2, hk2, hb2⟩ := hv.appended (by decide) hrow hB.size (Nat.le_refl _) hown' hgrow; have hc1 := hv1.cell; have hf1 := hv1.frozen)
        have hoth := appended_other (B := w.heap.size) (v' := .slice (some ⟨g', 0, none⟩) (pre.length + 1) cap') h4 (by decide) (by omega) hrow hgrow
        refine ⟨hk2.from _, hoth, ⟨_, hv2, ?_, trivial⟩, ⟨u0, hoth.trans h4⟩, hB.trans hb2⟩
        rw [List.map_append, List.length_append]
        simp only [List.map_cons, List.map_nil]
        rw [byteVals_snoc]
        exact hr2
      · have hor := sepB_or b
        gi_wp2_with (gi_at_builtin; refine wpListIn_append_own _ rfl _ _ 55 rfl w.heap.size 5 i0 _ 1 1 Tryz.underlying55 hi hz0 hz1 hz2 rfl (by decide) _ _ _ rfl (hrow.alloc _) ⟨W.heap.size, 0, none⟩ 1 1 [.int .u8 (bits .or .u8 (b.toNat : Int) 128)] rfl rfl (cell_one_new _ _ _) (by simp [Value.oneCell']) (by unfold maxLen; omega) (by omega) (by have := hB.size; simp; omega) ?_; intro v' w1 hown' hgrow _; obtain ⟨g', cap', rfl⟩ := ownsRow_succ hown'; obtain ⟨hv1, hv2, hr2, hk2, hb2⟩ := hv.appended (by decide) hrow hB.size (Nat.le_refl _) hown' hgrow; have hc1 := hv1.cell; have hf1 := hv1.frozen)
        have hoth := appended_other (B := w.heap.size) (v' := .slice (some ⟨g', 0, none⟩) (pre.length + 1) cap') h4 (by decide) (by omega) hrow hgrow
        refine ⟨hk2.from _, hoth, ⟨_, hv2, ?_, trivial⟩, ⟨u0, hoth.trans h4⟩, hB.trans hb2⟩
        rw [List.map_append, List.length_append]
        simp only [List.map_cons, List.map_nil]
        rw [byteVals_snoc]
        rw [← hor] at hr2
        exact hr2
    case done =>
      rintro D ys W hD rfl ⟨⟨v, hv, hrow, _⟩, _, hB⟩ hK
      have hc := hv.cell
      obtain ⟨j, hj⟩ : ∃ j, (septs 0).length = j + 1 := by cases hs : septs 0 with | nil => exact absurd hs (septs_ne _) | cons x l => exact ⟨l.length, rfl⟩
      obtain ⟨g, cap, rfl⟩ := ownsRow_succ (by rw [hj] at hrow; exact hrow)
      have hlp : (putL 0).length = j + 1 := by rw [putL, List.length_map, hj]
      rw [hj, ← hlp, show (septs 0).map sepB = putL 0 from rfl] at hrow
      have hst := bytes_str hrow
      rw [hlp] at hst
      gi_wp2
      refine ⟨by simp, .inl ⟨_, _, rfl, run_takeDeferred hK, ?_⟩⟩
      exact ⟨_, results_tmp rfl _ _ _, rfl, hB.trans (belowK_b (w := w) (Nat.le_refl _) W D _ _ (by simp at hD; omega) hK rfl rfl)⟩
  · obtain rfl : k = (m : Int) := by omega
    gi_wp2_with (refine ⟨trivial, ?_⟩; gi_at_call 86; refine (callsIn_wide.2 (septets_calls _ _)).mono ?_; rintro e w' ⟨rfl, rfl⟩)
    have bO := Boxed.new w 55 (.slice none 0 0)
    have bN := Boxed.new (w.alloc (.cells #[.slice none 0 0] 55)) 54 (.int .u64 (m : Int))
    simp only [World.size_alloc] at bN
    have hB0 : Below w.heap.size w ((w.alloc (.cells #[.slice none 0 0] 55)).alloc (.cells #[.int .u64 (m : Int)] 54)) := ((Below.refl _ w).alloc (Nat.le_refl _) _).alloc (by simp) _
    refine wpIn_rangeFunc_st (α := UInt8 × Bool) rfl (by omega) (gf := 92) (lb := #[.pointer (some ⟨w.heap.size + 1, 0, none⟩)]) rfl trivial (enters_of Tryz.func92 (by kernel_rfl) rfl)
      (septs_seq 3 (by omega) (w.heap.size + 1) m (by omega) _ bN) (Below.refl _ _) (by simp) (fun _ => rfl)
      (fun (pre : List (UInt8 × Bool)) W => (∃ v, Boxed W w.heap.size 55 v ∧ W.ownsRow w.heap.size 5 1 v pre.length (byteVals (pre.map sepB)) ∧ True) ∧ (∃ u, Boxed W (w.heap.size + 1) 54 u) ∧ Below w.heap.size w W)
      (OwnFrom.and (Own.from (holdsRow_own w.heap.size w.heap.size 55 5 1 (fun (pre : List (UInt8 × Bool)) => pre.length) (fun (pre : List (UInt8 × Bool)) => byteVals (pre.map sepB)) (fun _ _ => True)) _) (OwnFrom.and (Own.from (boxEx_own _ _) _) (ownFrom_below (Nat.le_refl _) (by simp; omega))))
      ?cell ⟨⟨_, bO.alloc _, World.ownsRow_nil _ _ _ _, trivial⟩, ⟨_, bN⟩, hB0⟩
      (fun x => { tmps := #[.int .i64 (m : Int), undef, .string ⟨#[]⟩, .pointer (some ⟨w.heap.size, 0, none⟩), .int .u8 (x.1.toNat : Int), .bool x.2, .int .i64 (m : Int), .int .i64 (m : Int), .int .u64 (m : Int), .func (.func 92) #[] #[.pointer (some ⟨w.heap.size + 1, 0, none⟩)], .int .u8 (x.1.toNat : Int), .bool x.2, undef, undef, undef, undef, undef, undef, undef, undef, undef], defers := [] }) ?assign ?body ?done
    case cell =>
      rintro s A u ⟨⟨v, h1, h2, _⟩, ⟨u0, h4⟩, h3⟩
      exact ⟨⟨v, h1.other (by omega) u, ownsRow_setCell_other h2 (h4.not_row (by decide) h2).symm u, trivial⟩, ⟨u, h4.set u⟩, h3.setCell (by simp) u⟩
    case assign =>
      intro l x W K hK
      unfold encSep
      gi_wp2
      exact hK
    case body =>
      rintro l pre ⟨b, on⟩ W ⟨⟨v, hv, hrow, _⟩, ⟨u0, h4⟩, hB⟩ hlt
      have hc := hv.cell
      cases on
      · gi_wp2_with (gi_at_builtin; refine wpListIn_append_own _ rfl _ _ 55 rfl w.heap.size 5 i0 _ 1 1 Tryz.underlying55 hi hz0 hz1 hz2 rfl (by decide) _ _ _ rfl (hrow.alloc _) ⟨W.heap.size, 0, none⟩ 1 1 [.int .u8 (b.toNat : Int)] rfl rfl (cell_one_new _ _ _) (by simp [Value.oneCell']) (by unfold maxLen; omega) (by omega) (by have := hB.size; simp; omega) ?_; intro v' w1 hown' hgrow _; obtain ⟨g', cap', rfl⟩ := ownsRow_succ hown'; obtain ⟨hv1, hv2, hr2, hk2, hb2⟩ := hv.appended (by decide) hrow hB.size (Nat.le_refl _) hown' hgrow; have hc1 := hv1.cell; have hf1 := hv1.frozen)
        have hoth := appended_other (B := w.heap.size) (v' := .slice (some ⟨g', 0, none⟩) (pre.length + 1) cap') h4 (by decide) (by omega) hrow hgrow
        refine ⟨hk2.from _, hoth, ⟨_, hv2, ?_, trivial⟩, ⟨u0, hoth.trans h4⟩, hB.trans hb2⟩
        rw [List.map_append, List.length_append]
        simp only [List.map_cons, List.map_nil]
        rw [byteVals_snoc]
        exact hr2
      · have hor := sepB_or b
        gi_wp2_with (gi_at_builtin; refine wpListIn_append_own _ rfl _ _ 55 rfl w.heap.size 5 i0 _ 1 1 Tryz.underlying55 hi hz0 hz1 hz2 rfl (by decide) _ _ _ rfl (hrow.alloc _) ⟨W.heap.size, 0, none⟩ 1 1 [.int .u8 (bits .or .u8 (b.toNat : Int) 128)] rfl rfl (cell_one_new _ _ _) (by simp [Value.oneCell']) (by unfold maxLen; omega) (by omega) (by have := hB.size; simp; omega) ?_; intro v' w1 hown' hgrow _; obtain ⟨g', cap', rfl⟩ := ownsRow_succ hown'; obtain ⟨hv1, hv2, hr2, hk2, hb2⟩ := hv.appended (by decide) hrow hB.size (Nat.le_refl _) hown' hgrow; have hc1 := hv1.cell; have hf1 := hv1.frozen)
        have hoth := appended_other (B := w.heap.size) (v' := .slice (some ⟨g', 0, none⟩) (pre.length + 1) cap') h4 (by decide) (by omega) hrow hgrow
        refine ⟨hk2.from _, hoth, ⟨_, hv2, ?_, trivial⟩, ⟨u0, hoth.trans h4⟩, hB.trans hb2⟩
        rw [List.map_append, List.length_append]
        simp only [List.map_cons, List.map_nil]
        rw [byteVals_snoc]
        rw [← hor] at hr2
        exact hr2
    case done =>
      rintro D ys W hD rfl ⟨⟨v, hv, hrow, _⟩, _, hB⟩ hK
      have hc := hv.cell
      obtain ⟨j, hj⟩ : ∃ j, (septs m).length = j + 1 := by cases hs : septs m with | nil => exact absurd hs (septs_ne _) | cons x l => exact ⟨l.length, rfl⟩
      obtain ⟨g, cap, rfl⟩ := ownsRow_succ (by rw [hj] at hrow; exact hrow)
      have hlp : (putL m).length = j + 1 := by rw [putL, List.length_map, hj]
      rw [hj, ← hlp, show (septs m).map sepB = putL m from rfl] at hrow
      have hst := bytes_str hrow
      rw [hlp] at hst
      gi_wp2
      refine ⟨by simp, .inl ⟨_, _, rfl, run_takeDeferred hK, ?_⟩⟩
      exact ⟨_, results_tmp rfl _ _ _, rfl, hB.trans (belowK_b (w := w) (Nat.le_refl _) W D _ _ (by simp at hD; omega) hK rfl rfl)⟩
end Go.Proofs.YtoaegleieacokaaGreat
