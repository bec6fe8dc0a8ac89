/- SheetSizes: the walk. -/
import Derived.Test.YtoaegleieacokaaBytesIn
import Derived.StillTailTactics
namespace Go.Proofs.Ytoaegleieacokaa
open Go.RowKit Go.Shelf

def szL (f : Int) (k : Nat) : List Int := (List.range k).map fun (i : Nat) => f + 1 + 2 * (i : Int)
theorem szL_len (f : Int) (k : Nat) : (szL f k).length = k := by simp [szL]
theorem szL_succ (f : Int) (k : Nat) : szL f (k + 1) = szL f k ++ [f + 1 + 2 * (k : Int)] := by simp [szL, List.range_succ]
theorem szL_at (f : Int) (k i : Nat) (h : i < (szL f k).length) : (szL f k)[i] = f + 1 + 2 * (i : Int) := by simp [szL]
theorem isFrom_sz (f : Int) : ∀ (k s : Nat) (last : Int), last < f + 1 + 2 * (s : Int) → f + 1 + 2 * ((s + k : Nat) : Int) ≤ 99999999 → isFrom last ((List.range' s k).map fun (i : Nat) => f + 1 + 2 * (i : Int)) = true
  | 0, _, _, _, _ => rfl
  | k + 1, s, last, h, hm => by
    rw [List.range'_succ, List.map_cons, isFrom, if_neg (by omega)]
    exact isFrom_sz f k (s + 1) _ (by omega) (by omega)
theorem isL_sz {f : Int} (h0 : 0 ≤ f) (h1 : f ≤ 65535) {k : Nat} (hk0 : 0 < k) (hk : k ≤ 300) : isL (szL f k) = decide (k ≤ 200) := by
  have := isFrom_sz f k 0 0 (by omega) (by omega)
  rw [← List.range_eq_range'] at this
  unfold isL
  rw [szL_len, show isFrom 0 (szL f k) = true from this]
  simp [hk0]
theorem isFrom_rise : ∀ (l : List Int) (last : Int), isFrom last l = true → ∀ i (h : i + 1 < l.length), l[i] < l[i + 1]
  | [], _, _, i, h => by simp at h
  | [_], _, _, i, h => by simp at h
  | x :: y :: l, last, hf, i, h => by
    rw [isFrom] at hf
    by_cases hx : x ≤ last ∨ 99999999 < x
    · rw [if_pos hx] at hf; cases hf
    · rw [if_neg hx] at hf
      match i with
      | 0 =>
        rw [isFrom] at hf
        by_cases hy : y ≤ x ∨ 99999999 < y
        · rw [if_pos hy] at hf; cases hf
        · simp only [List.getElem_cons_zero, List.getElem_cons_succ]; omega
      | i + 1 =>
        have := isFrom_rise (y :: l) x hf i (by simpa using h)
        simpa using this
def szS (f : Int) (k i : Nat) : List Int := ((szL f k).set i (f + 1 + 2 * ((i + 1 : Nat) : Int))).set (i + 1) (f + 1 + 2 * (i : Int))
theorem szS_len (f : Int) (k i : Nat) : (szS f k i).length = k := by simp [szS, szL]
theorem isL_szS (f : Int) (k i : Nat) (h : i + 1 < k) : isL (szS f k i) = false := by
  cases hh : isFrom 0 (szS f k i) with
  | false => rw [isL, hh, Bool.false_and]
  | true =>
    have := isFrom_rise _ 0 hh i (by rw [szS_len]; exact h)
    simp [szS, szL] at this
    omega
theorem bytes_at (a : Option Addr) (n c : Nat) (L : List Int) (hn : L.length = n) (hreach : n ≤ 1000000) (w : World) (hs : Rd w w.heap.size 1 (.slice a n c) n (L.map (Value.int .i64))) :
    Calls Try.prog 18 #[.slice a n c] w fun e w' => e = .returned (.tuple #[.string (if isL L then ⟨(bytesL L).toArray⟩ else ⟨#[]⟩), .int .i64 (if isL L then 0 else 11)]) ∧ Below w.heap.size w w' := by
  subst hn
  exact bytes_calls a c L hreach w hs
theorem is_at (a : Option Addr) (n c : Nat) (L : List Int) (hn : L.length = n) (hreach : n ≤ 1000000) (w : World) (hs : Rd w w.heap.size 1 (.slice a n c) n (L.map (Value.int .i64))) :
    Calls Try.prog 19 #[.slice a n c] w fun e w' => e = .returned (.bool (isL L)) ∧ Below w.heap.size w w' := by
  subst hn
  exact is_calls a c L hreach w hs
theorem read_at (n : Nat) (l : List Int) (hn : l.length = n) (hl : isL l = true) (w : World) : Calls Try.prog 30 #[.string ⟨(bytesL l).toArray⟩] w fun e w' => ∃ v, e = .returned (.tuple #[v, .int .i64 0]) ∧ w'.ownsRow w.heap.size 3 1 v n (l.map (Value.int .i64)) ∧ Below w.heap.size w w' := by
  subst hn
  exact read_ok l hl w
set_option maxRecDepth 100000 in
set_option maxHeartbeats 1000000 in
theorem walk_SheetSizes {W : World} (a0 : Int) (w0 : (Lit.int .u8 a0).wf = true) (a1 : Int) (w1 : (Lit.int .u8 a1).wf = true) (a2 : Int) (w2 : (Lit.int .u16 a2).wf = true) :
    Calls Try.prog 5 #[.int .u8 a0, .int .u8 a1, .int .u16 a2] W fun e w' => e = .returned (.bool true) ∧ Below W.heap.size W w' := by
  obtain ⟨i0, hi, hz0, hz1, hz2⟩ := info_parts infoInt
  obtain ⟨x0, y0⟩ := wf_u8 w0
  obtain ⟨x1, y1⟩ := wf_u8 w1
  obtain ⟨x2, y2⟩ := wf_u16 w2
  go_enter Try.func5, Try.ntmps5
  go_wp2_with fail
  refine (known9_calls W).mono ?_
  rintro e W1 ⟨rfl, hB1⟩
  obtain ⟨K, hK, hK1, hK2⟩ : ∃ K : Nat, 199 + a0 % 3 = (K : Int) ∧ 199 ≤ K ∧ K ≤ 201 := ⟨(199 + a0 % 3).toNat, by omega, by omega, by omega⟩
  go_wp2_with fail
  go_loopw [8, 9] (fun o i wr => ∃ k : Nat, k ≤ K ∧ i = .int .i64 k ∧ wr.ownsRow W1.heap.size 3 1 o k ((szL a2 k).map (Value.int .i64)) ∧ Below W1.heap.size W1 wr) (fun _ i _ => K - (intOf i).toNat)
  case atStart => exact ⟨0, Nat.zero_le _, rfl, World.ownsRow_nil _ _ _ _, Below.refl _ _⟩
  case round =>
    obtain ⟨k, hk, rfl, hown, hB⟩ := hrel
    have hsz := hB.size
    by_cases hlt : k < K
    · have hsn := szL_succ a2 k
      have HS := Lib.hid hsn
      clear hsn
      go_wp2_with (at_builtin; refine wpList_append_own _ rfl _ _ 22 rfl W1.heap.size 3 i0 _ 1 8 Try.underlying22 hi hz0 hz1 hz2 rfl (by decide) _ _ _ rfl (hown.alloc _) ⟨wr.heap.size, 0, none⟩ 1 1 [.int .i64 (a2 + 1 + 2 * (k : Int))] rfl rfl (cell_one_new _ _ _) (by simp [Value.oneCell']) (by unfold maxLen; omega) (by omega) (by simp; omega) ?_; intro v' w5 hown' hgrow _)
      go_roundw
      case rel => exact ⟨k + 1, by omega, by simp, by rw [HS.out, List.map_append]; exact hown', below_append hB hsz hown hgrow⟩
      case measure => simp [intOf]; omega
    · obtain rfl : K = k := by omega
      have hil := isL_sz x2 (by omega) (k := K) (by omega) (by omega)
      have hsl := szL_len a2 K
      obtain ⟨m, hm⟩ : ∃ m, K = m + 1 := ⟨K - 1, by omega⟩
      obtain ⟨g, c, rfl⟩ : ∃ g c, u8 = .slice (some ⟨g, 0, none⟩) K c := by subst hm; exact ownsRow_succ hown
      clear hm
      have hR := Rd.of_owns hown
      have hbc := bytes_at _ _ _ _ hsl (by omega) wr hR
      by_cases hgt : 200 < K
      · rw [decide_eq_false (by omega)] at hil
        rw [hil, if_neg (by simp), if_neg (by simp)] at hbc
        have hcs := fun W' (hb : Below wr.heap.size wr W') => is_at _ _ _ _ hsl (by omega) W' ((hR.below hb (Nat.le_refl _)).up hb.size)
        rw [hil] at hcs
        go_wp2_with fail
        refine hbc.mono ?_
        rintro x w2 ⟨rfl, hB2⟩
        go_wp2_with fail
        refine (hcs w2 hB2).mono ?_
        rintro x w3 ⟨rfl, hB3⟩
        go_wp2
        go_ret
        exact ⟨rfl, hB1.trans ((hB.trans ((hB2.trans (hB3.mono hB2.size)).mono hsz)).mono hB1.size)⟩
      · rw [decide_eq_true (by omega)] at hil
        rw [hil, if_pos rfl, if_pos rfl] at hbc
        have hrd := read_at K _ hsl hil
        generalize (⟨(bytesL (szL a2 K)).toArray⟩ : ByteArray) = S at *
        obtain ⟨q, hq, hqt⟩ : ∃ q : Nat, q + 1 < K ∧ a1.tmod ((K : Int) - 1) = (q : Int) := by
          have h0 : (0 : Int) < (K : Int) - 1 := by omega
          have h1 := Int.emod_nonneg a1 (Int.ne_of_gt h0)
          have h2 := Int.emod_lt_of_pos a1 h0
          rw [Int.tmod_eq_emod_of_nonneg x1]
          exact ⟨(a1 % ((K : Int) - 1)).toNat, by omega, by omega⟩
        go_wp2_with fail
        refine hbc.mono ?_
        clear hbc
        rintro x w2 ⟨rfl, hB2⟩
        go_wp2_with fail
        refine (hrd w2).mono ?_
        clear hrd
        rintro x w3 ⟨v3, rfl, ho3, hB3⟩
        replace hB3 := hB2.trans (hB3.mono hB2.size)
        have r3 := Rd.of_owns ho3
        obtain ⟨a3, c3, rfl⟩ := Rd.val r3
        replace hown := owns_below hown hB3
        clear ho3 hB2
        have hc0 := hown.cellAt q (by omega)
        have hc1 := hown.cellAt (q + 1) (by omega)
        have hf0 := hown.frozenAt q
        have hf1 := hown.frozenAt (q + 1)
        have e0 : ((szL a2 K).map (Value.int .i64))[q]? = some (.int .i64 (a2 + 1 + 2 * (q : Int))) := by simp [szL, show q < K by omega]
        have e1 : ((szL a2 K).map (Value.int .i64))[q + 1]? = some (.int .i64 (a2 + 1 + 2 * ((q + 1 : Nat) : Int))) := by simp [szL, hq]
        rw [e0] at hc0
        rw [e1] at hc1
        clear e0 e1
        generalize hX : a2 + 1 + 2 * (q : Int) = X at *
        generalize hY : a2 + 1 + 2 * ((q + 1 : Nat) : Int) = Y at *
        have hqK : (q : Int) < (K : Int) := by omega
        have hq1 : (q : Int) + 1 < (K : Int) := by omega
        have hq0 : (0 : Int) ≤ (q : Int) + 1 := by omega
        have hqn : ((q : Int) + 1).toNat = q + 1 := by omega
        have hqw : IntKind.i64.wrap ((q : Int) + 1) = (q : Int) + 1 := IntWalk.i64_in _ (by omega)
        go_wp2
        go_region
        clear hqw
        have hst0 := (hown.stored q (.int .i64 Y)).1
        have hst1 := (hst0.stored (q + 1) (.int .i64 X)).1
        have hgW : W1.heap.size ≤ g := by
          have := (hown.lt g rfl).1
          exact this
        have hB6 : Below W1.heap.size W1 ((w3.setCell ⟨g, q, none⟩ (.int .i64 Y)).setCell ⟨g, q + 1, none⟩ (.int .i64 X)) := ((hB.trans (hB3.mono hsz)).setCell (p := ⟨g, q, none⟩) hgW _).setCell (p := ⟨g, q + 1, none⟩) hgW _
        have hms : (((szL a2 K).map (Value.int .i64)).set q (.int .i64 Y)).set (q + 1) (.int .i64 X) = (szS a2 K q).map (Value.int .i64) := by
          unfold szS
          rw [List.map_set, List.map_set, hX, hY]
        rw [hms] at hst1
        have hbc2 := bytes_at _ _ _ _ (szS_len a2 K q) (by omega) _ (Rd.of_owns hst1.drew)
        rw [isL_szS a2 K q hq, if_neg (by simp), if_neg (by simp)] at hbc2
        have hB6d := hB6.drew
        clear hst0 hst1 hms hX hY hown hR r3
        go_wp2_with fail
        generalize (w3.setCell ⟨g, q, none⟩ (.int .i64 Y)).setCell ⟨g, q + 1, none⟩ (.int .i64 X) = w6 at *
        refine hbc2.mono ?_
        clear hbc2 hc0 hc1 hf0 hf1 hq0 hqn
        rintro x w7 ⟨rfl, hB7⟩
        replace hB7 := hB6d.trans (hB7.mono hB6d.size)
        clear hB6 hB6d
        have h0 : isL [0] = false := by decide
        have h99 : isL [99999999] = true := by decide
        have h100 : isL [100000000] = false := by decide
        have i8 := lit_ints w7 3 [0]
        have hB8 : Below w7.heap.size w7 (w7.alloc (.cells ([0].map (Value.int .i64)).toArray 3)) := (Below.refl _ w7).alloc (Nat.le_refl _) _
        have his8 := is_calls _ _ [0] (by simp) _ i8
        rw [h0] at his8
        simp only [List.map_cons, List.map_nil, List.length_cons, List.length_nil] at his8 hB8
        go_wp2_with fail
        refine his8.mono ?_
        clear his8 i8
        rintro x w8b ⟨rfl, hBn⟩
        replace hB8 := hB8.trans (hBn.mono hB8.size)
        clear hBn
        have i9 := lit_ints w8b 3 [99999999]
        have hB9 : Below w8b.heap.size w8b (w8b.alloc (.cells ([99999999].map (Value.int .i64)).toArray 3)) := (Below.refl _ w8b).alloc (Nat.le_refl _) _
        have his9 := is_calls _ _ [99999999] (by simp) _ i9
        rw [h99] at his9
        simp only [List.map_cons, List.map_nil, List.length_cons, List.length_nil] at his9 hB9
        go_wp2_with fail
        refine his9.mono ?_
        clear his9 i9
        rintro x w9b ⟨rfl, hBn⟩
        replace hB9 := hB9.trans (hBn.mono hB9.size)
        clear hBn
        have i10 := lit_ints w9b 3 [100000000]
        have hB10 : Below w9b.heap.size w9b (w9b.alloc (.cells ([100000000].map (Value.int .i64)).toArray 3)) := (Below.refl _ w9b).alloc (Nat.le_refl _) _
        have his10 := is_calls _ _ [100000000] (by simp) _ i10
        rw [h100] at his10
        simp only [List.map_cons, List.map_nil, List.length_cons, List.length_nil] at his10 hB10
        go_wp2_with fail
        refine his10.mono ?_
        clear his10 i10
        rintro x w10b ⟨rfl, hBn⟩
        replace hB10 := hB10.trans (hBn.mono hB10.size)
        clear hBn
        go_wp2
        go_ret
        exact ⟨rfl, hB1.trans ((hB7.trans ((hB8.trans ((hB9.trans (hB10.mono hB9.size)).mono hB8.size)).mono hB7.size)).mono hB1.size)⟩
end Go.Proofs.Ytoaegleieacokaa
