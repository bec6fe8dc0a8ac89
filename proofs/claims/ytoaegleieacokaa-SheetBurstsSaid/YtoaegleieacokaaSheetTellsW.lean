/- SheetTells: the walk. -/
import Derived.Test.YtoaegleieacokaaBytesIn
import Derived.StillTailTactics
namespace Go.Proofs.Ytoaegleieacokaa
open Go.RowKit Go.Shelf

theorem bytesL_ge {l : List Int} (h : isL l = true) : 6 ≤ (bytesL l).length := by
  have hp := (isL_sheet h).pos
  rw [bytesL, List.length_append, fixedL_len, bodyL, bodyOf, List.length_append]
  have h1 := putL_pos l.length
  match l, hp with
  | x :: m, _ =>
    have h2 := putL_pos x.toNat
    simp only [List.flatMap_cons, List.length_append]
    omega
set_option maxRecDepth 100000 in
set_option maxHeartbeats 1000000 in
theorem walk_SheetTells {W : World} (a0 : Option Addr) (c0 : Nat) (l0 : List Int) (r0 : Rd W W.heap.size 1 (.slice a0 l0.length c0) l0.length (l0.map (Value.int .i64))) (_ : c0 ≤ maxLen) (_ : ∀ x ∈ l0, (Lit.int .i64 x).wf = true)
    (a1 : ByteArray) (w1 : a1.size ≤ maxLen) (a2 : Int) (w2 : (Lit.int .u16 a2).wf = true) (a3 : Int) (w3 : (Lit.int .u8 a3).wf = true) :
    Calls Try.prog 3 #[.slice a0 l0.length c0, .string a1, .int .u16 a2, .int .u8 a3] W fun e w' => e = .returned (.bool true) ∧ Below W.heap.size W w' := by
  obtain ⟨l1, rfl⟩ := ba_ofList a1
  obtain ⟨x2, y2⟩ := wf_u16 w2
  obtain ⟨x3, rfl⟩ := u8_of w3
  have hI : Ints W W.heap.size (.slice a0 l0.length c0) l0 := r0
  have hsz1 := ba_size l1
  go_enter Try.func3, Try.ntmps3
  go_wp2_with fail
  refine (known9_calls W).mono ?_
  rintro e W1 ⟨rfl, hB1⟩
  by_cases hlen : 250 < l0.length
  · go_wp2
    go_ret
    exact ⟨rfl, hB1⟩
  by_cases hlen2 : 400 < l1.length
  · go_wp2
    go_ret
    exact ⟨rfl, hB1⟩
  replace hI := (hI.below hB1 (Nat.le_refl _)).up hB1.size
  have hbc := bytes_calls a0 c0 l0 (by omega) W1 hI
  have hic : ∀ W', Below W1.heap.size W1 W' → Calls Try.prog 19 #[.slice a0 l0.length c0] W' fun e w' => e = .returned (.bool (isL l0)) ∧ Below W'.heap.size W' w' := fun W' hb => is_calls a0 c0 l0 (by omega) W' ((hI.below hb (Nat.le_refl _)).up hb.size)
  have hri : ∀ W', Below W1.heap.size W1 W' → Calls Try.prog 20 #[.slice a0 l0.length c0] W' fun e w' => e = .returned (.bool (isL l0)) ∧ Below W'.heap.size W' w' := fun W' hb => refis_calls a0 c0 l0 (by omega) W' ((hI.below hb (Nat.le_refl _)).up hb.size)
  have hrs : ∀ W', Calls Try.prog 22 #[.string ⟨l1.toArray⟩] W' fun e w' => e = .returned (.bool true) ∧ Below W'.heap.size W' w' := fun W' => reads_calls l1 (by omega) W'
  have hrem : 6 ≤ l0.length → True := fun _ => trivial
  clear hrem
  cases hL : isL l0 with
  | false =>
    simp only [hL, Bool.false_eq_true, if_false] at hbc hic hri
    go_wp2_with fail
    refine hbc.mono ?_
    clear hbc
    rintro x W2 ⟨rfl, hB2⟩
    go_wp2_with fail
    refine (hic W2 hB2).mono ?_
    clear hic
    rintro x W3 ⟨rfl, hB3⟩
    replace hB3 := hB2.trans (hB3.mono hB2.size)
    go_wp2_with fail
    refine (hri W3 hB3).mono ?_
    rintro x W4 ⟨rfl, hB4⟩
    replace hB4 := hB3.trans (hB4.mono hB3.size)
    go_wp2_with fail
    refine (hri W4 hB4).mono ?_
    clear hri
    rintro x W5 ⟨rfl, hB5⟩
    replace hB5 := hB4.trans (hB5.mono hB4.size)
    go_wp2_with fail
    refine (hrs W5).mono ?_
    rintro x W6 ⟨rfl, hB6⟩
    go_wp2
    go_ret
    exact ⟨rfl, hB1.trans ((hB5.trans (hB6.mono hB5.size)).mono hB1.size)⟩
  | true =>
    simp only [hL, if_true] at hbc hic hri
    have hrb := fun W' (hb : Below W1.heap.size W1 W') => refbytes_calls a0 c0 l0 hL W' ((hI.below hb (Nat.le_refl _)).up hb.size)
    have hle := bytesL_len (isL_sheet hL)
    have hge := bytesL_ge hL
    have hbsz := ba_size (bytesL l0)
    clear hI
    generalize bytesL l0 = S at *
    obtain ⟨k, hk, hkt⟩ : ∃ k : Nat, k < S.length ∧ a2.tmod (S.length : Int) = (k : Int) := by
      have h0 : (0 : Int) < (S.length : Int) := by omega
      have h1 := Int.emod_nonneg a2 (Int.ne_of_gt h0)
      have h2 := Int.emod_lt_of_pos a2 h0
      rw [Int.tmod_eq_emod_of_nonneg x2]
      exact ⟨(a2 % (S.length : Int)).toNat, by omega, by omega⟩
    go_wp2_with fail
    refine hbc.mono ?_
    clear hbc
    rintro x W2 ⟨rfl, hB2⟩
    go_wp2_with fail
    refine (hic W2 hB2).mono ?_
    clear hic
    rintro x W3 ⟨rfl, hB3⟩
    replace hB3 := hB2.trans (hB3.mono hB2.size)
    go_wp2_with fail
    refine (hri W3 hB3).mono ?_
    rintro x W4 ⟨rfl, hB4⟩
    replace hB4 := hB3.trans (hB4.mono hB3.size)
    go_wp2_with fail
    refine (hri W4 hB4).mono ?_
    clear hri
    rintro x W5 ⟨rfl, hB5⟩
    replace hB5 := hB4.trans (hB5.mono hB4.size)
    obtain ⟨W6, cap, hcv, hB6, hat⟩ := new_bytes W5 S
    have hT : W1.heap.size ≤ W5.heap.size := hB5.size
    replace hB6 := hB5.trans (hB6.mono hB5.size)
    clear hB2 hB3 hB4 hB5
    go_wp2_with fail
    refine (hrb W6 hB6).mono ?_
    clear hrb hcv
    rintro x W7 ⟨rfl, hB7⟩
    replace hat := hat.below hB7 hat.lt
    replace hB7 := hB6.trans (hB7.mono hB6.size)
    clear hB6
    generalize W5.heap.size = B at *
    obtain ⟨y, hy⟩ : ∃ y : UInt8, y = S[k] ^^^ x3 := ⟨_, rfl⟩
    have hx1 := xor8 S[k] x3
    rw [← hy] at hx1
    have hx := Lib.hid hx1
    clear hy hx1
    have hat' := hat.drew
    have hB8 : Below W1.heap.size W1 W7.drew := hB7.drew
    have hc := hat'.cell k hk
    have hf := hat'.free k hk
    go_wp2
    refine wp_region_still_tail 17 (by kernel_rfl) (by kernel_rfl) ?_
    change wpStill Try.prog _ W7.drew (fun a' => wpList Try.prog _ _ _ a' W7.drew) _ _
    generalize W7.drew = W8 at *
    simp only [List.take_succ_cons, List.take_zero, List.drop_succ_cons, List.drop_zero]
    have hS0 : ¬ S = [] := by intro e; rw [e] at hge; simp at hge
    have hwa : IntKind.i64.wrap a2 = a2 := IntWalk.i64_in _ (by omega)
    repeat still_step
    refine wpStill_nil ?_
    clear hc hf
    have hcc := hat'.cell k hk
    have hff := hat'.free k hk
    rw [hx.out]
    have hat2 := hat'.set k hk y
    have hB9 : Below W1.heap.size W1 (W8.setCell ⟨B, k, none⟩ (.int .u8 (y.toNat : Int))) := hB8.setCell (p := ⟨B, k, none⟩) hT _
    have hbk := back_bytes hat2 cap
    rw [List.length_set] at hbk
    have hl2 : (S.set k y).length ≤ 1000000 := by rw [List.length_set]; omega
    generalize S.set k y = S2 at *
    have hr1 := reads_calls S2 hl2
    have hr2 := reads_calls (S ++ l1) (by rw [List.length_append]; omega)
    rw [← ba_snoc] at hr2
    have hr3 := reads_calls (S.take k) (by rw [List.length_take]; omega)
    rw [← ba_take] at hr3
    go_wp2_with fail
    generalize W8.setCell ⟨B, k, none⟩ (.int .u8 (y.toNat : Int)) = W9 at *
    go_wp2_with fail
    refine (hr1 W9).mono ?_
    clear hr1
    rintro x W10 ⟨rfl, hB10⟩
    replace hB10 := hB9.trans (hB10.mono hB9.size)
    go_wp2_with fail
    refine (hr2 W10).mono ?_
    clear hr2
    rintro x W11 ⟨rfl, hB11⟩
    replace hB11 := hB10.trans (hB11.mono hB10.size)
    go_wp2_with fail
    refine (hr3 W11).mono ?_
    clear hr3
    rintro x W12 ⟨rfl, hB12⟩
    replace hB12 := hB11.trans (hB12.mono hB11.size)
    go_wp2_with fail
    refine (hrs W12).mono ?_
    rintro x W13 ⟨rfl, hB13⟩
    go_wp2
    go_ret
    exact ⟨rfl, hB1.trans ((hB12.trans (hB13.mono hB12.size)).mono hB1.size)⟩
end Go.Proofs.Ytoaegleieacokaa
