/- sheet.Bytes, the reference's Bytes. -/
import Derived.Test.YtoaegleieacokaaGreatSheetIs
import Derived.Test.YtoaegleieacokaaGreatTailInM
import Derived.Deep.RegionHeld3
namespace Go.Proofs.YtoaegleieacokaaGreat
open Go.RowKit Go.Shelf
attribute [local go_sem] Oper.semAt_some

def bodyOf (n : Nat) (pre : List Int) : List UInt8 := putL n ++ pre.flatMap fun x => putL x.toNat
theorem bodyOf_snoc (n : Nat) (pre : List Int) (x : Int) : bodyOf n (pre ++ [x]) = bodyOf n pre ++ putL x.toNat := by simp [bodyOf]
def bodyL (l : List Int) : List UInt8 := bodyOf l.length l
/-- A sheet's bytes. -/
def bytesL (l : List Int) : List UInt8 := fixedL (crcMore 0 ⟨(bodyL l).toArray⟩) ++ bodyL l
theorem isFrom_mem : ∀ (l : List Int) (last : Int), 0 ≤ last → isFrom last l = true → ∀ x ∈ l, 1 ≤ x ∧ x ≤ 99999999
  | [], _, _, _, x, hx => by simp at hx
  | y :: l, last, h0, h, x, hx => by
    rw [isFrom] at h
    by_cases hy : y ≤ last ∨ 99999999 < y
    · rw [if_pos hy] at h; cases h
    · rw [if_neg hy] at h
      rcases List.mem_cons.1 hx with rfl | hx
      · omega
      · exact isFrom_mem l y (by omega) h x hx
structure IsSheet (l : List Int) : Prop where
  all : ∀ x ∈ l, 1 ≤ x ∧ x ≤ 99999999
  pos : 0 < l.length
  le : l.length ≤ 200
theorem isL_sheet {l : List Int} (h : isL l = true) : IsSheet l := by
  simp only [isL, Bool.and_eq_true, decide_eq_true_eq] at h
  exact ⟨isFrom_mem l 0 (by omega) h.1, h.2.1, h.2.2⟩
theorem putL_len {n : Nat} (h : n < 9223372036854775808) : (putL n).length ≤ 10 := by rw [putL, List.length_map]; exact septs_len 9 n (by omega)
theorem flat_len : ∀ (l : List Int), (∀ x ∈ l, x < 9223372036854775808) → (l.flatMap fun x => putL x.toNat).length ≤ 10 * l.length
  | [], _ => by simp
  | y :: l, h => by
    have h1 := flat_len l (fun x hx => h x (by simp [hx]))
    have h2 := putL_len (n := y.toNat) (by have := h y (by simp); omega)
    simp only [List.flatMap_cons, List.length_append, List.length_cons]
    omega
theorem bodyOf_len {n : Nat} (hn : n < 9223372036854775808) {l : List Int} (h : ∀ x ∈ l, x < 9223372036854775808) : (bodyOf n l).length ≤ 10 + 10 * l.length := by
  have h1 := flat_len l h
  have h2 := putL_len hn
  simp only [bodyOf, List.length_append]
  omega

set_option maxRecDepth 100000 in
set_option maxHeartbeats 2000000 in
theorem refbytes_calls (a : Option Addr) (c : Nat) (L : List Int) (hL : isL L = true) (w : World) (hs : Ints w w.heap.size (.slice a L.length c) L) :
    Calls Tryz.prog 42 #[.slice a L.length c] w fun e w' => e = .returned (.string ⟨(bytesL L).toArray⟩) ∧ Below w.heap.size w w' := by
  obtain ⟨hall, hpos, hle⟩ := isL_sheet hL
  go_enter Tryz.func42, Tryz.ntmps42
  go_wp2_with (go_at_call 70; refine (refput_calls L.length (by omega) (by omega) w).mono ?_; rintro e w1 ⟨rfl, hB1⟩)
  go_loopw [3, 4] (fun s i wr => ∃ k : Nat, k ≤ L.length ∧ i = .int .i64 k ∧ s = .string ⟨(bodyOf L.length (L.take k)).toArray⟩ ∧ Below w.heap.size w wr) (fun _ i _ => L.length - (intOf i).toNat)
  case atStart => exact ⟨0, Nat.zero_le _, rfl, by simp [bodyOf], hB1⟩
  case round =>
    obtain ⟨k, hk, rfl, rfl, hB⟩ := hrel
    have hbl := bodyOf_len (n := L.length) (by omega) (l := L.take k) (fun x hx => by have := hall x (List.mem_of_mem_take hx); omega)
    have hbl2 : (bodyOf L.length (L.take k)).length ≤ 2010 := by have := List.length_take_le k L; omega
    by_cases hlt : k < L.length
    · obtain ⟨b, off, rfl, hb, hcs⟩ := (hs.below hB (Nat.le_refl _)).cell (by omega)
      have d0 := hcs k hlt
      have hx := hall L[k] (List.getElem_mem hlt)
      have htk := bodyOf_snoc L.length (L.take k) L[k]
      rw [← List.take_succ_eq_append_getElem hlt] at htk
      have hpl := putL_len (n := L[k].toNat) (by omega)
      have HT := Lib.hid htk
      clear htk hcs hs
      generalize L[k] = x at *
      generalize bodyOf L.length (L.take k) = pre at *
      have hba := Lib.hid (ba_snoc pre (putL x.toNat))
      have hsz := hB.size
      go_wp2_with (go_at_call 70; refine (refput_calls x (by omega) (by omega) wr).mono ?_; rintro e w2 ⟨rfl, hB2⟩)
      go_roundw
      case rel => exact ⟨k + 1, by omega, by simp, by rw [HT.out, hba.out], hB.trans (hB2.mono hsz)⟩
      case measure => simp [intOf]; omega
    · obtain rfl : k = L.length := by omega
      rw [List.take_length] at hbl2 ⊢
      have hsz := hB.size
      have hbsz : (⟨(bodyOf L.length L).toArray⟩ : ByteArray).size ≤ 1099511627776 := by simp [ByteArray.size]; omega
      have hba := Lib.hid (ba_snoc (fixedL (crcMore 0 ⟨(bodyOf L.length L).toArray⟩)) (bodyOf L.length L))
      have hcm : crcMore 0 ⟨(bodyOf L.length L).toArray⟩ < 4294967296 := by unfold crcMore; omega
      have hfl : (fixedL (crcMore 0 ⟨(bodyOf L.length L).toArray⟩)).length = 4 := rfl
      go_wp2_with (first
        | (go_at_call 32; refine (refmore_calls 0 (by omega) ⟨(bodyOf L.length L).toArray⟩ hbsz wr).mono ?_; rintro e w2 ⟨rfl, hB2⟩)
        | (go_at_call 31; refine (reffixed_calls _ hcm w2).mono ?_; rintro e w3 ⟨rfl, hB3⟩))
      go_ret
      exact ⟨by rw [bytesL, bodyL, ← hba.out]; rfl, (hB.trans (hB2.mono hsz)).trans (hB3.mono (Nat.le_trans hsz hB2.size))⟩

set_option maxRecDepth 100000 in
set_option maxHeartbeats 4000000 in
theorem bytes_calls (a : Option Addr) (c : Nat) (L : List Int) (hreach : L.length ≤ 1000000) (w : World) (hs : Ints w w.heap.size (.slice a L.length c) L) :
    Calls Tryz.prog 54 #[.slice a L.length c] w fun e w' => e = .returned (.tuple #[.string (if isL L then ⟨(bytesL L).toArray⟩ else ⟨#[]⟩), .int .i64 (if isL L then 0 else 11)]) ∧ Below w.heap.size w w' := by
  have his : Calls Tryz.prog 40 #[.slice a L.length c] w fun e w' => e = .returned (.bool (isL L)) ∧ Below w.heap.size w w' := is_calls a c L hreach w hs
  refine (callsIn_wide (n := 4)).1 ?_
  refine callsIn_of_wp_marks Tryz.func54 rfl trivial ?_ rfl
  simp only [Tryz.ntmps54, List.size_toArray, List.length_cons, List.length_nil, Nat.reduceAdd, Nat.reduceSub, Array.replicate_succ, Array.replicate_zero, List.push_toArray, List.append_toArray, List.nil_append, List.cons_append]
  cases hL : isL L with
  | false =>
    rw [hL] at his
    gi_wp2_with (refine ⟨trivial, ?_⟩; gi_at_call 40; refine (callsIn_wide.2 his).mono ?_; rintro e w1 ⟨rfl, hB1⟩)
    exact ⟨_, results_tmp2 rfl _ _ _, rfl, hB1⟩
  | true =>
    rw [hL] at his
    obtain ⟨hall, hpos, hle⟩ := isL_sheet hL
    gi_wp2_with (refine ⟨trivial, ?_⟩; gi_at_call 40; refine (callsIn_wide.2 his).mono ?_; rintro e w1 ⟨rfl, hB1⟩)
    gi_wp2_with (first
      | (refine ⟨trivial, ?_⟩; gi_at_call 77; refine (callsIn_wide.2 (put_calls L.length (by omega) (by omega) w1)).mono ?_; rintro e w2 ⟨rfl, hB2⟩)
      | (refine ⟨trivial, ?_⟩; gi_at_call 69; refine (callsIn_wide.2 (ivalues_calls a L.length c _)).mono ?_; rintro e w' ⟨rfl, rfl⟩))
    have bS := Boxed.new w2 9 (.string ⟨(putL L.length).toArray⟩)
    have bV := Boxed.new (w2.alloc (.cells #[.string ⟨(putL L.length).toArray⟩] 9)) 32 (.slice a L.length c)
    simp only [World.size_alloc] at bV
    have hw2 : w.heap.size ≤ w2.heap.size := Nat.le_trans hB1.size hB2.size
    have hB0 : Below w.heap.size w ((w2.alloc (.cells #[.string ⟨(putL L.length).toArray⟩] 9)).alloc (.cells #[.slice a L.length c] 32)) := ((hB1.trans (hB2.mono hB1.size)).alloc hw2 _).alloc (by simp; omega) _
    obtain ⟨L', hL'⟩ : ∃ L' : List { x : Int // 1 ≤ x ∧ x ≤ 99999999 }, L'.map (fun x => x.1) = L := ⟨L.pmap Subtype.mk hall, by rw [List.map_pmap]; simp⟩
    have hlen' : L'.length = L.length := by rw [← hL', List.length_map]
    refine wpIn_rangeFunc_ownG_of_H (α := { x : Int // 1 ≤ x ∧ x ≤ 99999999 }) rfl (by omega) (gf := 80) (lb := #[.pointer (some ⟨w2.heap.size + 1, 0, none⟩)]) rfl trivial (enters_of Tryz.func80 (by kernel_rfl) rfl)
      (ivalues_stopsG (fun x => x.1) 3 (by omega) (w2.heap.size + 1) w.heap.size c a L' (by omega) _ (by simp) (by rw [hlen']; exact bV.cell) (by simp; omega) (by rw [hL']; exact hs.below hB0 (Nat.le_refl _)))
      belowK_t (belowK_b (by simp; omega)) (Below.refl _ _) (fun _ => rfl)
      (fun (pre : List { x : Int // 1 ≤ x ∧ x ≤ 99999999 }) W => Boxed W w2.heap.size 9 (.string ⟨(bodyOf L.length (pre.map fun x => x.1)).toArray⟩) ∧ Below w.heap.size w W)
      (fun _ _ _ => False)
      (OwnFrom.and (Own.from (boxed_own _ _ (fun (pre : List { x : Int // 1 ≤ x ∧ x ≤ 99999999 }) => .string ⟨(bodyOf L.length (pre.map fun x => x.1)).toArray⟩)) _) (ownFrom_below (Nat.le_refl _) (by simp; omega)))
      (fun _ _ _ _ _ hs _ _ => hs)
      ⟨by simp only [bodyOf, List.map_nil, List.flatMap_nil, List.append_nil]; exact bS.alloc _, hB0⟩
      (fun x => { tmps := #[.slice a L.length c, undef, .string ⟨#[]⟩, .int .i64 0, .pointer (some ⟨w2.heap.size, 0, none⟩), .int .i64 x.1, .slice a L.length c, .bool true, .bool false, .slice a L.length c, .int .i64 L.length, .string ⟨(putL L.length).toArray⟩, .slice a L.length c, .func (.func 80) #[] #[.pointer (some ⟨w2.heap.size + 1, 0, none⟩)], .int .i64 x.1, undef, undef, undef, undef, undef, undef, undef, undef, undef], defers := [] }) ?assign ?body ?done ?stop (fun W => Below.refl _ W)
    case assign =>
      intro l x W K hK
      gi_wp2
      exact hK
    case body =>
      rintro l pre ⟨x, hx1, hx2⟩ W ⟨h0, hB⟩ hlt
      have hsn := bodyOf_snoc L.length (pre.map fun x => x.1) x
      have hbl := bodyOf_len (n := L.length) (by omega) (l := pre.map fun x => x.1) (fun y hy => by obtain ⟨z, _, rfl⟩ := List.mem_map.1 hy; have := z.2; omega)
      rw [List.length_map] at hbl
      have HS := Lib.hid hsn
      have hpl := putL_len (n := x.toNat) (by omega)
      have hc0 := h0.cell
      have hf0 := h0.frozen
      clear hsn
      generalize bodyOf L.length (pre.map fun x => x.1) = S at *
      have hba := Lib.hid (ba_snoc S (putL x.toNat))
      gi_wp2
      refine wpIn_region_take 2 4 (fun W' => W'.cell? ⟨w2.heap.size, 0, none⟩ = some (.string ⟨S.toArray⟩)) (by kernel_rfl) (by kernel_rfl) (by kernel_rfl) (by kernel_rfl) (fun _ _ _ _ _ h => h) ?_
      simp only [List.take_succ_cons, List.take_zero, List.drop_succ_cons, List.drop_zero]
      have hcH := Lib.hid hc0
      clear hc0
      repeat
        refine Exists.intro ?_ (And.intro (And.intro (by rfl) ?_) ?_)
        rotate_left
        · intro W' hs'
          go_simp
          try with_reducible rfl
        simp only [Act.put, List.setIfInBounds_toArray, List.set_cons_zero, List.set_cons_succ]
      change wpTailS _ _ _ _ _ _ _ _ _
      refine And.intro hcH.out ?_
      have k1 : W.drew.cell? ⟨w2.heap.size, 0, none⟩ = some (.string ⟨S.toArray⟩) := hcH.out
      have hbd : Boxed W.drew w2.heap.size 9 (.string ⟨S.toArray⟩) := h0
      have hK0 : KeepsOthers W W.drew := KeepsOthers.drew W
      have hBd : Below w.heap.size w W.drew := hB.trans (Below.refl _ W).drew
      have hBW : Below w.heap.size W W.drew := (Below.refl _ W).drew
      clear h0 hf0
      generalize W.drew = w5 at *
      gi_wp2_with (refine ⟨trivial, ?_⟩; gi_at_call 77; refine (CallsIn.inRound l (callsIn_wide.2 (put_calls x (by omega) (by omega) w5))).mono ?_; rintro e w6 ⟨rfl, hB6⟩)
      have hbd6 : Boxed w6 w2.heap.size 9 (.string ⟨S.toArray⟩) := (hB6.block _ hbd.lt).trans hbd
      have k6 := hbd6.cell
      have f6 := hbd6.frozen
      change wpTailS _ _ _ _ _ _ _ _ _
      refine And.intro k6 ?_
      gi_wp2
      change wpTailS _ _ _ _ _ _ _ _ _
      refine And.intro k6 ?_
      gi_wp2
      change wpTailS _ _ _ _ _ _ _ _ _
      unfold wpTailS
      have hKK : KeepsOthers W w6 := hK0.trans (KeepsOthers.of_grownBy (row := none) ⟨hB6.os, hB6.tape, hB6.output, hB6.size, fun k hk _ => hB6.block k hk⟩ (fun j o e => by cases e))
      have hw5 : w.heap.size ≤ w5.heap.size := hBd.size
      refine ⟨(hKK.trans (KeepsOthers.setCell _ _ _)).from _, (hBW.trans (hB6.mono hw5)).setCell (p := ⟨w2.heap.size, 0, none⟩) hw2 _, ?_, (hBd.trans (hB6.mono hw5)).setCell (p := ⟨w2.heap.size, 0, none⟩) hw2 _⟩
      rw [List.map_append, List.map_cons, List.map_nil, HS.out, ← hba.out]
      exact hbd6.set _
    case done =>
      rintro D ys W hD rfl ⟨h0, hB⟩ hK
      have hc0 := h0.cell
      rw [hL'] at hc0
      have hbx := h0.lt
      rw [hL'] at h0
      have hbl := bodyOf_len (n := L.length) (by omega) (l := L) (fun y hy => by have := hall y hy; omega)
      have hbsz : (⟨(bodyOf L.length L).toArray⟩ : ByteArray).size ≤ 1099511627776 := by simp [ByteArray.size]; omega
      have hcm : crcMore 0 ⟨(bodyOf L.length L).toArray⟩ < 4294967296 := by unfold crcMore; omega
      have hfl : (fixedL (crcMore 0 ⟨(bodyOf L.length L).toArray⟩)).length = 4 := rfl
      have hba := Lib.hid (ba_snoc (fixedL (crcMore 0 ⟨(bodyOf L.length L).toArray⟩)) (bodyOf L.length L))
      have hno : ¬ 9223372036854775807 < 4 + (bodyOf L.length L).length := by omega
      gi_wp2
      refine wpIn_wide.2 ?_
      go_region_held3 (fun w' => w'.cell? ⟨w2.heap.size, 0, none⟩ = some (.string ⟨(bodyOf L.length L).toArray⟩) ∧ Bx (Below W.heap.size W w'))
        (first | exact ⟨hc0, ⟨(Below.refl _ W).drew⟩⟩ | exact ⟨kept_cell (w := W.drew) hB5 ⟨(Below.refl _ W).drew⟩ (Nat.le_refl _) hbx hc0, kept_below (w := W.drew) hB5 ⟨(Below.refl _ W).drew⟩ (Nat.le_refl _)⟩ | exact ⟨(hB6.cell (p := ⟨w2.heap.size, 0, none⟩) (Nat.lt_of_lt_of_le hbx (kept_below (w := W.drew) hB5 ⟨(Below.refl _ W).drew⟩ (Nat.le_refl _)).h.size)).trans (kept_cell (w := W.drew) hB5 ⟨(Below.refl _ W).drew⟩ (Nat.le_refl _) hbx hc0), ⟨(kept_below (w := W.drew) hB5 ⟨(Below.refl _ W).drew⟩ (Nat.le_refl _)).h.trans (hB6.mono (kept_below (w := W.drew) hB5 ⟨(Below.refl _ W).drew⟩ (Nat.le_refl _)).h.size)⟩⟩ | go_keep)
        (first | (go_at_call 76; refine (of_crc_calls ⟨(bodyOf L.length L).toArray⟩ hbsz _).mono ?_; rintro e w5 ⟨rfl, hB5⟩) | (go_at_call 75; refine (fixed_calls _ hcm _).mono ?_; rintro e w6 ⟨rfl, hB6⟩))
      go_wp2
      rename_i hHeld
      have hB6' := hHeld.2.h
      gi_wp2
      have hK6 : w6.heap[D]? = some (.deferred (some [])) := (hB6'.block D (Array.getElem?_eq_some_iff.1 hK).1).trans hK
      refine ⟨by simp, .inl ⟨_, _, rfl, run_takeDeferred hK6, ?_⟩⟩
      exact ⟨_, results_tmp2 rfl _ _ _, by rw [bytesL, bodyL, ← hba.out]; rfl, (hB.trans (hB6'.mono hB.size)).trans (belowK_b (w := w) (Nat.le_refl _) w6 D _ _ (by simp at hD; omega) hK6 rfl rfl)⟩
    case stop =>
      rintro D c pre W _ _ h _
      exact h.elim
end Go.Proofs.YtoaegleieacokaaGreat
