/- ladelaw22's image: on. -/
import Derived.Test.YtoaegleieacokaaGreatImgPut
import Derived.Test.YtoaegleieacokaaGreatSheetBytes
import Derived.Test.YtoaegleieacokaaGreatHeadB
import Derived.Test.YtoaegleieacokaaGreatEarly
namespace Go.Proofs.YtoaegleieacokaaGreat
open Go.RowKit Go.Shelf

theorem fileL_cells {w : World} {a : Option Addr} {c m : Nat} {l : List (ByteArray × F)} (hm : l.length = m) (rd : Rd w w.heap.size 3 (.slice a m c) m (filesCells l)) (k : Nat) (p : ByteArray × F) (hp : l[k]? = some p) : ∃ b off, a = some ⟨b, off, none⟩ ∧ b < w.heap.size ∧
    w.cell? ⟨b, off + k * 3, none⟩ = some (.string p.1) ∧ w.cell? ⟨b, off + k * 3 + 1, none⟩ = some (.string p.2.b) ∧ w.cell? ⟨b, off + k * 3 + 2, none⟩ = some (.int .i64 p.2.k) := by
  subst hm
  obtain ⟨hk, rfl⟩ := List.getElem?_eq_some_iff.1 hp
  obtain ⟨b, off, rfl, hb, hcp, hcs⟩ := rd.at (by omega)
  refine ⟨b, off, rfl, hb, ?_, ?_, ?_⟩
  · have := hcs (k * 3 + 0) (by omega)
    rw [filesCells_get l k 0 hk (by omega)] at this
    exact this
  · have := hcs (k * 3 + 1) (by omega)
    rw [filesCells_get l k 1 hk (by omega), ← Nat.add_assoc] at this
    exact this
  · have := hcs (k * 3 + 2) (by omega)
    rw [filesCells_get l k 2 hk (by omega), ← Nat.add_assoc] at this
    exact this
theorem byV_at : ∀ (a : Nat) (cs : List ByteArray) (i : Nat) (h : i < cs.length), (byV a cs)[i]? = some (.string (headB (a + i) ++ cs[i]))
  | a, c :: cs, 0, _ => rfl
  | a, c :: cs, i + 1, h => by
    rw [byV, List.getElem?_cons_succ, byV_at (a + 1) cs i (by simpa using h), List.getElem_cons_succ, show a + 1 + i = a + (i + 1) from by omega]
section
variable {n I gi gb : Nat} {lim : Int} {a : Nat} {cs : List ByteArray} {c : ByteArray} {w W : World} {D M : Nat} {s : DS}
set_option maxRecDepth 100000 in
set_option maxHeartbeats 20000000 in
theorem on_im {kp : Int} (ha : 1 ≤ a) (hb : a + cs.length + 2 ≤ 99999999) (h200 : cs.length + 1 ≤ 200) (hf : files s.l = segF a (cs ++ [c]) kp ++ [sheetF a (cs.length + 1)]) (hlen : s.l.length ≤ 1000000) (h : Im n I gi gb lim a cs c w) (hd : Dk n W D M s w) :
    Calls Tryz.prog 19 #[.pointer (some ⟨I, 0, none⟩), .pointer (some ⟨D, 0, none⟩)] w fun e w' => e = .returned (.bool true) ∧ Below w.heap.size w w' := by
  have hall := all_dk hf hlen hd
  have hL : (segF a (cs ++ [c]) kp ++ [sheetF a (cs.length + 1)]).length = cs.length + 2 := by simp [segF_len]
  have hat : ∀ k (hk : k < cs.length + 1), (segF a (cs ++ [c]) kp ++ [sheetF a (cs.length + 1)])[k]? = some (nameB (a + k), ⟨headB (a + k) ++ (cs ++ [c])[k]'(by simp; omega), if k + 1 < cs.length + 1 then 16 + (((cs ++ [c])[k]'(by simp; omega)).size : Int) else kp⟩) := by
    intro k hk
    rw [List.getElem?_append_left (by rw [segF_len]; simp; omega), List.getElem?_eq_getElem (by rw [segF_len]; simp; omega), segF_at _ _ _ _ _ (by simp; omega)]
    simp
  have hatS : (segF a (cs ++ [c]) kp ++ [sheetF a (cs.length + 1)])[cs.length + 1]? = some (sheetF a (cs.length + 1)) := by
    rw [List.getElem?_append_right (by rw [segF_len]; simp)]
    simp [segF_len]
  generalize segF a (cs ++ [c]) kp ++ [sheetF a (cs.length + 1)] = L at *
  rw [hL] at hall
  go_enter Tryz.func19, Tryz.ntmps19
  go_wp2_with fail
  refine hall.mono ?_
  clear hall
  rintro e w1 ⟨v, rfl, hown, hd1, hB1⟩
  obtain ⟨aL, cL, rfl⟩ := Rd.val (Rd.of_owns hown)
  have hRL := Rd.of_owns hown
  have h1 := h.next hB1
  obtain ⟨oi, ki, ob, kb, r1, r2, r3⟩ := h1.rows
  have q0 : w1.cell? ⟨I, 0, none⟩ = some (.slice (some ⟨gi, oi, none⟩) (cs.length + 1) ki) := r1.cell 0
  have hz2 : ((cs.length : Int) + 2 == 0) = false := by simp; omega
  have hn2 : (cs.length : Int) + 1 + 1 = (cs.length : Int) + 2 := by omega
  have hI1 := r1.lt
  have hgi := r2.lt
  have hgb := r3.lt
  go_wp2_with fail
  go_loopw [6] (fun i wr => ∃ k : Nat, k ≤ cs.length + 1 ∧ i = .int .i64 k ∧ Below w1.heap.size w1 wr) (fun i _ => cs.length + 1 - (intOf i).toNat)
  case atStart => exact ⟨0, Nat.zero_le _, rfl, Below.refl _ _⟩
  case round =>
    obtain ⟨k, hk, rfl, hB⟩ := hrel
    have p0 : wr.cell? ⟨I, 0, none⟩ = some (.slice (some ⟨gi, oi, none⟩) (cs.length + 1) ki) := (r1.below hB hI1).cell 0
    have p1 : wr.cell? ⟨I, 1, none⟩ = some (.slice (some ⟨gb, ob, none⟩) (cs.length + 1) kb) := (r1.below hB hI1).cell 1
    by_cases hkl : k < cs.length + 1
    · have p2 := (r2.below hB hgi).cell (idV_at a (cs.length + 1) k hkl)
      have p3 := (r3.below hB hgb).cell (byV_at a (cs ++ [c]) k (by simp; omega))
      obtain ⟨bL, oL, rfl, hbL, p4, p5, p6⟩ := fileL_cells hL ((hRL.below hB (Nat.le_refl _)).up hB.size) k _ (hat k hkl)
      simp only at p4 p5 p6
      have hkq : k + 1 < cs.length + 1 → (if k + 1 < cs.length + 1 then 16 + (((cs ++ [c])[k]'(by simp; omega)).size : Int) else kp) = ((headB (a + k) ++ (cs ++ [c])[k]'(by simp; omega)).size : Int) := fun hh => by
        rw [if_pos hh, app_size, headB_size]
        omega
      have hnm := fun w' => rname_calls (((a + k : Nat) : Int)) w'
      rw [idN_nat (by omega) (by omega)] at hnm
      generalize (if k + 1 < cs.length + 1 then 16 + (((cs ++ [c])[k]'(by simp; omega)).size : Int) else kp) = kq at *
      generalize headB (a + k) ++ (cs ++ [c])[k]'(by simp; omega) = S at *
      generalize nameB (a + k) = nm at *
      generalize ((a + k : Nat) : Int) = v at *
      have lI := Nat.lt_of_lt_of_le hI1 hB.size
      have lgi := Nat.lt_of_lt_of_le hgi hB.size
      have lgb := Nat.lt_of_lt_of_le hgb hB.size
      have hBr := Below.refl wr.heap.size wr
      have hw1 : IntKind.i64.wrap ((cs.length : Int) + 1 - 1) = (cs.length : Int) := by rw [IntKind.wrap_i64]; omega
      have z0 : (0 : Int) ≤ (k : Int) := by omega
      have z1 : (k : Int) < (cs.length : Int) + 1 := by omega
      have z2 : (k : Int) < (cs.length : Int) + 2 := by omega
      clear hat hatS hRL hown r1 r2 r3 q0 h1 h hd1
      by_cases hlast : k < cs.length
      · have hkS := hkq (by omega)
        subst hkS
        have dK : decide ((k : Int) < (cs.length : Int)) = true := decide_eq_true (by omega)
        have dK2 : decide (k < cs.length) = true := decide_eq_true hlast
        have hw2 : IntKind.i64.wrap (cs.length : Int) = (cs.length : Int) := by rw [IntKind.wrap_i64]; omega
        clear hkq
        go_wp2_with fail
        go_region_held3 (fun w' => w'.cell? ⟨I, 0, none⟩ = some (.slice (some ⟨gi, oi, none⟩) (cs.length + 1) ki) ∧ w'.cell? ⟨I, 1, none⟩ = some (.slice (some ⟨gb, ob, none⟩) (cs.length + 1) kb) ∧ w'.cell? ⟨gi, oi + k, none⟩ = some (.int .i64 v) ∧ w'.cell? ⟨gb, ob + k, none⟩ = some (.string S) ∧ w'.cell? ⟨bL, oL + k * 3, none⟩ = some (.string nm) ∧ w'.cell? ⟨bL, oL + k * 3 + 1, none⟩ = some (.string S) ∧ w'.cell? ⟨bL, oL + k * 3 + 2, none⟩ = some (.int .i64 (S.size : Int)) ∧ Bx (Below wr.heap.size wr w'))
          (first | exact ⟨p0, p1, p2, p3, p4, p5, p6, ⟨hBr.drew⟩⟩ | exact ⟨kept_cell (w := wr.drew) hB5 ⟨hBr.drew⟩ (Nat.le_refl _) lI p0, kept_cell (w := wr.drew) hB5 ⟨hBr.drew⟩ (Nat.le_refl _) lI p1, kept_cell (w := wr.drew) hB5 ⟨hBr.drew⟩ (Nat.le_refl _) lgi p2, kept_cell (w := wr.drew) hB5 ⟨hBr.drew⟩ (Nat.le_refl _) lgb p3, kept_cell (w := wr.drew) hB5 ⟨hBr.drew⟩ (Nat.le_refl _) hbL p4, kept_cell (w := wr.drew) hB5 ⟨hBr.drew⟩ (Nat.le_refl _) hbL p5, kept_cell (w := wr.drew) hB5 ⟨hBr.drew⟩ (Nat.le_refl _) hbL p6, kept_below (w := wr.drew) hB5 ⟨hBr.drew⟩ (Nat.le_refl _)⟩ | go_keep)
          (first | (go_at_call 24; refine (hnm _).mono ?_; rintro e w5 ⟨rfl, hB5⟩))
        go_wp2_with fail
        go_roundw
        case rel => exact ⟨k + 1, by omega, by simp, hB.trans ((kept_below (w := wr.drew) hB5 ⟨hBr.drew⟩ (Nat.le_refl _)).h.mono hB.size)⟩
        case measure => simp [intOf]; omega
      · obtain rfl : k = cs.length := by omega
        have hw2 : IntKind.i64.wrap (cs.length : Int) = (cs.length : Int) := by rw [IntKind.wrap_i64]; omega
        clear hkq
        go_wp2_with fail
        refine wp_region_held_drew (S := (fun w' => w'.cell? ⟨I, 0, none⟩ = some (.slice (some ⟨gi, oi, none⟩) (cs.length + 1) ki) ∧ w'.cell? ⟨I, 1, none⟩ = some (.slice (some ⟨gb, ob, none⟩) (cs.length + 1) kb) ∧ w'.cell? ⟨gi, oi + cs.length, none⟩ = some (.int .i64 v) ∧ w'.cell? ⟨gb, ob + cs.length, none⟩ = some (.string S) ∧ w'.cell? ⟨bL, oL + cs.length * 3, none⟩ = some (.string nm) ∧ w'.cell? ⟨bL, oL + cs.length * 3 + 1, none⟩ = some (.string S) ∧ w'.cell? ⟨bL, oL + cs.length * 3 + 2, none⟩ = some (.int .i64 kq) ∧ Bx (Below wr.heap.size wr w'))) (by kernel_rfl) ?_ (fun hHeld => ?_)
        · exact ⟨p0, p1, p2, p3, p4, p5, p6, ⟨hBr.drew⟩⟩
        refine takeH 0 33 (v := ?_) rfl rfl (by kernel_rfl) (by kernel_rfl) (by kernel_rfl) (fun _ _ _ h => h) (by rfl) ?_ (by assumption) ?_
        rotate_left
        · intro w hSw; obtain ⟨s0, s1, s2, s3, s4, s5, s6, _⟩ := hSw; go_simp; (try with_reducible rfl)
        try simp only [Act.put, List.setIfInBounds_toArray, List.set_cons_zero, List.set_cons_succ]
        refine takeH 1 34 (v := ?_) rfl rfl (by kernel_rfl) (by kernel_rfl) (by kernel_rfl) (fun _ _ _ h => h) (by rfl) ?_ (by assumption) ?_
        rotate_left
        · intro w hSw; obtain ⟨s0, s1, s2, s3, s4, s5, s6, _⟩ := hSw; go_simp; (try with_reducible rfl)
        try simp only [Act.put, List.setIfInBounds_toArray, List.set_cons_zero, List.set_cons_succ]
        refine takeH 2 35 (v := ?_) rfl rfl (by kernel_rfl) (by kernel_rfl) (by kernel_rfl) (fun _ _ _ h => h) (by rfl) ?_ (by assumption) ?_
        rotate_left
        · intro w hSw; obtain ⟨s0, s1, s2, s3, s4, s5, s6, _⟩ := hSw; go_simp; (try with_reducible rfl)
        try simp only [Act.put, List.setIfInBounds_toArray, List.set_cons_zero, List.set_cons_succ]
        refine takeH 3 36 (v := ?_) rfl rfl (by kernel_rfl) (by kernel_rfl) (by kernel_rfl) (fun _ _ _ h => h) (by rfl) ?_ (by assumption) ?_
        rotate_left
        · intro w hSw; obtain ⟨s0, s1, s2, s3, s4, s5, s6, _⟩ := hSw; go_simp; (try with_reducible rfl)
        try simp only [Act.put, List.setIfInBounds_toArray, List.set_cons_zero, List.set_cons_succ]
        refine takeH 4 37 (v := ?_) rfl rfl (by kernel_rfl) (by kernel_rfl) (by kernel_rfl) (fun _ _ _ h => h) (by rfl) ?_ (by assumption) ?_
        rotate_left
        · intro w hSw; obtain ⟨s0, s1, s2, s3, s4, s5, s6, _⟩ := hSw; go_simp; (try with_reducible rfl)
        try simp only [Act.put, List.setIfInBounds_toArray, List.set_cons_zero, List.set_cons_succ]
        refine takeH 5 38 (v := ?_) rfl rfl (by kernel_rfl) (by kernel_rfl) (by kernel_rfl) (fun _ _ _ h => h) (by rfl) ?_ (by assumption) ?_
        rotate_left
        · intro w hSw; obtain ⟨s0, s1, s2, s3, s4, s5, s6, _⟩ := hSw; go_simp; (try with_reducible rfl)
        try simp only [Act.put, List.setIfInBounds_toArray, List.set_cons_zero, List.set_cons_succ]
        refine takeH 6 39 (v := ?_) rfl rfl (by kernel_rfl) (by kernel_rfl) (by kernel_rfl) (fun _ _ _ h => h) (by rfl) ?_ (by assumption) ?_
        rotate_left
        · intro w hSw; obtain ⟨s0, s1, s2, s3, s4, s5, s6, _⟩ := hSw; go_simp; (try with_reducible rfl)
        try simp only [Act.put, List.setIfInBounds_toArray, List.set_cons_zero, List.set_cons_succ]
        refine takeH 7 40 (v := ?_) rfl rfl (by kernel_rfl) (by kernel_rfl) (by kernel_rfl) (fun _ _ _ h => h) (by rfl) ?_ (by assumption) ?_
        rotate_left
        · intro w hSw; obtain ⟨s0, s1, s2, s3, s4, s5, s6, _⟩ := hSw; go_simp; (try with_reducible rfl)
        try simp only [Act.put, List.setIfInBounds_toArray, List.set_cons_zero, List.set_cons_succ]
        refine takeH 8 41 (v := ?_) rfl rfl (by kernel_rfl) (by kernel_rfl) (by kernel_rfl) (fun _ _ _ h => h) (by rfl) ?_ (by assumption) ?_
        rotate_left
        · intro w hSw; obtain ⟨s0, s1, s2, s3, s4, s5, s6, _⟩ := hSw; go_simp; (try with_reducible rfl)
        try simp only [Act.put, List.setIfInBounds_toArray, List.set_cons_zero, List.set_cons_succ]
        refine takeH 9 42 (v := ?_) rfl rfl (by kernel_rfl) (by kernel_rfl) (by kernel_rfl) (fun _ _ _ h => h) (by rfl) ?_ (by assumption) ?_
        rotate_left
        · intro w hSw; obtain ⟨s0, s1, s2, s3, s4, s5, s6, _⟩ := hSw; go_simp; (try with_reducible rfl)
        try simp only [Act.put, List.setIfInBounds_toArray, List.set_cons_zero, List.set_cons_succ]
        refine takeH 10 43 (v := ?_) rfl rfl (by kernel_rfl) (by kernel_rfl) (by kernel_rfl) (fun _ _ _ h => h) (by rfl) ?_ (by assumption) ?_
        rotate_left
        · intro w hSw; obtain ⟨s0, s1, s2, s3, s4, s5, s6, _⟩ := hSw; go_simp; (try with_reducible rfl)
        try simp only [Act.put, List.setIfInBounds_toArray, List.set_cons_zero, List.set_cons_succ]
        refine takeH 11 44 (v := ?_) rfl rfl (by kernel_rfl) (by kernel_rfl) (by kernel_rfl) (fun _ _ _ h => h) (by rfl) ?_ (by assumption) ?_
        rotate_left
        · intro w hSw; obtain ⟨s0, s1, s2, s3, s4, s5, s6, _⟩ := hSw; go_simp; (try with_reducible rfl)
        try simp only [Act.put, List.setIfInBounds_toArray, List.set_cons_zero, List.set_cons_succ]
        refine wpAnyH_ready (rs := [12]) (by kernel_rfl) (by simp) ?_
        refine AllReadyH.cons rfl (fun K hK => ?_) AllReadyH.nil
        go_simp
        go_wp2_with (go_at_call 24; refine (hnm _).mono ?_; rintro e w5 ⟨rfl, hB5⟩)
        clear hHeld
        refine hK.out _ _ ?_ (fun hHeld => ?_)
        · exact ⟨kept_cell (w := wr.drew) hB5 ⟨hBr.drew⟩ (Nat.le_refl _) lI p0, kept_cell (w := wr.drew) hB5 ⟨hBr.drew⟩ (Nat.le_refl _) lI p1, kept_cell (w := wr.drew) hB5 ⟨hBr.drew⟩ (Nat.le_refl _) lgi p2, kept_cell (w := wr.drew) hB5 ⟨hBr.drew⟩ (Nat.le_refl _) lgb p3, kept_cell (w := wr.drew) hB5 ⟨hBr.drew⟩ (Nat.le_refl _) hbL p4, kept_cell (w := wr.drew) hB5 ⟨hBr.drew⟩ (Nat.le_refl _) hbL p5, kept_cell (w := wr.drew) hB5 ⟨hBr.drew⟩ (Nat.le_refl _) hbL p6, kept_below (w := wr.drew) hB5 ⟨hBr.drew⟩ (Nat.le_refl _)⟩
        clear hK K
        try simp only [Act.put, List.setIfInBounds_toArray, List.set_cons_zero, List.set_cons_succ]
        refine takeH 13 46 (v := ?_) rfl rfl (by kernel_rfl) (by kernel_rfl) (by kernel_rfl) (fun _ _ _ h => h) (by rfl) ?_ (by assumption) ?_
        rotate_left
        · intro w hSw; obtain ⟨s0, s1, s2, s3, s4, s5, s6, _⟩ := hSw; go_simp; (try with_reducible rfl)
        try simp only [Act.put, List.setIfInBounds_toArray, List.set_cons_zero, List.set_cons_succ]
        refine takeH 14 47 (v := ?_) rfl rfl (by kernel_rfl) (by kernel_rfl) (by kernel_rfl) (fun _ _ _ h => h) (by rfl) ?_ (by assumption) ?_
        rotate_left
        · intro w hSw; obtain ⟨s0, s1, s2, s3, s4, s5, s6, _⟩ := hSw; go_simp; (try with_reducible rfl)
        try simp only [Act.put, List.setIfInBounds_toArray, List.set_cons_zero, List.set_cons_succ]
        refine takeH 15 48 (v := ?_) rfl rfl (by kernel_rfl) (by kernel_rfl) (by kernel_rfl) (fun _ _ _ h => h) (by rfl) ?_ (by assumption) ?_
        rotate_left
        · intro w hSw; obtain ⟨s0, s1, s2, s3, s4, s5, s6, _⟩ := hSw; go_simp; (try with_reducible rfl)
        try simp only [Act.put, List.setIfInBounds_toArray, List.set_cons_zero, List.set_cons_succ]
        refine takeH 16 49 (v := ?_) rfl rfl (by kernel_rfl) (by kernel_rfl) (by kernel_rfl) (fun _ _ _ h => h) (by rfl) ?_ (by assumption) ?_
        rotate_left
        · intro w hSw; obtain ⟨s0, s1, s2, s3, s4, s5, s6, _⟩ := hSw; go_simp; (try with_reducible rfl)
        try simp only [Act.put, List.setIfInBounds_toArray, List.set_cons_zero, List.set_cons_succ]
        refine takeH 17 50 (v := ?_) rfl rfl (by kernel_rfl) (by kernel_rfl) (by kernel_rfl) (fun _ _ _ h => h) (by rfl) ?_ (by assumption) ?_
        rotate_left
        · intro w hSw; obtain ⟨s0, s1, s2, s3, s4, s5, s6, _⟩ := hSw; go_simp; (try with_reducible rfl)
        try simp only [Act.put, List.setIfInBounds_toArray, List.set_cons_zero, List.set_cons_succ]
        refine takeH 18 51 (v := ?_) rfl rfl (by kernel_rfl) (by kernel_rfl) (by kernel_rfl) (fun _ _ _ h => h) (by rfl) ?_ (by assumption) ?_
        rotate_left
        · intro w hSw; obtain ⟨s0, s1, s2, s3, s4, s5, s6, _⟩ := hSw; go_simp; (try with_reducible rfl)
        try simp only [Act.put, List.setIfInBounds_toArray, List.set_cons_zero, List.set_cons_succ]
        refine takeH 19 52 (v := ?_) rfl rfl (by kernel_rfl) (by kernel_rfl) (by kernel_rfl) (fun _ _ _ h => h) (by rfl) ?_ (by assumption) ?_
        rotate_left
        · intro w hSw; obtain ⟨s0, s1, s2, s3, s4, s5, s6, _⟩ := hSw; go_simp; (try with_reducible rfl)
        try simp only [Act.put, List.setIfInBounds_toArray, List.set_cons_zero, List.set_cons_succ]
        refine takeH 20 53 (v := ?_) rfl rfl (by kernel_rfl) (by kernel_rfl) (by kernel_rfl) (fun _ _ _ h => h) (by rfl) ?_ (by assumption) ?_
        rotate_left
        · intro w hSw; obtain ⟨s0, s1, s2, s3, s4, s5, s6, _⟩ := hSw; go_simp; (try with_reducible rfl)
        try simp only [Act.put, List.setIfInBounds_toArray, List.set_cons_zero, List.set_cons_succ]
        refine takeH 21 54 (v := ?_) rfl rfl (by kernel_rfl) (by kernel_rfl) (by kernel_rfl) (fun _ _ _ h => h) (by rfl) ?_ (by assumption) ?_
        rotate_left
        · intro w hSw; obtain ⟨s0, s1, s2, s3, s4, s5, s6, _⟩ := hSw; go_simp; (try with_reducible rfl)
        try simp only [Act.put, List.setIfInBounds_toArray, List.set_cons_zero, List.set_cons_succ]
        refine takeH 22 55 (v := ?_) rfl rfl (by kernel_rfl) (by kernel_rfl) (by kernel_rfl) (fun _ _ _ h => h) (by rfl) ?_ (by assumption) ?_
        rotate_left
        · intro w hSw; obtain ⟨s0, s1, s2, s3, s4, s5, s6, _⟩ := hSw; go_simp; (try with_reducible rfl)
        try simp only [Act.put, List.setIfInBounds_toArray, List.set_cons_zero, List.set_cons_succ]
        refine takeH 23 56 (v := ?_) rfl rfl (by kernel_rfl) (by kernel_rfl) (by kernel_rfl) (fun _ _ _ h => h) (by rfl) ?_ (by assumption) ?_
        rotate_left
        · intro w hSw; obtain ⟨s0, s1, s2, s3, s4, s5, s6, _⟩ := hSw; go_simp; (try with_reducible rfl)
        try simp only [Act.put, List.setIfInBounds_toArray, List.set_cons_zero, List.set_cons_succ]
        refine takeH 24 57 (v := ?_) rfl rfl (by kernel_rfl) (by kernel_rfl) (by kernel_rfl) (fun _ _ _ h => h) (by rfl) ?_ (by assumption) ?_
        rotate_left
        · intro w hSw; obtain ⟨s0, s1, s2, s3, s4, s5, s6, _⟩ := hSw; go_simp; (try with_reducible rfl)
        try simp only [Act.put, List.setIfInBounds_toArray, List.set_cons_zero, List.set_cons_succ]
        refine takeH 25 58 (v := ?_) rfl rfl (by kernel_rfl) (by kernel_rfl) (by kernel_rfl) (fun _ _ _ h => h) (by rfl) ?_ (by assumption) ?_
        rotate_left
        · intro w hSw; obtain ⟨s0, s1, s2, s3, s4, s5, s6, _⟩ := hSw; go_simp; (try with_reducible rfl)
        try simp only [Act.put, List.setIfInBounds_toArray, List.set_cons_zero, List.set_cons_succ]
        refine takeH 26 59 (v := ?_) rfl rfl (by kernel_rfl) (by kernel_rfl) (by kernel_rfl) (fun _ _ _ h => h) (by rfl) ?_ (by assumption) ?_
        rotate_left
        · intro w hSw; obtain ⟨s0, s1, s2, s3, s4, s5, s6, _⟩ := hSw; go_simp; (try with_reducible rfl)
        try simp only [Act.put, List.setIfInBounds_toArray, List.set_cons_zero, List.set_cons_succ]
        refine takeH 27 60 (v := ?_) rfl rfl (by kernel_rfl) (by kernel_rfl) (by kernel_rfl) (fun _ _ _ h => h) (by rfl) ?_ (by assumption) ?_
        rotate_left
        · intro w hSw; obtain ⟨s0, s1, s2, s3, s4, s5, s6, _⟩ := hSw; go_simp; (try with_reducible rfl)
        try simp only [Act.put, List.setIfInBounds_toArray, List.set_cons_zero, List.set_cons_succ]
        refine takeH 28 61 (v := ?_) rfl rfl (by kernel_rfl) (by kernel_rfl) (by kernel_rfl) (fun _ _ _ h => h) (by rfl) ?_ (by assumption) ?_
        rotate_left
        · intro w hSw; obtain ⟨s0, s1, s2, s3, s4, s5, s6, _⟩ := hSw; go_simp; (try with_reducible rfl)
        try simp only [Act.put, List.setIfInBounds_toArray, List.set_cons_zero, List.set_cons_succ]
        refine takeH 29 62 (v := ?_) rfl rfl (by kernel_rfl) (by kernel_rfl) (by kernel_rfl) (fun _ _ _ h => h) (by rfl) ?_ (by assumption) ?_
        rotate_left
        · intro w hSw; obtain ⟨s0, s1, s2, s3, s4, s5, s6, _⟩ := hSw; go_simp; (try with_reducible rfl)
        try simp only [Act.put, List.setIfInBounds_toArray, List.set_cons_zero, List.set_cons_succ]
        refine takeH 30 63 (v := ?_) rfl rfl (by kernel_rfl) (by kernel_rfl) (by kernel_rfl) (fun _ _ _ h => h) (by rfl) ?_ (by assumption) ?_
        rotate_left
        · intro w hSw; obtain ⟨s0, s1, s2, s3, s4, s5, s6, _⟩ := hSw; go_simp; (try with_reducible rfl)
        try simp only [Act.put, List.setIfInBounds_toArray, List.set_cons_zero, List.set_cons_succ]
        refine takeH 31 64 (v := ?_) rfl rfl (by kernel_rfl) (by kernel_rfl) (by kernel_rfl) (fun _ _ _ h => h) (by rfl) ?_ (by assumption) ?_
        rotate_left
        · intro w hSw; obtain ⟨s0, s1, s2, s3, s4, s5, s6, _⟩ := hSw; go_simp; (try with_reducible rfl)
        try simp only [Act.put, List.setIfInBounds_toArray, List.set_cons_zero, List.set_cons_succ]
        refine takeH 32 65 (v := ?_) rfl rfl (by kernel_rfl) (by kernel_rfl) (by kernel_rfl) (fun _ _ _ h => h) (by rfl) ?_ (by assumption) ?_
        rotate_left
        · intro w hSw; obtain ⟨s0, s1, s2, s3, s4, s5, s6, _⟩ := hSw; go_simp; (try with_reducible rfl)
        try simp only [Act.put, List.setIfInBounds_toArray, List.set_cons_zero, List.set_cons_succ]
        refine takeH 33 66 (v := ?_) rfl rfl (by kernel_rfl) (by kernel_rfl) (by kernel_rfl) (fun _ _ _ h => h) (by rfl) ?_ (by assumption) ?_
        rotate_left
        · intro w hSw; obtain ⟨s0, s1, s2, s3, s4, s5, s6, _⟩ := hSw; go_simp; (try with_reducible rfl)
        try simp only [Act.put, List.setIfInBounds_toArray, List.set_cons_zero, List.set_cons_succ]
        refine takeH 34 67 (v := ?_) rfl rfl (by kernel_rfl) (by kernel_rfl) (by kernel_rfl) (fun _ _ _ h => h) (by rfl) ?_ (by assumption) ?_
        rotate_left
        · intro w hSw; obtain ⟨s0, s1, s2, s3, s4, s5, s6, _⟩ := hSw; go_simp; (try with_reducible rfl)
        try simp only [Act.put, List.setIfInBounds_toArray, List.set_cons_zero, List.set_cons_succ]
        refine takeH 35 68 (v := ?_) rfl rfl (by kernel_rfl) (by kernel_rfl) (by kernel_rfl) (fun _ _ _ h => h) (by rfl) ?_ (by assumption) ?_
        rotate_left
        · intro w hSw; obtain ⟨s0, s1, s2, s3, s4, s5, s6, _⟩ := hSw; go_simp; (try with_reducible rfl)
        try simp only [Act.put, List.setIfInBounds_toArray, List.set_cons_zero, List.set_cons_succ]
        refine takeH 36 69 (v := ?_) rfl rfl (by kernel_rfl) (by kernel_rfl) (by kernel_rfl) (fun _ _ _ h => h) (by rfl) ?_ (by assumption) ?_
        rotate_left
        · intro w hSw; obtain ⟨s0, s1, s2, s3, s4, s5, s6, _⟩ := hSw; go_simp; (try with_reducible rfl)
        try simp only [Act.put, List.setIfInBounds_toArray, List.set_cons_zero, List.set_cons_succ]
        refine takeH 37 70 (v := ?_) rfl rfl (by kernel_rfl) (by kernel_rfl) (by kernel_rfl) (fun _ _ _ h => h) (by rfl) ?_ (by assumption) ?_
        rotate_left
        · intro w hSw; obtain ⟨s0, s1, s2, s3, s4, s5, s6, _⟩ := hSw; go_simp; (try with_reducible rfl)
        try simp only [Act.put, List.setIfInBounds_toArray, List.set_cons_zero, List.set_cons_succ]
        refine takeH 38 71 (v := ?_) rfl rfl (by kernel_rfl) (by kernel_rfl) (by kernel_rfl) (fun _ _ _ h => h) (by rfl) ?_ (by assumption) ?_
        rotate_left
        · intro w hSw; obtain ⟨s0, s1, s2, s3, s4, s5, s6, _⟩ := hSw; go_simp; (try with_reducible rfl)
        try simp only [Act.put, List.setIfInBounds_toArray, List.set_cons_zero, List.set_cons_succ]
        refine skipH 39 72 rfl rfl (by kernel_rfl) (by kernel_rfl) (by kernel_rfl) (fun _ _ _ h => h) (by rfl) (by assumption) ?_
        try simp only [Act.put, List.setIfInBounds_toArray, List.set_cons_zero, List.set_cons_succ]
        refine skipH 40 73 rfl rfl (by kernel_rfl) (by kernel_rfl) (by kernel_rfl) (fun _ _ _ h => h) (by rfl) (by assumption) ?_
        try simp only [Act.put, List.setIfInBounds_toArray, List.set_cons_zero, List.set_cons_succ]
        refine skipH 41 74 rfl rfl (by kernel_rfl) (by kernel_rfl) (by kernel_rfl) (fun _ _ _ h => h) (by rfl) (by assumption) ?_
        try simp only [Act.put, List.setIfInBounds_toArray, List.set_cons_zero, List.set_cons_succ]
        refine skipH 42 75 rfl rfl (by kernel_rfl) (by kernel_rfl) (by kernel_rfl) (fun _ _ _ h => h) (by rfl) (by assumption) ?_
        try simp only [Act.put, List.setIfInBounds_toArray, List.set_cons_zero, List.set_cons_succ]
        refine skipH 43 76 rfl rfl (by kernel_rfl) (by kernel_rfl) (by kernel_rfl) (fun _ _ _ h => h) (by rfl) (by assumption) ?_
        try simp only [Act.put, List.setIfInBounds_toArray, List.set_cons_zero, List.set_cons_succ]
        refine skipH 44 77 rfl rfl (by kernel_rfl) (by kernel_rfl) (by kernel_rfl) (fun _ _ _ h => h) (by rfl) (by assumption) ?_
        try simp only [Act.put, List.setIfInBounds_toArray, List.set_cons_zero, List.set_cons_succ]
        refine skipH 45 78 rfl rfl (by kernel_rfl) (by kernel_rfl) (by kernel_rfl) (fun _ _ _ h => h) (by rfl) (by assumption) ?_
        try simp only [Act.put, List.setIfInBounds_toArray, List.set_cons_zero, List.set_cons_succ]
        refine skipH 46 79 rfl rfl (by kernel_rfl) (by kernel_rfl) (by kernel_rfl) (fun _ _ _ h => h) (by rfl) (by assumption) ?_
        try simp only [Act.put, List.setIfInBounds_toArray, List.set_cons_zero, List.set_cons_succ]
        refine skipH 47 80 rfl rfl (by kernel_rfl) (by kernel_rfl) (by kernel_rfl) (fun _ _ _ h => h) (by rfl) (by assumption) ?_
        try simp only [Act.put, List.setIfInBounds_toArray, List.set_cons_zero, List.set_cons_succ]
        refine skipH 48 81 rfl rfl (by kernel_rfl) (by kernel_rfl) (by kernel_rfl) (fun _ _ _ h => h) (by rfl) (by assumption) ?_
        try simp only [Act.put, List.setIfInBounds_toArray, List.set_cons_zero, List.set_cons_succ]
        refine skipH 49 82 rfl rfl (by kernel_rfl) (by kernel_rfl) (by kernel_rfl) (fun _ _ _ h => h) (by rfl) (by assumption) ?_
        try simp only [Act.put, List.setIfInBounds_toArray, List.set_cons_zero, List.set_cons_succ]
        refine skipH 50 83 rfl rfl (by kernel_rfl) (by kernel_rfl) (by kernel_rfl) (fun _ _ _ h => h) (by rfl) (by assumption) ?_
        try simp only [Act.put, List.setIfInBounds_toArray, List.set_cons_zero, List.set_cons_succ]
        refine takeH 51 84 (v := ?_) rfl rfl (by kernel_rfl) (by kernel_rfl) (by kernel_rfl) (fun _ _ _ h => h) (by rfl) ?_ (by assumption) ?_
        rotate_left
        · intro w hSw; obtain ⟨s0, s1, s2, s3, s4, s5, s6, _⟩ := hSw; go_simp; (try with_reducible rfl)
        try simp only [Act.put, List.setIfInBounds_toArray, List.set_cons_zero, List.set_cons_succ]
        refine takeH 52 85 (v := ?_) rfl rfl (by kernel_rfl) (by kernel_rfl) (by kernel_rfl) (fun _ _ _ h => h) (by rfl) ?_ (by assumption) ?_
        rotate_left
        · intro w hSw; obtain ⟨s0, s1, s2, s3, s4, s5, s6, _⟩ := hSw; go_simp; (try with_reducible rfl)
        try simp only [Act.put, List.setIfInBounds_toArray, List.set_cons_zero, List.set_cons_succ]
        refine wpAnyH_done (by kernel_rfl) ?_ _
        go_wp2_with fail
        go_roundw
        case rel => exact ⟨cs.length + 1, by omega, by simp, hB.trans ((kept_below (w := wr.drew) hB5 ⟨hBr.drew⟩ (Nat.le_refl _)).h.mono hB.size)⟩
        case measure => simp [intOf]
    · obtain rfl : k = cs.length + 1 := by omega
      obtain ⟨bL, oL, rfl, hbL, p4, p5, p6⟩ := fileL_cells hL ((hRL.below hB (Nat.le_refl _)).up hB.size) (cs.length + 1) _ hatS
      have hisL := isL_segL (a := a) (k := cs.length + 1) ha (by omega) (by omega) (by omega)
      have hrd : Ints wr wr.heap.size (.slice (some ⟨gi, oi, none⟩) (segL a (cs.length + 1)).length ki) (segL a (cs.length + 1)) := by
        unfold Ints
        rw [segL_len]
        exact (r2.below hB hgi).rd (Nat.lt_of_lt_of_le hgi hB.size)
      have hbc := fun w' (hb' : Below wr.heap.size wr w') => refbytes_calls (some ⟨gi, oi, none⟩) ki (segL a (cs.length + 1)) hisL w' ((hrd.below hb' (Nat.le_refl _)).up hb'.size)
      rw [segL_len] at hbc
      change ∀ w', Below wr.heap.size wr w' → Calls Tryz.prog 42 #[.slice (some ⟨gi, oi, none⟩) (cs.length + 1) ki] w' fun e w'' => e = .returned (.string (sheetB (segL a (cs.length + 1)))) ∧ Below w'.heap.size w' w'' at hbc
      simp only [sheetF] at p4 p5 p6
      have HBC := Lib.hid hbc
      have hz9 : (0 : Int) ≤ (cs.length : Int) + 1 := by omega
      have hz8 : (cs.length : Int) + 1 < (cs.length : Int) + 2 := by omega
      have hw9 : IntKind.i64.wrap ((cs.length : Int) + 2 - 1) = (cs.length : Int) + 1 := by rw [IntKind.wrap_i64]; omega
      have lI := Nat.lt_of_lt_of_le hI1 hB.size
      have HLS := Lib.hid hlen
      clear hbc hrd hisL hatS hat r2 r3 hRL hL q0 hlen h hd hd1 hown
      generalize sheetB (segL a (cs.length + 1)) = SB at *
      have hB0 : Below wr.heap.size wr (wr.alloc (.cells #[.string nSheet, .string SB, .int .i64 (SB.size : Int)] 83)) := (Below.refl _ wr).alloc (Nat.le_refl _) _
      have bF := Blk.new wr 83 #[.string nSheet, .string SB, .int .i64 (SB.size : Int)]
      go_wp2_with fail
      have bF' : Blk (wr.alloc (.cells #[.string nSheet, .string SB, .int .i64 (SB.size : Int)] 83)) wr.heap.size 83 _ := bF
      have c0 : (wr.alloc (.cells #[.string nSheet, .string SB, .int .i64 (SB.size : Int)] 83)).cell? ⟨wr.heap.size, 0, none⟩ = some (.string nSheet) := bF'.cell 0
      have c1 : (wr.alloc (.cells #[.string nSheet, .string SB, .int .i64 (SB.size : Int)] 83)).cell? ⟨wr.heap.size, 1, none⟩ = some (.string SB) := bF'.cell 1
      have c2 : (wr.alloc (.cells #[.string nSheet, .string SB, .int .i64 (SB.size : Int)] 83)).cell? ⟨wr.heap.size, 2, none⟩ = some (.int .i64 (SB.size : Int)) := bF'.cell 2
      have c3 := (hB0.cell (p := ⟨I, 0, none⟩) lI).trans p0
      have lF := bF'.lt
      have lI0 := Nat.lt_of_lt_of_le lI hB0.size
      have hBw0 : Below w1.heap.size w1 (wr.alloc (.cells #[.string nSheet, .string SB, .int .i64 (SB.size : Int)] 83)) := hB.trans (hB0.mono hB.size)
      have hbc : ∀ w', Below (wr.alloc (.cells #[.string nSheet, .string SB, .int .i64 (SB.size : Int)] 83)).heap.size (wr.alloc (.cells #[.string nSheet, .string SB, .int .i64 (SB.size : Int)] 83)) w' → Calls Tryz.prog 42 #[.slice (some ⟨gi, oi, none⟩) (cs.length + 1) ki] w' fun e w'' => e = .returned (.string SB) ∧ Below w'.heap.size w' w'' := fun w' hb' => HBC.out w' (hB0.trans (hb'.mono hB0.size))
      have HBC2 := Lib.hid hbc
      clear hbc HBC bF bF' p0 p1 p4 p5 p6 hB0 hB r1
      generalize wr.heap.size = Fb at *
      generalize wr.alloc (.cells #[.string nSheet, .string SB, .int .i64 (SB.size : Int)] 83) = w0 at *
      have hBr := Below.refl w0.heap.size w0
      simp only [nSheet] at c0
      go_region_held3 (fun w' => w'.cell? ⟨Fb, 0, none⟩ = some (.string ⟨#[115, 104, 101, 101, 116]⟩) ∧ w'.cell? ⟨Fb, 1, none⟩ = some (.string SB) ∧ w'.cell? ⟨Fb, 2, none⟩ = some (.int .i64 (SB.size : Int)) ∧ w'.cell? ⟨I, 0, none⟩ = some (.slice (some ⟨gi, oi, none⟩) (cs.length + 1) ki) ∧ Bx (Below w0.heap.size w0 w'))
        (first | exact ⟨c0, c1, c2, c3, ⟨hBr.drew⟩⟩ | exact ⟨kept_cell (w := w0.drew) hB5 ⟨hBr.drew⟩ (Nat.le_refl _) lF c0, kept_cell (w := w0.drew) hB5 ⟨hBr.drew⟩ (Nat.le_refl _) lF c1, kept_cell (w := w0.drew) hB5 ⟨hBr.drew⟩ (Nat.le_refl _) lF c2, kept_cell (w := w0.drew) hB5 ⟨hBr.drew⟩ (Nat.le_refl _) lI0 c3, kept_below (w := w0.drew) hB5 ⟨hBr.drew⟩ (Nat.le_refl _)⟩)
        (first | (go_at_call 42; refine (HBC2.out _ hBr.drew).mono ?_; rintro e w5 ⟨rfl, hB5⟩))
      go_wp2
      go_ret
      exact ⟨rfl, hB1.trans ((hBw0.trans ((kept_below (w := w0.drew) hB5 ⟨hBr.drew⟩ (Nat.le_refl _)).h.mono hBw0.size)).mono hB1.size)⟩
end
end Go.Proofs.YtoaegleieacokaaGreat
