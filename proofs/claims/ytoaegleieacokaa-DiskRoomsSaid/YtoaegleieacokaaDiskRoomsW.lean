/- DiskRooms: the walk. -/
import Derived.Test.YtoaegleieacokaaStepArg
import Derived.Test.YtoaegleieacokaaKnown8
import Derived.WalkLawsBesides
namespace Go.Proofs.Ytoaegleieacokaa
open Go.RowKit Go.Shelf

theorem on_not17 (s : DS) (nm : ByteArray) (t : Bool) : onOf s nm t ≠ 17 := by
  unfold onOf
  repeat' split
  all_goals decide
theorem does_full {s : DS} {t : St} (h : (s.does t).1 = 17) : (s.does t).2 = s := by
  unfold DS.does at h ⊢
  by_cases h0 : t.what ≤ 0
  · rw [if_pos h0] at h ⊢
    unfold DS.create at h ⊢
    split at h
    · rename_i h1; rw [if_pos h1]
    · rename_i h1
      rw [if_neg h1]
      split at h
      · rename_i h2; rw [if_pos h2]
      · simp at h
  rw [if_neg h0] at h ⊢
  by_cases h1 : t.what ≤ 3
  · rw [if_pos h1] at h ⊢
    unfold DS.append at h ⊢
    split at h
    · rename_i h1; rw [if_pos h1]
    · rename_i h1
      rw [if_neg h1]
      split at h
      · rename_i h2; rw [if_pos h2]
      · simp at h
  rw [if_neg h1] at h ⊢
  have two : ∀ {c : Prop} [Decidable c] {e : Int} {x : DS}, e ≠ 17 → (if c then (e, s) else (0, x)).1 = 17 → (if c then (e, s) else (0, x)).2 = s := by
    intro c _ e x he hh
    split at hh
    · exact absurd hh he
    · simp at hh
  by_cases h2 : t.what ≤ 5
  · rw [if_pos h2] at h ⊢; exact two (on_not17 _ _ _) h
  rw [if_neg h2] at h ⊢
  by_cases h3 : t.what = 6
  · rw [if_pos h3] at h ⊢; exact two (on_not17 _ _ _) h
  rw [if_neg h3] at h ⊢
  by_cases h4 : t.what = 7
  · rw [if_pos h4] at h ⊢; exact two (on_not17 _ _ _) h
  rw [if_neg h4] at h ⊢
  by_cases h5 : t.what = 8
  · rw [if_pos h5] at h ⊢; exact two (on_not17 _ _ _) h
  rw [if_neg h5] at h ⊢
  split at h <;> simp at h
theorem does_room (s : DS) (t : St) : (s.does t).2.room = s.room := by
  unfold DS.does DS.create DS.append DS.sync DS.rename DS.remove DS.cut DS.crash
  repeat' split
  all_goals rfl
/-- What the inner loop asks of the files. -/
structure Nice (L : List (ByteArray × F)) : Prop where
  sound : ∀ k (h : k < L.length), 0 ≤ L[k].2.k ∧ L[k].2.k ≤ L[k].2.b.size
  up : ∀ k (h : k + 1 < L.length), Op.bytesLess L[k].1.toList L[k + 1].1.toList = true
  len : L.length ≤ 1000
  used : used L ≤ 1000000
theorem nice_of {r s : DS} {N : Int} (hb : Br r s) (hf : s.Fit N) : Nice r.l :=
  ⟨fun k h => hf.sound _ (hb.perm.mem_iff.1 (List.getElem_mem h)),
   fun k h => by rw [str_less, decide_eq_true]; exact List.pairwise_iff_getElem.1 hb.up k (k + 1) (by omega) h (by omega),
   by rw [hb.len]; exact hf.many, by rw [hb.used]; have := hf.used; have := hf.room; omega⟩

set_option maxRecDepth 100000 in
set_option maxHeartbeats 2000000 in
theorem walk_DiskRooms {W : World} (a0 : Int) (w0 : (Lit.int .u16 a0).wf = true) (a1 : Option Addr) (c1 : Nat) (l1 : List St) (r1 : Rd W W.heap.size 6 (.slice a1 l1.length c1) l1.length (l1.flatMap St.cells)) (_ : c1 ≤ maxLen) (g1 : ∀ x ∈ l1, x.Good) :
    Calls Try.prog 12 #[.int .u16 a0, .slice a1 l1.length c1] W fun e w' => e = .returned (.bool true) ∧ Below W.heap.size W w' := by
  obtain ⟨hr0, hr1⟩ := wf_u16 w0
  go_enter Try.func12, Try.ntmps12
  go_wp2_with fail
  refine (known8_calls W).mono ?_
  rintro e w3 ⟨rfl, hB1⟩
  by_cases hlen : 60 < l1.length
  · go_wp2
    go_ret
    exact ⟨rfl, hB1⟩
  go_wp2_with fail
  refine (new_dk a0 hB1 hB1.size).mono ?_
  rintro e w4 ⟨D, rfl, M, h⟩
  clear hB1
  have hX4 : ∀ b ∈ [D, M], b < w4.heap.size := fun b hb => by
    rcases List.mem_cons.1 hb with rfl | hb
    · exact h.at'.blk.lt
    · rw [List.mem_singleton.1 hb]; exact h.at'.map.lt
  go_wp2_with fail
  refine (rnew_calls (n := W.heap.size) (X := [D, M]) a0 w4 h.size hX4).mono ?_
  rintro e w5 ⟨R, rfl, hR, _, hB5⟩
  have hb0 : Both W.heap.size W D M R (newDS a0) (newDS a0) w5 := ⟨h.next hB5, _, hR⟩
  have hroom : (newDS a0).room = a0 := by simp only [newDS]; omega
  have HROOM := Lib.hid hroom
  clear h hX4 hR hB5 hroom
  go_wp2_with fail
  go_loopw [7] (fun i wr => ∃ k : Nat, k ≤ l1.length ∧ i = .int .i64 k ∧ ∃ r s : DS, Br r s ∧ s.Fit (k : Int) ∧ Hid (s.room = a0) ∧ Both W.heap.size W D M R r s wr) (fun i _ => l1.length - (intOf i).toNat)
  case atStart => exact ⟨0, Nat.zero_le _, rfl, _, _, br_new a0, fit_new a0, HROOM, hb0⟩
  case round =>
    obtain ⟨k, hk, rfl, r, s, hbr, hfit, hroom, hb⟩ := hrel
    by_cases hlt : k < l1.length
    · obtain ⟨b, off, rfl, hb3, hcap, hst⟩ := step_cells r1 k hlt
      have d4 := (hst.below hb.dk.below hb3).d4
      have hgood := g1 _ (List.getElem_mem hlt)
      generalize l1[k] = t at *
      by_cases hx : 200 < t.b.size
      · go_wp2
        go_ret
        exact ⟨rfl, hb.dk.below⟩
      have hok : t.Ok := ⟨hgood.1, hgood.2.1, hgood.2.2, by omega⟩
      have hN : (k : Int) < 4611686018427380000 := by omega
      have hb2 := (br_does hbr t).2
      have hf2 := fit_does hfit t hgood.1 hgood.2.1 hgood.2.2
      have hrm := does_room s t
      have hful := fun h => congrArg (fun x : DS => (used x.l : Int)) (does_full (s := s) (t := t) h)
      have hdo := fun w h => does_calls (n := W.heap.size) (W := W) (D := D) (M := M) (R := R) hbr hfit hN t hok w h
      generalize (s.does t).1 = e1 at *
      generalize (s.does t).2 = s2 at *
      generalize (r.rdoes t).2 = r2 at *
      have HD := Lib.hid hdo
      have HF := Lib.hid hful
      have HM := Lib.hid hrm
      clear hdo hful hrm hgood hok hN
      go_wp2_with fail
      refine (used_dk rfl hb.dk).mono ?_
      rintro e w6 ⟨rfl, h6, hC6⟩
      have hb6 := hb.disk h6 hC6
      clear hb h6 hC6 d4
      obtain ⟨d0, d1, d2, d3, d4, d5⟩ := hst.below hb6.dk.below hb3
      go_wp2_with fail
      refine (HD.out w6 hb6).mono ?_
      clear HD
      rintro e w7 ⟨rfl, hb7⟩
      have hnice := nice_of hb2 hf2
      clear d0 d1 d2 d3 d4 d5 hb6
      have hall := all_dk hb2.files (by have := hf2.many; omega) hb7.dk
      have hug := hb2.used
      generalize hL : r2.l = L at *
      go_wp2_with fail
      refine hall.mono ?_
      clear hall
      rintro e w8 ⟨v, rfl, hown, h8, hB8⟩
      have hb8 := hb7.next hB8
      clear hB8 h8 hb7
      have rd := Rd.of_owns hown
      clear hown
      obtain ⟨a3, c3, rfl⟩ := Rd.val rd
      go_wp2_with fail
      go_loopw [11, 13] (fun n i wr => ∃ j : Nat, j ≤ L.length ∧ i = .int .i64 j ∧ n = .int .i64 (used (L.take j) : Int) ∧ Both W.heap.size W D M R r2 s2 wr ∧ Rd wr wr.heap.size 3 (.slice a3 L.length c3) L.length (filesCells L)) (fun _ i _ => L.length - (intOf i).toNat)
      case atStart => exact ⟨0, Nat.zero_le _, rfl, rfl, hb8, rd⟩
      case round =>
        obtain ⟨j, hj, rfl, rfl, hb9, rd9⟩ := hrel
        clear hb8 rd
        by_cases hlj : j < L.length
        · have hU := used_take L j hlj
          have hle := used_take_le L (j + 1)
          have hsum : used (L.take j) + L[j].2.b.size ≤ 1000000 := by have := hnice.used; omega
          have HU := Lib.hid hU
          clear hU hle
          generalize used (L.take j) = u at *
          obtain ⟨n1, n2⟩ := hnice.sound j hlj
          have c1 : decide (((L[j].2.b.size : Nat) : Int) < L[j].2.k) = false := decide_eq_false (by omega)
          have c2 : decide (L[j].2.k < 0) = false := decide_eq_false (by omega)
          obtain ⟨b2, off2, rfl, hb2', D0, D1, D2⟩ := file_cells rd9 j hlj
          by_cases hdz : j = 0
          · subst hdz
            generalize L[0] = x at *
            go_wp2
            go_quiet (fail)
            have hbq := hb9.next (below_drewN (Below.refl _ wr) nq)
            have rdq : Rd (wr.drewN nq) (wr.drewN nq).heap.size 3 _ L.length (filesCells L) := rd9
            clear hb9 rd9 D0 D1 D2
            generalize wr.drewN nq = w9 at *
            go_wp2
            go_roundw
            case rel => exact ⟨0 + 1, by omega, by simp, by rw [HU.out]; simp, hbq, rdq⟩
            case measure => simp [intOf]; omega
          · obtain ⟨i, hi⟩ : ∃ i, j = i + 1 := ⟨j - 1, by omega⟩
            have hLl := hnice.len
            have hup := hnice.up i (by omega)
            simp only [← hi] at hup
            obtain ⟨b4, off4, he, _, E0, _, _⟩ := file_cells rd9 i (by omega)
            cases he
            have hil : i < L.length := by omega
            have z1 : IntKind.i64.wrap ((j : Int) - 1) = (i : Int) := by rw [IntKind.wrap_i64]; omega
            have c3 : 0 < j := by omega
            have c4 : decide (0 < j) = true := decide_eq_true (by omega)
            generalize L[j] = x at *
            generalize L[i] = y at *
            have HI := Lib.hid hi
            clear hi
            go_wp2
            go_quiet (fail)
            have hbq := hb9.next (below_drewN (Below.refl _ wr) nq)
            have rdq : Rd (wr.drewN nq) (wr.drewN nq).heap.size 3 _ L.length (filesCells L) := rd9
            clear hb9 rd9 D0 D1 D2 z1 E0 hup c3 c4
            generalize wr.drewN nq = w9 at *
            go_wp2
            go_roundw
            case rel => exact ⟨j + 1, by omega, by simp, by rw [HU.out]; simp, hbq, rdq⟩
            case measure => simp [intOf]; omega
        · obtain rfl : j = L.length := by omega
          rw [List.take_length]
          have hroom2 : s2.room = a0 := HM.out.trans hroom.out
          have HR2 := Lib.hid hroom2
          have hus := hf2.used
          have hle0 : (used L : Int) ≤ a0 := by rw [hug]; rw [hroom2] at hus; exact hus
          have hlt0 := hnice.used
          have hug' : (used s2.l : Int) = (used L : Int) := by rw [hug]
          have HUG := Lib.hid hug'
          have hb2' : Hid (Br r2 s2) := Lib.hid hb2
          have hf2' : Hid (s2.Fit ((k + 1 : Nat) : Int)) := Lib.hid (by rw [Int.natCast_succ]; exact hf2)
          have hf17 : Hid (e1 = 17 → (used s.l : Int) = (used L : Int)) := Lib.hid fun h => by rw [← HF.out h, hug']
          clear hug hug' hroom2 hus hL hb2 hf2 HF HM hnice rd9 hst hroom
          generalize (used L : Int) = u at *
          generalize (used s.l : Int) = us at *
          have c5 : decide (a0 < u) = false := decide_eq_false (by omega)
          by_cases h17 : e1 = 17
          · obtain rfl := hf17.out h17
            subst h17
            go_wp2_with fail
            refine (used_dk HUG.out hb9.dk).mono ?_
            rintro e w9 ⟨rfl, h9, hC9⟩
            replace hb9 := hb9.disk h9 hC9
            clear h9 hC9
            go_wp2_with fail
            refine (used_dk HUG.out hb9.dk).mono ?_
            rintro e w10 ⟨rfl, h9, hC9⟩
            replace hb9 := hb9.disk h9 hC9
            clear h9 hC9
            go_wp2
            go_roundw
            case rel => exact ⟨k + 1, by omega, by simp, r2, s2, hb2'.out, hf2'.out, HR2, hb9⟩
            case measure => simp [intOf]; omega
          · have hb17 : (e1 == 17) = false := beq_eq_false_iff_ne.2 h17
            go_wp2_with fail
            refine (used_dk HUG.out hb9.dk).mono ?_
            rintro e w9 ⟨rfl, h9, hC9⟩
            replace hb9 := hb9.disk h9 hC9
            clear h9 hC9
            go_wp2
            go_roundw
            case rel => exact ⟨k + 1, by omega, by simp, r2, s2, hb2'.out, hf2'.out, HR2, hb9⟩
            case measure => simp [intOf]; omega
    · go_wp2
      go_ret
      exact ⟨rfl, hb.dk.below⟩
end Go.Proofs.Ytoaegleieacokaa
