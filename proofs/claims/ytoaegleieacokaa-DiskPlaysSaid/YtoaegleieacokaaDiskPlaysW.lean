/- DiskPlays: the walk. -/
import Derived.Test.YtoaegleieacokaaAlike
import Derived.Test.YtoaegleieacokaaKnown8
namespace Go.Proofs.Ytoaegleieacokaa
open Go.RowKit Go.Shelf

/-- Blocks more that are kept: each newer than all there was. -/
theorem Both.mores {n : Nat} {W : World} {D M R : Nat} {X Fs : List Nat} {r s : DS} {w w' : World} (h : Both n W D M R X r s w) (hb : Below w.heap.size w w') (hF : ∀ b ∈ Fs, w.heap.size ≤ b ∧ b < w'.heap.size) : Both n W D M R (Fs ++ X) r s w' := by
  obtain ⟨v, hv⟩ := h.rf
  have h2 := h.next hb
  have hv2 := hv.next hb
  have hX := h.xs
  have hRl := hv.blk.lt
  refine ⟨h2.dk, ⟨v, hv2.blk, hv2.own, hv2.hR, hv2.ne, fun hx => ?_, fun b hb e => ?_⟩, fun b hb => ?_⟩
  · simp only [List.mem_cons, List.mem_append] at hx
    rcases hx with hx | hx | hx | hx
    · exact hv.RX (by simp [hx])
    · exact hv.RX (by simp [hx])
    · have := (hF R hx).1; omega
    · exact hv.RX (by simp [hx])
  · simp only [List.mem_cons, List.mem_append] at hb
    rcases hb with hx | hx | hx | hx
    · exact hv.vX b (by simp [hx]) e
    · exact hv.vX b (by simp [hx]) e
    · have := (hF b hx).1; have := (hv.own.lt b e).2; omega
    · exact hv.vX b (by simp [hx]) e
  · rcases List.mem_append.1 hb with hb | hb
    · have h3 := hX D (by simp)
      have h4 := hX M (by simp)
      have := hF b hb
      exact ⟨by omega, by omega, by omega⟩
    · exact h2.lt b hb
/-- What turns aside of both turns neither. -/
theorem Both.aside {n : Nat} {W : World} {D M R : Nat} {X bs : List Nat} {r s : DS} {w w' : World} (h : Both n W D M R X r s w) (hc : Chg bs w w') (hs : ∀ b ∈ bs, b ∈ X) (hn : ∀ b ∈ bs, n ≤ b) : Both n W D M R X r s w' :=
  ⟨⟨h.dk.at'.chg hc (fun hm => (h.lt D (hs D hm)).2.1 rfl) (fun hm => (h.lt M (hs M hm)).2.2 rfl), h.dk.below.trans (hc.below h.dk.size hn), h.dk.hD, h.dk.hM, h.dk.ok⟩, h.rf.imp fun _ hv => hv.chgX hc (fun b hb => by simp [hs b hb]), fun b hb => ⟨Nat.lt_of_lt_of_le (h.lt b hb).1 hc.size, (h.lt b hb).2⟩⟩
theorem Both.drop {n : Nat} {W : World} {D M R : Nat} {X : List Nat} {r s : DS} {w : World} (h : Both n W D M R X r s w) : Both n W D M R [] r s w := by
  obtain ⟨v, hv⟩ := h.rf
  exact ⟨h.dk, ⟨v, hv.blk, hv.own, hv.hR, hv.ne, fun hx => hv.RX (by simp only [List.mem_cons, List.not_mem_nil, or_false] at hx ⊢; rcases hx with hx | hx <;> simp [hx]), fun b hb => hv.vX b (by simp only [List.mem_cons, List.not_mem_nil, or_false] at hb ⊢; rcases hb with hx | hx <;> simp [hx])⟩, by simp⟩
def nCopy : ByteArray := ⟨#[99, 111, 112, 121]⟩

set_option maxRecDepth 100000 in
set_option maxHeartbeats 2000000 in
theorem walk_DiskPlays {W : World} (a0 : Int) (_ : (Lit.int .i64 a0).wf = true) (a1 : Option Addr) (c1 : Nat) (l1 : List (ByteArray × F)) (r1 : Rd W W.heap.size 3 (.slice a1 l1.length c1) l1.length (filesCells l1)) (_ : c1 ≤ maxLen) (_ : ∀ x ∈ l1, True)
    (a2 : Option Addr) (c2 : Nat) (l2 : List St) (r2 : Rd W W.heap.size 6 (.slice a2 l2.length c2) l2.length (l2.flatMap St.cells)) (_ : c2 ≤ maxLen) (g2 : ∀ x ∈ l2, x.Good) :
    Calls Try.prog 10 #[.int .i64 a0, .slice a1 l1.length c1, .slice a2 l2.length c2] W fun e w' => e = .returned (.bool true) ∧ Below W.heap.size W w' := by
  go_enter Try.func10, Try.ntmps10
  go_wp2_with fail
  refine (known8_calls W).mono ?_
  rintro e w3 ⟨rfl, hB1⟩
  by_cases hlen : 60 < l2.length
  · go_wp2
    go_ret
    exact ⟨rfl, hB1⟩
  by_cases hlen1 : 6 < l1.length
  · go_wp2
    go_ret
    exact ⟨rfl, hB1⟩
  go_wp2_with fail
  go_loopw [7] (fun i wr => ∃ k : Nat, k ≤ l1.length ∧ i = .int .i64 k ∧ wr = w3 ∧ ∀ j (hj : j < l1.length), j < k → l1[j].2.b.size ≤ 200) (fun i _ => l1.length - (intOf i).toNat)
  case atStart => exact ⟨0, Nat.zero_le _, rfl, rfl, fun _ _ h => by omega⟩
  case round =>
    obtain ⟨k, hk, rfl, rfl, hsm⟩ := hrel
    by_cases hlt : k < l1.length
    · obtain ⟨b, off, rfl, hb, hcap, D0, D1, D2⟩ := file_cells' (r1.below hB1 (Nat.le_refl _)) k hlt
      have hnext : l1[k].2.b.size ≤ 200 → ∀ j (hj : j < l1.length), j < k + 1 → l1[j].2.b.size ≤ 200 := fun hx j hj hjk => by
        by_cases e : j = k
        · subst e; exact hx
        · exact hsm j hj (by omega)
      have HN := Lib.hid hnext
      clear hnext hsm
      generalize l1[k] = x at *
      by_cases hx : 200 < x.2.b.size
      · go_wp2
        go_ret
        exact ⟨rfl, hB1⟩
      have H2 := Lib.hid (HN.out (by omega))
      clear HN
      by_cases hy : 20 < x.1.size
      · go_wp2
        go_ret
        exact ⟨rfl, hB1⟩
      go_wp2
      go_roundw
      case rel => exact ⟨k + 1, by omega, by simp, trivial, H2.out⟩
      case measure => simp [intOf]; omega
    · obtain rfl : k = l1.length := by omega
      have hfin := fin_of a0 l1 (fun p hp => by obtain ⟨j, hj, rfl⟩ := List.getElem_of_mem hp; exact hsm j hj hj) (by omega)
      have hbr := br_of a0 l1
      clear hsm
      have hOf := of_calls a0 a1 c1 l1 (by omega) wr ((r1.below hB1 (Nat.le_refl _)).up hB1.size)
      go_wp2_with fail
      refine hOf.mono ?_
      clear hOf
      rintro e w4 ⟨D, rfl, M, hd, hD, hM, hB4⟩
      have hdk : Dk W.heap.size W D M (ofDS a0 l1) w4 := ⟨hd, hB1.trans (hB4.mono hB1.size), Nat.le_trans hB1.size hD, Nat.le_trans hB1.size hM, hfin.ok (by decide)⟩
      have hX : ∀ b ∈ [D, M], b < w4.heap.size := fun b hb => by
        rcases List.mem_cons.1 hb with rfl | hb
        · exact hd.blk.lt
        · rw [List.mem_singleton.1 hb]; exact hd.map.lt
      have hRof := rof_calls (n := W.heap.size) (X := [D, M]) a0 a1 c1 l1 (by omega) w4 hdk.size hX (r1.below hdk.below (Nat.le_refl _))
      go_wp2_with fail
      refine hRof.mono ?_
      clear hRof
      rintro e w5 ⟨R, rfl, v, hv, hK⟩
      have hb0 : Both W.heap.size W D M R [] (rofDS a0 l1) (ofDS a0 l1) w5 := ⟨⟨hd.same (hK.keep D (by simp) hd.blk.lt) (hK.keep M (by simp) hd.map.lt), hdk.below.trans hK.below, hdk.hD, hdk.hM, hdk.ok⟩, ⟨v, hv⟩, by simp⟩
      clear hdk hX hd hD hM hB4 hv hK hB1
      generalize rofDS a0 l1 = r0 at *
      generalize ofDS a0 l1 = s0 at *
      go_wp2_with fail
      go_loopw [10] (fun i wr => ∃ k : Nat, k ≤ l2.length ∧ i = .int .i64 k ∧ ∃ r s : DS, Br r s ∧ s.Fin (k : Int) ∧ Both W.heap.size W D M R [] r s wr) (fun i _ => l2.length - (intOf i).toNat)
      case atStart => exact ⟨0, Nat.zero_le _, rfl, _, _, hbr, hfin, hb0⟩
      case round =>
        clear hbr hfin hb0
        obtain ⟨k, hk, rfl, r, s, hbr, hfin, hb⟩ := hrel
        by_cases hlt : k < l2.length
        · obtain ⟨b, off, rfl, hb3, hcap, hst⟩ := step_cells r2 k hlt
          obtain ⟨d0, d1, d2, d3, d4, d5⟩ := hst.below hb.dk.below hb3
          have hgood := g2 _ (List.getElem_mem hlt)
          generalize l2[k] = t at *
          have bF := Blk.new wr 71 #[.int .i64 t.what, .int .i64 t.n, .string t.name, .string t.to, .string t.b, .int .u64 t.keep]
          have hB0 : Below wr.heap.size wr (wr.alloc (.cells #[.int .i64 t.what, .int .i64 t.n, .string t.name, .string t.to, .string t.b, .int .u64 t.keep] 71)) := (Below.refl _ wr).alloc (Nat.le_refl _) _
          have hW0 := hb.dk.below.trans (hB0.mono hb.dk.size)
          have hS0 : (wr.alloc (.cells #[.int .i64 t.what, .int .i64 t.n, .string t.name, .string t.to, .string t.b, .int .u64 t.keep] 71)).heap.size = wr.heap.size + 1 := World.size_alloc _ _
          by_cases hx1 : 20 < t.name.size
          · go_wp2
            go_ret
            exact ⟨rfl, hW0⟩
          by_cases hx2 : 20 < t.to.size
          · go_wp2
            go_ret
            exact ⟨rfl, hW0⟩
          by_cases hx3 : 200 < t.b.size
          · go_wp2
            go_ret
            exact ⟨rfl, hW0⟩
          have hcopy := copy_calls D M s _ (hb.next hB0).dk.at'
          go_wp2_with fail
          refine hcopy.mono ?_
          clear hcopy d0 d1 d2 d3 d4 d5 hW0
          rintro e w6 ⟨C, rfl, MC, hC, hCs, hMCs, hB6⟩
          rw [hS0] at hCs hMCs
          have hb6 := hb.mores (Fs := [wr.heap.size, C, MC]) (hB0.trans (hB6.mono hB0.size)) (fun b hb' => by
            have h1 := hC.blk.lt
            have h2 := hC.map.lt
            have h3 := hB6.size
            simp only [List.mem_cons, List.not_mem_nil, or_false] at hb'
            rcases hb' with rfl | rfl | rfl <;> exact ⟨by omega, by omega⟩)
          have bF6 := bF.below hB6 (by rw [hS0]; omega)
          have hn0 := hb.dk.size
          have hFC : wr.heap.size ∉ [C, MC] := by simp; omega
          have hnC : ∀ b ∈ [C, MC], W.heap.size ≤ b := fun b hb' => by
            simp only [List.mem_cons, List.not_mem_nil, or_false] at hb'
            rcases hb' with rfl | rfl <;> omega
          have hok : t.Ok := ⟨hgood.1, hgood.2.1, hgood.2.2, by omega⟩
          have hdo := does_calls hbr hfin (by omega) t hok w6 hb6
          have hbr2 := (br_does hbr t).2
          have hfin2 := fin_does hfin t hgood.1 hgood.2.1 hgood.2.2
          generalize (s.does t).1 = e1 at *
          generalize (s.does t).2 = s2 at *
          generalize (r.rdoes t).2 = r2' at *
          have f0 := bF6.cell 0
          have f1 := bF6.cell 1
          have f2 := bF6.cell 2
          have f3 := bF6.cell 3
          have f4 := bF6.cell 4
          have f5 := bF6.cell 5
          simp only [List.getElem?_toArray, List.getElem?_cons_succ, List.getElem?_cons_zero] at f0 f1 f2 f3 f4 f5
          have HS0 := Lib.hid hS0
          clear hS0 hCs hMCs hB0 hB6 bF hb hbr hgood hok
          generalize wr.heap.size = Fb at *
          go_wp2_with fail
          refine hdo.mono ?_
          clear hdo f0 f1 f2 f3 f4 f5
          rintro e w7 ⟨rfl, hb7, hkx⟩
          have hC7 := hC.same (hkx C (by simp)) (hkx MC (by simp))
          have bF7 := (hkx Fb (by simp)).trans bF6
          clear hC bF6 hkx hb6
          go_wp2_with fail
          have hfc := fin_create hfin nCopy
          have hcr := create_calls C MC s (hfin.ok (by omega)) nCopy w7 hC7
          generalize (s.create nCopy).1 = ec at *
          generalize (s.create nCopy).2 = sc at *
          refine hcr.mono ?_
          clear hcr
          rintro e w8 ⟨rfl, hC8, hch⟩
          have hb8 := hb7.aside hch (by simp) hnC
          have bF8 := (hch.block Fb (Blk.lt bF7) hFC).trans bF7
          clear hb7 bF7 hch hC7
          have hcra := crash_calls C MC sc (by have := hfc.many; omega) hfc.fok 1 (by decide) (by decide) w8 hC8
          go_wp2_with fail
          refine hcra.mono ?_
          clear hcra hfc
          rintro e w9 ⟨⟨u, rfl⟩, _, hch⟩
          have hb9 := hb8.aside hch (by simp) hnC
          have bF9 : Blk w9 Fb 71 #[.int .i64 t.what, .int .i64 t.n, .string t.name, .string t.to, .string t.b, .int .u64 t.keep] := (hch.block Fb (Blk.lt bF8) hFC).trans bF8
          clear hb8 bF8 hch hC8
          have q2 : w9.cell? ⟨Fb, 2, none⟩ = some (.string t.name) := bF9.cell 2
          have hrd := hbr2.read t.name
          obtain ⟨⟨tb, te⟩, hread⟩ : ∃ q, readOf s2 t.name = q := ⟨_, rfl⟩
          rw [hread] at hrd
          have hrk := (hbr2.ok hfin2 (by omega)).len
          have hrr := Lib.hid fun (w' : World) (v : Value) (hv : RefAt W.heap.size (D :: M :: ([Fb, C, MC] ++ [])) w' R v r2') => rread_calls hrk t.name w' hv
          rw [hrd] at hrr
          have hDr := dread_calls D M s2 t.name w9 hb9.dk.at'
          rw [hread] at hDr
          have HRD := Lib.hid hread
          clear hread hrd
          go_wp2_with fail
          refine hDr.mono ?_
          clear hDr
          rintro e w10 ⟨rfl, hB10⟩
          have hb10 := hb9.next hB10
          have q2 : w10.cell? ⟨Fb, 2, none⟩ = some (.string t.name) := (bF9.below hB10 bF9.lt).cell 2
          clear hb9 bF9 hB10
          obtain ⟨v, hv⟩ := hb10.rf
          go_wp2_with fail
          refine (hrr.out _ _ hv).mono ?_
          clear hrr hv
          rintro e w11 ⟨rfl, rfl⟩
          have hal := alike_calls hbr2 hfin2 (by omega) _ hb10.drop
          go_wp2_with fail
          refine hal.mono ?_
          clear hal
          rintro e w12 ⟨rfl, hb12, _⟩
          have hf2' : Hid (s2.Fin ((k + 1 : Nat) : Int)) := Lib.hid (by rw [Int.natCast_succ]; exact hfin2)
          have hb2' := Lib.hid hbr2
          clear hfin2 hbr2 hb10 q2 hnC hFC hst
          go_wp2
          go_roundw
          case rel => exact ⟨k + 1, by omega, by simp, r2', s2, hb2'.out, hf2'.out, hb12⟩
          case measure => simp [intOf]; omega
        · obtain rfl : k = l2.length := by omega
          have hal := alike_calls hbr hfin (by omega) _ hb
          go_wp2_with fail
          refine hal.mono ?_
          clear hal
          rintro e w9 ⟨rfl, hb9, _⟩
          go_wp2
          go_ret
          exact ⟨rfl, hb9.dk.below⟩
end Go.Proofs.Ytoaegleieacokaa
