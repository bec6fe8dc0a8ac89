/- The reference's disk: gone, add. -/
import Derived.Test.YtoaegleieacokaaRefOps
import Derived.Test.YtoaegleieacokaaDiskAll
import Derived.Deep.Onto
import Derived.Deep.QuietTactic
import Derived.BigQuiet
namespace Go.Proofs.Ytoaegleieacokaa
open Go.RowKit Go.Shelf

/-- New files in a row that lies past all that was. -/
theorem RefAt.renew {n : Nat} {X : List Nat} {w wr : World} {R : Nat} {v o : Value} {s : DS} {l : List (ByteArray × F)} (h : RefAt n X w R v s) (hX : ∀ b ∈ X, b < w.heap.size) (hn : n ≤ w.heap.size)
    (hown : wr.ownsRow w.heap.size 65 3 o l.length (filesCells l)) (hB : Below w.heap.size w wr) :
    RefAt n X (wr.setCell ⟨R, 1, none⟩ o) R o { s with l := l } ∧ Kp n X w (wr.setCell ⟨R, 1, none⟩ o) := by
  have hlt := h.blk.lt
  have hne : o.ownBlock ≠ some R := fun e => by have := (hown.lt R e).1; omega
  refine ⟨⟨(h.blk.below hB hlt).set 1 o, ownsRow_setCell_other (hown.mono hn) hne o, h.hR, hne, h.RX, fun b hb e => by have := (hown.lt b e).1; have := hX b hb; omega⟩, ?_⟩
  exact (Kp.of_below hB hn (Nat.le_refl _)).set h.hR h.RX 1 o
theorem filesCells_snoc (l : List (ByteArray × F)) (p : ByteArray × F) : filesCells (l ++ [p]) = filesCells l ++ [.string p.1, .string p.2.b, .int .i64 p.2.k] := by
  unfold filesCells
  rw [List.flatMap_append]
  simp [fileCells]
theorem fdl_take (l : List (ByteArray × F)) (nm : ByteArray) (k : Nat) (hk : k < l.length) : fdl (l.take (k + 1)) nm = fdl (l.take k) nm ++ (if l[k].1 = nm then [] else [l[k]]) := by
  unfold fdl
  rw [List.take_succ_eq_append_getElem hk, List.filter_append]
  congr 1
  by_cases h : l[k].1 = nm <;> simp [h]
theorem file_cells {w : World} {a : Option Addr} {c : Nat} {l : List (ByteArray × F)} (rd : Rd w w.heap.size 3 (.slice a l.length c) l.length (filesCells l)) (k : Nat) (hk : k < l.length) : ∃ b off, a = some ⟨b, off, none⟩ ∧ b < w.heap.size ∧
    w.cell? ⟨b, off + k * 3, none⟩ = some (.string l[k].1) ∧ w.cell? ⟨b, off + k * 3 + 1, none⟩ = some (.string l[k].2.b) ∧ w.cell? ⟨b, off + k * 3 + 2, none⟩ = some (.int .i64 l[k].2.k) := by
  obtain ⟨b, off, rfl, hb, hcp, hcs⟩ := rd.at (by omega)
  refine ⟨b, off, rfl, hb, ?_, ?_, ?_⟩
  · have := hcs (k * 3 + 0) (by omega)
    rw [filesCells_get l k 0 hk (by omega)] at this
    exact this
  · have := hcs (k * 3 + 1) (by omega)
    rw [filesCells_get l k 1 hk (by omega), ← Nat.add_assoc] at this
    exact this
  · have := hcs (k * 3 + 2) (by omega)
    rw [filesCells_get l k 2 hk (by omega), ← Nat.add_assoc] at this
    exact this
set_option maxRecDepth 100000 in
set_option maxHeartbeats 1000000 in
theorem rgone_calls {n : Nat} {X : List Nat} {R : Nat} {v : Value} {s : DS} (hlen : s.l.length ≤ 1000000) (nm : ByteArray) (w : World) (hn : n ≤ w.heap.size) (hX : ∀ b ∈ X, b < w.heap.size) (h : RefAt n X w R v s) :
    Calls Try.prog 120 #[.pointer (some ⟨R, 0, none⟩), .string nm] w fun e w' => (∃ u, e = .returned u) ∧ ∃ v', RefAt n X w' R v' { s with l := fdl s.l nm } ∧ Kp n X w w' := by
  obtain ⟨i0, hi, hz0, hz1, hz2⟩ := info_parts infoFile
  have rd := Rd.of_owns h.own
  obtain ⟨a, c, rfl⟩ := Rd.val rd
  have hR := h.blk.lt
  go_enter Try.func120, Try.ntmps120
  go_wp2_with fail
  go_loopw [4, 5] (fun o i wr => ∃ k : Nat, k ≤ s.l.length ∧ i = .int .i64 k ∧ wr.ownsRow w.heap.size 65 3 o (fdl (s.l.take k) nm).length (filesCells (fdl (s.l.take k) nm)) ∧ Below w.heap.size w wr) (fun _ i _ => s.l.length - (intOf i).toNat)
  case atStart => exact ⟨0, Nat.zero_le _, rfl, World.ownsRow_nil _ _ _ _, Below.refl _ _⟩
  case round =>
    obtain ⟨k, hk, rfl, hown, hB⟩ := hrel
    have hc1 : wr.cell? ⟨R, 1, none⟩ = some (.slice a s.l.length c) := (h.blk.below hB hR).cell 1
    have hf1 := (h.blk.below hB hR).frozen 1
    have hsz := hB.size
    by_cases hlt : k < s.l.length
    · obtain ⟨b, off, rfl, hb, d0, d1, d2⟩ := file_cells ((rd.below hB (Nat.le_refl _)).up hsz) k hlt
      have hft := fdl_take s.l nm k hlt
      have hfl : (fdl (s.l.take k) nm).length ≤ k := by unfold fdl; exact Nat.le_trans (List.length_filter_le _ _) (List.length_take_le _ _)
      have HF := Lib.hid hft
      clear hft rd
      generalize s.l[k] = x at *
      by_cases he : x.1 = nm
      · have hne : (x.1.toList == nm.toList) = true := by rw [str_eqb, decide_eq_true he]
        have hg : fdl (s.l.take (k + 1)) nm = fdl (s.l.take k) nm := by rw [HF.out, if_pos he, List.append_nil]
        have HG := Lib.hid hg
        clear he hg HF
        go_wp2
        go_roundw
        case rel => exact ⟨k + 1, by omega, by simp, by rw [HG.out]; exact hown, hB⟩
        case measure => simp [intOf]; omega
      · have hne : (x.1.toList == nm.toList) = false := by rw [str_eqb, decide_eq_false he]
        have hg : fdl (s.l.take (k + 1)) nm = fdl (s.l.take k) nm ++ [x] := by rw [HF.out, if_neg he]
        have HG := Lib.hid hg
        clear he hg HF
        generalize fdl (s.l.take k) nm = L at *
        go_wp2_with (at_builtin; refine wpList_append_own _ rfl _ _ 62 rfl w.heap.size 65 i0 _ 3 40 Try.underlying62 hi hz0 hz1 hz2 rfl (by decide) _ _ _ rfl (hown.alloc _) ⟨wr.heap.size, 0, none⟩ 1 1 [.string x.1, .string x.2.b, .int .i64 x.2.k] rfl rfl (cells_new _ _ _) (by simp [Value.oneCell']) (by unfold maxLen; omega) (by omega) (by simp; omega) ?_; intro v' w1 hown' hgrow _)
        go_roundw
        case rel => exact ⟨k + 1, by omega, by simp, by rw [HG.out, filesCells_snoc, List.length_append]; exact hown', below_append hB hsz hown hgrow⟩
        case measure => simp [intOf]; omega
    · obtain rfl : k = s.l.length := by omega
      rw [List.take_length] at hown
      obtain ⟨a2, c2, rfl⟩ := Rd.val (Rd.of_owns hown)
      obtain ⟨r1, r2⟩ := h.renew hX hn hown hB
      go_wp2
      go_end0
      exact ⟨⟨_, rfl⟩, _, r1, r2⟩
theorem below_append' {n₀ m : Nat} {w wr w1 : World} {e : TypeId} {sz : Nat} {v : Value} {n : Nat} {xs : List Value} {o : Obj} (hB : Below m w wr) (hn : m ≤ n₀) (h : wr.ownsRow n₀ e sz v n xs) (hg : (wr.alloc o).grownBy w1 v.ownBlock) (hs : m ≤ wr.heap.size) : Below m w w1 :=
  (hB.alloc hs _).grown hg (by simp; omega) (fun j e => Nat.le_trans hn (h.lt j e).1)
/-- Files as they stand, one more among them, at its name's place. -/
def insL (p : ByteArray × F) : List (ByteArray × F) → List (ByteArray × F)
  | [] => [p]
  | x :: l => if p.1.data.toList < x.1.data.toList then p :: x :: l else x :: insL p l
theorem str_less (x y : ByteArray) : Op.bytesLess x.toList y.toList = decide (x.data.toList < y.data.toList) := by
  rw [ByteArray.toList_eq, ByteArray.toList_eq, bytesLess_eq]
theorem drop_at (l : List (ByteArray × F)) (k : Nat) (hk : k < l.length) : l.drop k = l[k] :: l.drop (k + 1) := by rw [List.drop_eq_getElem_cons hk]
set_option maxRecDepth 100000 in
set_option maxHeartbeats 1000000 in
theorem radd_calls {n : Nat} {X : List Nat} {R : Nat} {v : Value} {s : DS} (hlen : s.l.length ≤ 1000000) (p : ByteArray × F) (w : World) (hn : n ≤ w.heap.size) (hX : ∀ b ∈ X, b < w.heap.size) (h : RefAt n X w R v s) :
    Calls Try.prog 89 #[.pointer (some ⟨R, 0, none⟩), .agg #[.string p.1, .string p.2.b, .int .i64 p.2.k]] w fun e w' => (∃ u, e = .returned u) ∧ ∃ v', RefAt n X w' R v' { s with l := insL p s.l } ∧ Kp n X w w' := by
  obtain ⟨i0, hi, hz0, hz1, hz2⟩ := info_parts infoFile
  have rd := Rd.of_owns h.own
  obtain ⟨a, c, rfl⟩ := Rd.val rd
  have hR := h.blk.lt
  have bF := Blk.new w 65 #[.string p.1, .string p.2.b, .int .i64 p.2.k]
  have hB0 : Below w.heap.size w (w.alloc (.cells #[.string p.1, .string p.2.b, .int .i64 p.2.k] 65)) := (Below.refl _ w).alloc (Nat.le_refl _) _
  have hw0 : (w.alloc (.cells #[.string p.1, .string p.2.b, .int .i64 p.2.k] 65)).heap.size = w.heap.size + 1 := World.size_alloc _ _
  go_enter Try.func89, Try.ntmps89
  go_wp2_with fail
  generalize w.alloc (.cells #[.string p.1, .string p.2.b, .int .i64 p.2.k] 65) = w0 at *
  go_loopw [4, 5, 6] (fun o dn i wr => ∃ (k : Nat) (d : Bool) (L : List (ByteArray × F)), k ≤ s.l.length ∧ i = .int .i64 k ∧ dn = .bool d ∧ L.length = k + (if d then 1 else 0) ∧ insL p s.l = L ++ (if d then s.l.drop k else insL p (s.l.drop k)) ∧ wr.ownsRow (w.heap.size + 1) 65 3 o L.length (filesCells L) ∧ Below w.heap.size w wr ∧ Below (w.heap.size + 1) w0 wr) (fun _ _ i _ => s.l.length - (intOf i).toNat)
  case atStart => exact ⟨0, false, [], Nat.zero_le _, rfl, rfl, rfl, rfl, World.ownsRow_nil _ _ _ _, hB0, Below.refl _ _⟩
  case round =>
    obtain ⟨k, d, L, hk, rfl, rfl, hLl, hins, hown, hB, hBw⟩ := hrel
    have hc1 : wr.cell? ⟨R, 1, none⟩ = some (.slice a s.l.length c) := (h.blk.below hB hR).cell 1
    have hf1 := (h.blk.below hB hR).frozen 1
    have hsz := hB.size
    have hbF := bF.below hBw (by omega)
    have q0 : wr.cell? ⟨w.heap.size, 0, none⟩ = some (.string p.1) := hbF.cell 0
    have q1 : wr.cell? ⟨w.heap.size, 1, none⟩ = some (.string p.2.b) := hbF.cell 1
    have q2 : wr.cell? ⟨w.heap.size, 2, none⟩ = some (.int .i64 p.2.k) := hbF.cell 2
    by_cases hlt : k < s.l.length
    · obtain ⟨b, off, rfl, hb, D0, D1, D2⟩ := file_cells rd k hlt
      rw [drop_at s.l k hlt] at hins
      clear rd
      generalize s.l[k] = x at *
      have hx0 := fun W' (hb' : Below w.heap.size w W') => (hb'.cell (p := ⟨b, off + k * 3, none⟩) hb).trans D0
      have hx1 := fun W' (hb' : Below w.heap.size w W') => (hb'.cell (p := ⟨b, off + k * 3 + 1, none⟩) hb).trans D1
      have hx2 := fun W' (hb' : Below w.heap.size w W') => (hb'.cell (p := ⟨b, off + k * 3 + 2, none⟩) hb).trans D2
      have hxR := fun W' (hb' : Below w.heap.size w W') => (h.blk.below hb' hR).cell 1
      simp only [List.getElem?_toArray, List.getElem?_cons_succ, List.getElem?_cons_zero] at hxR
      have d0 := hx0 wr hB
      have d1 := hx1 wr hB
      have d2 := hx2 wr hB
      cases d with
      | true =>
        rw [if_pos rfl] at hins hLl
        have HI := Lib.hid hins
        clear hins
        go_wp2
        go_quiet (fail)
        have hownQ : (wr.drewN nq).ownsRow (w.heap.size + 1) 65 3 u4 L.length (filesCells L) := hown
        have hBQ := below_drewN hB nq
        have hBwQ := below_drewN hBw nq
        have qQ : (wr.drewN nq).cell? ⟨R, 1, none⟩ = _ := hc1
        have qQ0 : (wr.drewN nq).cell? ⟨b, off + k * 3, none⟩ = _ := d0
        have qQ1 : (wr.drewN nq).cell? ⟨b, off + k * 3 + 1, none⟩ = _ := d1
        have qQ2 : (wr.drewN nq).cell? ⟨b, off + k * 3 + 2, none⟩ = _ := d2
        have qF0 : (wr.drewN nq).cell? ⟨w.heap.size, 0, none⟩ = _ := q0
        have qF1 : (wr.drewN nq).cell? ⟨w.heap.size, 1, none⟩ = _ := q1
        have qF2 : (wr.drewN nq).cell? ⟨w.heap.size, 2, none⟩ = _ := q2
        clear hown hB hBw hc1 d0 d1 d2 q0 q1 q2
        generalize wr.drewN nq = w5 at *
        have hszQ : w.heap.size + 1 ≤ w5.heap.size := by have := hBwQ.size; omega
        go_wp2_with (at_builtin; refine wpList_append_own _ rfl _ _ 62 rfl (w.heap.size + 1) 65 i0 _ 3 40 Try.underlying62 hi hz0 hz1 hz2 rfl (by decide) _ _ _ rfl (hownQ.alloc _) ⟨w5.heap.size, 0, none⟩ 1 1 [.string x.1, .string x.2.b, .int .i64 x.2.k] rfl rfl (cells_new _ _ _) (by simp [Value.oneCell']) (by unfold maxLen; omega) (by omega) (by simp; omega) ?_; intro v' w6 hown' hgrow _)
        go_roundw
        case rel => exact ⟨k + 1, true, L ++ [x], by omega, by simp, rfl, by rw [List.length_append, if_pos rfl]; simp; omega, by rw [HI.out, if_pos rfl]; simp, by rw [filesCells_snoc, List.length_append]; exact hown', below_append' hBQ (by omega) hownQ hgrow hBQ.size, below_append hBwQ hszQ hownQ hgrow⟩
        case measure => simp [intOf]; omega
      | false =>
        rw [if_neg (by simp)] at hins hLl
        by_cases hls : p.1.data.toList < x.1.data.toList
        · have hlb : Op.bytesLess p.1.toList x.1.toList = true := by rw [str_less, decide_eq_true hls]
          rw [insL, if_pos hls] at hins
          have HI := Lib.hid hins
          clear hins hls
          go_wp2
          go_quiet (fail)
          have hownQ : (wr.drewN nq).ownsRow (w.heap.size + 1) 65 3 u4 L.length (filesCells L) := hown
          have hBQ := below_drewN hB nq
          have hBwQ := below_drewN hBw nq
          have qQ : (wr.drewN nq).cell? ⟨R, 1, none⟩ = _ := hc1
          have qQ0 : (wr.drewN nq).cell? ⟨b, off + k * 3, none⟩ = _ := d0
          have qQ1 : (wr.drewN nq).cell? ⟨b, off + k * 3 + 1, none⟩ = _ := d1
          have qQ2 : (wr.drewN nq).cell? ⟨b, off + k * 3 + 2, none⟩ = _ := d2
          have qF0 : (wr.drewN nq).cell? ⟨w.heap.size, 0, none⟩ = _ := q0
          have qF1 : (wr.drewN nq).cell? ⟨w.heap.size, 1, none⟩ = _ := q1
          have qF2 : (wr.drewN nq).cell? ⟨w.heap.size, 2, none⟩ = _ := q2
          clear hown hB hBw hc1 d0 d1 d2 q0 q1 q2
          generalize wr.drewN nq = w5 at *
          have hszQ : w.heap.size + 1 ≤ w5.heap.size := by have := hBwQ.size; omega
          go_wp2_with (first | (at_builtin; refine wpList_append_own _ rfl _ _ 62 rfl (w.heap.size + 1) 65 i0 _ 3 40 Try.underlying62 hi hz0 hz1 hz2 rfl (by decide) _ _ _ rfl (hownQ.alloc _) ⟨w5.heap.size, 0, none⟩ 1 1 [.string p.1, .string p.2.b, .int .i64 p.2.k] rfl rfl (cells_new _ _ _) (by simp [Value.oneCell']) (by unfold maxLen; omega) (by omega) (by simp; omega) ?_; intro v' w6 hown6 hg6 _; have hB6 := below_append' hBQ (by omega) hownQ hg6 hBQ.size; have hBw6 := below_append hBwQ hszQ hownQ hg6; have e0 := hx0 w6 hB6; have e1 := hx1 w6 hB6; have e2 := hx2 w6 hB6; have eR := hxR w6 hB6; have hsz6 : w.heap.size + 1 ≤ w6.heap.size := by (have := hBw6.size; omega)) | (at_builtin; refine wpList_append_own _ rfl _ _ 62 rfl (w.heap.size + 1) 65 i0 _ 3 40 Try.underlying62 hi hz0 hz1 hz2 rfl (by decide) _ _ _ rfl (hown6.alloc _) ⟨w6.heap.size, 0, none⟩ 1 1 [.string x.1, .string x.2.b, .int .i64 x.2.k] rfl rfl (cells_new _ _ _) (by simp [Value.oneCell']) (by unfold maxLen; omega) (by omega) (by simp; omega) ?_; intro v'' w7 hown7 hg7 _))
          go_roundw
          case rel => exact ⟨k + 1, true, L ++ [p] ++ [x], by omega, by simp, rfl, by rw [List.length_append, List.length_append, if_pos rfl]; simp; omega, by rw [HI.out, if_pos rfl]; simp, by rw [filesCells_snoc, filesCells_snoc, List.length_append, List.length_append]; exact hown7, below_append' hB6 (by omega) hown6 hg7 hB6.size, below_append hBw6 hsz6 hown6 hg7⟩
          case measure => simp [intOf]; omega
        · have hlb : Op.bytesLess p.1.toList x.1.toList = false := by rw [str_less, decide_eq_false hls]
          rw [insL, if_neg hls] at hins
          have HI := Lib.hid hins
          clear hins hls
          go_wp2
          go_quiet (fail)
          have hownQ : (wr.drewN nq).ownsRow (w.heap.size + 1) 65 3 u4 L.length (filesCells L) := hown
          have hBQ := below_drewN hB nq
          have hBwQ := below_drewN hBw nq
          have qQ : (wr.drewN nq).cell? ⟨R, 1, none⟩ = _ := hc1
          have qQ0 : (wr.drewN nq).cell? ⟨b, off + k * 3, none⟩ = _ := d0
          have qQ1 : (wr.drewN nq).cell? ⟨b, off + k * 3 + 1, none⟩ = _ := d1
          have qQ2 : (wr.drewN nq).cell? ⟨b, off + k * 3 + 2, none⟩ = _ := d2
          have qF0 : (wr.drewN nq).cell? ⟨w.heap.size, 0, none⟩ = _ := q0
          have qF1 : (wr.drewN nq).cell? ⟨w.heap.size, 1, none⟩ = _ := q1
          have qF2 : (wr.drewN nq).cell? ⟨w.heap.size, 2, none⟩ = _ := q2
          clear hown hB hBw hc1 d0 d1 d2 q0 q1 q2
          generalize wr.drewN nq = w5 at *
          have hszQ : w.heap.size + 1 ≤ w5.heap.size := by have := hBwQ.size; omega
          go_wp2_with (at_builtin; refine wpList_append_own _ rfl _ _ 62 rfl (w.heap.size + 1) 65 i0 _ 3 40 Try.underlying62 hi hz0 hz1 hz2 rfl (by decide) _ _ _ rfl (hownQ.alloc _) ⟨w5.heap.size, 0, none⟩ 1 1 [.string x.1, .string x.2.b, .int .i64 x.2.k] rfl rfl (cells_new _ _ _) (by simp [Value.oneCell']) (by unfold maxLen; omega) (by omega) (by simp; omega) ?_; intro v' w6 hown' hgrow _)
          go_roundw
          case rel => exact ⟨k + 1, false, L ++ [x], by omega, by simp, rfl, by rw [List.length_append, if_neg (by simp)]; simp; omega, by rw [HI.out, if_neg (by simp)]; simp, by rw [filesCells_snoc, List.length_append]; exact hown', below_append' hBQ (by omega) hownQ hgrow hBQ.size, below_append hBwQ hszQ hownQ hgrow⟩
          case measure => simp [intOf]; omega
    · obtain rfl : k = s.l.length := by omega
      rw [List.drop_length] at hins
      have hszw : w.heap.size + 1 ≤ wr.heap.size := by have := hBw.size; omega
      cases d with
      | true =>
        rw [if_pos rfl, List.append_nil] at hins
        obtain ⟨a2, c2, rfl⟩ := Rd.val (Rd.of_owns hown)
        obtain ⟨r1, r2⟩ := h.renew hX hn (hown.mono (Nat.le_succ _)) hB
        have HI := Lib.hid hins
        clear hins hLl
        go_wp2
        go_end0
        exact ⟨⟨_, rfl⟩, _, by rw [HI.out]; exact r1, r2⟩
      | false =>
        rw [if_neg (by simp)] at hins hLl
        have hin2 : insL p s.l = L ++ [p] := hins
        have hLs : L.length ≤ 1000000 := by omega
        have HI := Lib.hid hin2
        clear hins hin2 hLl
        go_wp2_with (at_builtin; refine wpList_append_own _ rfl _ _ 62 rfl (w.heap.size + 1) 65 i0 _ 3 40 Try.underlying62 hi hz0 hz1 hz2 rfl (by decide) _ _ _ rfl (hown.alloc _) ⟨wr.heap.size, 0, none⟩ 1 1 [.string p.1, .string p.2.b, .int .i64 p.2.k] rfl rfl (cells_new _ _ _) (by simp [Value.oneCell']) (by unfold maxLen; omega) (by omega) (by simp; omega) ?_; intro v' w6 hown6 hg6 _; have hB6 := below_append' hB (by omega) hown hg6 hB.size; have e1 := (h.blk.below hB6 hR).cell 1; have e2 := (h.blk.below hB6 hR).frozen 1; rw [show L.length + 1 = (L ++ [p]).length from by simp, ← filesCells_snoc, ← HI.out] at hown6; obtain ⟨a2, c2, rfl⟩ := Rd.val (Rd.of_owns hown6); obtain ⟨r1, r2⟩ := h.renew hX hn (hown6.mono (Nat.le_succ _)) hB6; simp only [List.getElem?_toArray, List.getElem?_cons_succ, List.getElem?_cons_zero] at e1; clear hown6 hc1 hf1)
        go_end0
        exact ⟨⟨_, rfl⟩, _, r1, r2⟩
end Go.Proofs.Ytoaegleieacokaa
