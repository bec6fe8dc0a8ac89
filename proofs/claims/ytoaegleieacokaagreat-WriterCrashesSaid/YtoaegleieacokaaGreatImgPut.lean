/- ladelaw22's image: its blocks, put. -/
import Derived.Test.YtoaegleieacokaaGreatDiskBaseM
import Derived.Test.YtoaegleieacokaaGreatWrDropM
import Derived.Deep.QuietTactic
import Derived.BigQuiet
namespace Go.Proofs.YtoaegleieacokaaGreat
open Go.RowKit Go.Shelf

def idV (a n : Nat) : List Value := (segL a n).map (Value.int .i64)
theorem idV_len (a n : Nat) : (idV a n).length = n := by simp [idV, segL_len]
theorem idV_at (a n i : Nat) (h : i < n) : (idV a n)[i]? = some (.int .i64 ((a + i : Nat) : Int)) := by simp [idV, segL, h]
def byV (a : Nat) : List ByteArray → List Value
  | [] => []
  | c :: cs => .string (headB a ++ c) :: byV (a + 1) cs
theorem byV_len : ∀ (a : Nat) (cs : List ByteArray), (byV a cs).length = cs.length
  | _, [] => rfl
  | a, _ :: cs => by rw [byV, List.length_cons, List.length_cons, byV_len]
theorem byV_snoc : ∀ (a : Nat) (cs : List ByteArray) (c : ByteArray), byV a (cs ++ [c]) = byV a cs ++ [.string (headB (a + cs.length) ++ c)]
  | a, [], c => rfl
  | a, x :: cs, c => by
    rw [List.cons_append, byV, byV, byV_snoc, List.cons_append, List.length_cons, show a + 1 + cs.length = a + (cs.length + 1) from by omega]
theorem byV_set (a : Nat) (cs : List ByteArray) (c d : ByteArray) : (byV a (cs ++ [c])).set cs.length (.string (headB (a + cs.length) ++ d)) = byV a (cs ++ [d]) := by
  rw [byV_snoc, byV_snoc, List.set_append_right _ _ (by rw [byV_len]; exact Nat.le_refl _), byV_len, Nat.sub_self]
  rfl
theorem byV_last (a : Nat) (cs : List ByteArray) (c : ByteArray) : (byV a (cs ++ [c]))[cs.length]? = some (.string (headB (a + cs.length) ++ c)) := by
  rw [byV_snoc, List.getElem?_append_right (by rw [byV_len]; exact Nat.le_refl _), byV_len, Nat.sub_self]
  rfl
/-- The image at I: the segments' numbers in block gi, their bytes in block gb. -/
structure Im (n I gi gb : Nat) (lim : Int) (a : Nat) (cs : List ByteArray) (c : ByteArray) (w : World) : Prop where
  hI : n ≤ I
  hi : n ≤ gi
  hb : n ≤ gb
  ne : I ≠ gi ∧ I ≠ gb ∧ gi ≠ gb
  rows : ∃ oi ki ob kb, Blk w I 36 #[.slice (some ⟨gi, oi, none⟩) (cs.length + 1) ki, .slice (some ⟨gb, ob, none⟩) (cs.length + 1) kb, .int .i64 lim] ∧
    RowAt w gi oi (cs.length + 1) ki 3 (idV a (cs.length + 1)) ∧ RowAt w gb ob (cs.length + 1) kb 9 (byV a (cs ++ [c]))
section
variable {n I gi gb : Nat} {lim : Int} {a : Nat} {cs : List ByteArray} {c : ByteArray} {w : World}
theorem Im.kept {w' : World} {bs : List Nat} (h : Im n I gi gb lim a cs c w) (hc : Chg bs w w') (h1 : I ∉ bs) (h2 : gi ∉ bs) (h3 : gb ∉ bs) : Im n I gi gb lim a cs c w' := by
  obtain ⟨oi, ki, ob, kb, r1, r2, r3⟩ := h.rows
  exact ⟨h.hI, h.hi, h.hb, h.ne, oi, ki, ob, kb, (hc.block I r1.lt h1).trans r1, r2.chg hc h2, r3.chg hc h3⟩
theorem Im.next {w' : World} (h : Im n I gi gb lim a cs c w) (hb : Below w.heap.size w w') : Im n I gi gb lim a cs c w' := h.kept (bs := []) (Chg.of_below hb) (by simp) (by simp) (by simp)
set_option maxRecDepth 100000 in
set_option maxHeartbeats 2000000 in
theorem put_in (b : ByteArray) (hcs : cs.length ≤ 1000) (hc : c.size ≤ 1000000) (hb : b.size ≤ 1000000) (hro : ¬ rolls lim c b) (h : Im n I gi gb lim a cs c w) :
    Calls Tryz.prog 11 #[.pointer (some ⟨I, 0, none⟩), .string b] w fun e w' => e = .returned (.agg #[.int .i64 ((a + cs.length : Nat) : Int), .int .i64 (16 + (c.size : Int))]) ∧ Im n I gi gb lim a cs (c ++ b) w' ∧ Chg [gb] w w' := by
  have hB0 : Below w.heap.size w (w.alloc (.cells #[.int .i64 0, .int .i64 0] 40)) := (Below.refl _ w).alloc (Nat.le_refl _) _
  have bP := Blk.new w 40 #[.int .i64 0, .int .i64 0]
  have h0 := h.next hB0
  have hlI : I < w.heap.size := by obtain ⟨_, _, _, _, r1, _⟩ := h.rows; exact r1.lt
  have hlb : gb < w.heap.size := by obtain ⟨_, _, _, _, _, _, r3⟩ := h.rows; exact r3.lt
  have hli : gi < w.heap.size := by obtain ⟨_, _, _, _, _, r2, _⟩ := h.rows; exact r2.lt
  obtain ⟨oi, ki, ob, kb, r1, r2, r3⟩ := h0.rows
  have q0 : (w.alloc (.cells #[.int .i64 0, .int .i64 0] 40)).cell? ⟨I, 0, none⟩ = some (.slice (some ⟨gi, oi, none⟩) (cs.length + 1) ki) := r1.cell 0
  have q1 : (w.alloc (.cells #[.int .i64 0, .int .i64 0] 40)).cell? ⟨I, 1, none⟩ = some (.slice (some ⟨gb, ob, none⟩) (cs.length + 1) kb) := r1.cell 1
  have q2 : (w.alloc (.cells #[.int .i64 0, .int .i64 0] 40)).cell? ⟨I, 2, none⟩ = some (.int .i64 lim) := r1.cell 2
  have q3 := r2.cell (idV_at a (cs.length + 1) cs.length (by omega))
  have q4 := r3.cell (byV_last a cs c)
  have f4 := r3.frozen (ob + cs.length)
  have hsz : (headB (a + cs.length) ++ c).size = 16 + c.size := by rw [app_size, headB_size]
  have hset := r3.set (j := cs.length) (by omega) (.string (headB (a + cs.length) ++ (c ++ b)))
  rw [byV_set] at hset
  rw [← app_assoc] at hset
  have HSET := Lib.hid hset
  have hS : 16 ≤ (headB (a + cs.length) ++ c).size := by omega
  have hS2 : (headB (a + cs.length) ++ c).size ≤ 1000016 := by omega
  have hroS : ¬ (16 < ((headB (a + cs.length) ++ c).size : Int) ∧ lim < ((headB (a + cs.length) ++ c).size : Int) + (b.size : Int)) := fun hh => hro ⟨by omega, by omega⟩
  have hc16 : (16 : Int) + (c.size : Int) = ((headB (a + cs.length) ++ c).size : Int) := by omega
  rw [hc16]
  clear hsz hro hset
  obtain ⟨S, hSE⟩ : ∃ S, headB (a + cs.length) ++ c = S := ⟨_, rfl⟩
  rw [hSE] at hS hS2 hroS hc16 q4
  rw [hSE]
  have HSE := Lib.hid hSE
  clear hSE
  have hw1 : IntKind.i64.wrap ((S.size : Int) + (b.size : Int)) = (S.size : Int) + (b.size : Int) := by rw [IntKind.wrap_i64]; omega
  have hk : (0 : Int) ≤ (cs.length : Int) := by omega
  have hk1 : (cs.length : Int) < (cs.length : Int) + 1 := by omega
  by_cases hA : lim < (S.size : Int) + (b.size : Int)
  · have hB : ¬ 16 < (S.size : Int) := fun hh => hroS ⟨hh, hA⟩
    have dA : decide (lim < (S.size : Int) + (b.size : Int)) = true := decide_eq_true hA
    have dB : decide (16 < (S.size : Int)) = false := decide_eq_false hB
    go_enter Tryz.func11, Tryz.ntmps11
    go_wp2_with fail
    go_quiet (fail)
    go_wp2_with fail
    have hB2 := below_drewN hB0 nq
    have bP2 : Blk ((w.alloc (.cells #[.int .i64 0, .int .i64 0] 40)).drewN nq) w.heap.size 40 #[.int .i64 0, .int .i64 0] := bP
    have s1 : Blk ((w.alloc (.cells #[.int .i64 0, .int .i64 0] 40)).drewN nq) I 36 _ := r1
    have s2 : RowAt ((w.alloc (.cells #[.int .i64 0, .int .i64 0] 40)).drewN nq) gi oi (cs.length + 1) ki 3 (idV a (cs.length + 1)) := r2.kept rfl
    have s3 : RowAt ((w.alloc (.cells #[.int .i64 0, .int .i64 0] 40)).drewN nq) gb ob (cs.length + 1) kb 9 (byV a (cs ++ [c])) := r3.kept rfl
    clear q0 q1 q2 q3 q4 f4 r1 r2 r3 bP HSET hB0 h0
    generalize (w.alloc (.cells #[.int .i64 0, .int .i64 0] 40)).drewN nq = w2 at *
    have q1 : w2.cell? ⟨I, 1, none⟩ = some (.slice (some ⟨gb, ob, none⟩) (cs.length + 1) kb) := s1.cell 1
    have q4 : w2.cell? ⟨gb, ob + cs.length, none⟩ = some (.string S) := by
      have := s3.cell (byV_last a cs c)
      rw [HSE.out] at this
      exact this
    have f4 := s3.frozen (ob + cs.length)
    have hlc : ¬ 9223372036854775807 < S.size + b.size := by omega
    go_region
    have hC : Chg [gb] w2 (w2.setCell ⟨gb, ob + cs.length, none⟩ (.string (S ++ b))).drew := (Chg.setCell (p := ⟨gb, ob + cs.length, none⟩) (by simp) _).trans (Chg.of_below ((Below.refl _ _).drew))
    have t3 : RowAt (w2.setCell ⟨gb, ob + cs.length, none⟩ (.string (S ++ b))).drew gb ob (cs.length + 1) kb 9 (byV a (cs ++ [c ++ b])) := by
      have := s3.set (j := cs.length) (by omega) (.string (headB (a + cs.length) ++ (c ++ b)))
      rw [byV_set, ← app_assoc, HSE.out] at this
      exact this.kept rfl
    have t1 : Blk (w2.setCell ⟨gb, ob + cs.length, none⟩ (.string (S ++ b))).drew I 36 _ := (hC.block I s1.lt (by simp; exact h.ne.2.1)).trans s1
    have t2 := s2.chg hC (by simp; exact h.ne.2.2)
    have bP3 : Blk (w2.setCell ⟨gb, ob + cs.length, none⟩ (.string (S ++ b))).drew w.heap.size 40 _ := (hC.block _ bP2.lt (by simp; omega)).trans bP2
    clear s1 s2 s3 bP2 q1 q4 f4
    generalize (w2.setCell ⟨gb, ob + cs.length, none⟩ (.string (S ++ b))).drew = w3 at *
    have q0 : w3.cell? ⟨I, 0, none⟩ = some (.slice (some ⟨gi, oi, none⟩) (cs.length + 1) ki) := t1.cell 0
    have q3 := t2.cell (idV_at a (cs.length + 1) cs.length (by omega))
    have k0 : w3.cell? ⟨w.heap.size, 0, none⟩ = some (.int .i64 0) := bP3.cell 0
    have k1 : w3.cell? ⟨w.heap.size, 1, none⟩ = some (.int .i64 0) := bP3.cell 1
    have f0 := bP3.frozen 0
    have f1 := bP3.frozen 1
    have hfin := (bP3.set 0 (.int .i64 ((a : Int) + (cs.length : Int)))).set 1 (.int .i64 (S.size : Int))
    have hC4 : Chg [w.heap.size] w3 ((w3.setCell ⟨w.heap.size, 0, none⟩ (.int .i64 ((a : Int) + (cs.length : Int)))).setCell ⟨w.heap.size, 1, none⟩ (.int .i64 (S.size : Int))) := (Chg.setCell (p := ⟨w.heap.size, 0, none⟩) (by simp) _).trans (Chg.setCell (p := ⟨w.heap.size, 1, none⟩) (by simp) _)
    have hCa : Chg [gb] w _ := ((Chg.of_below hB2).trans hC).trans_new hC4 (by simp)
    have hIm : Im n I gi gb lim a cs (c ++ b) _ := ⟨h.hI, h.hi, h.hb, h.ne, oi, ki, ob, kb, (hC4.block I t1.lt (by simp; omega)).trans t1, t2.chg hC4 (by simp; omega), t3.chg hC4 (by simp; omega)⟩
    have r0' : ((w3.setCell ⟨w.heap.size, 0, none⟩ (.int .i64 ((a : Int) + (cs.length : Int)))).setCell ⟨w.heap.size, 1, none⟩ (.int .i64 (S.size : Int))).cell? ⟨w.heap.size, 0, none⟩ = some (.int .i64 ((a : Int) + (cs.length : Int))) := hfin.cell 0
    have r1' : ((w3.setCell ⟨w.heap.size, 0, none⟩ (.int .i64 ((a : Int) + (cs.length : Int)))).setCell ⟨w.heap.size, 1, none⟩ (.int .i64 (S.size : Int))).cell? ⟨w.heap.size, 1, none⟩ = some (.int .i64 (S.size : Int)) := hfin.cell 1
    go_wp2_with fail
    generalize (w3.setCell ⟨w.heap.size, 0, none⟩ (.int .i64 ((a : Int) + (cs.length : Int)))).setCell ⟨w.heap.size, 1, none⟩ (.int .i64 (S.size : Int)) = w4 at *
    exact bodyPost_ret (v := .agg #[.int .i64 ((a : Int) + (cs.length : Int)), .int .i64 (S.size : Int)]) (by simp [results, Tryz.f11, go_sem, r0', r1']) rfl ⟨rfl, hIm, hCa⟩
  · have dA : decide (lim < (S.size : Int) + (b.size : Int)) = false := decide_eq_false hA
    go_enter Tryz.func11, Tryz.ntmps11
    go_wp2_with fail
    go_quiet (fail)
    go_wp2_with fail
    have hB2 := below_drewN hB0 nq
    have bP2 : Blk ((w.alloc (.cells #[.int .i64 0, .int .i64 0] 40)).drewN nq) w.heap.size 40 #[.int .i64 0, .int .i64 0] := bP
    have s1 : Blk ((w.alloc (.cells #[.int .i64 0, .int .i64 0] 40)).drewN nq) I 36 _ := r1
    have s2 : RowAt ((w.alloc (.cells #[.int .i64 0, .int .i64 0] 40)).drewN nq) gi oi (cs.length + 1) ki 3 (idV a (cs.length + 1)) := r2.kept rfl
    have s3 : RowAt ((w.alloc (.cells #[.int .i64 0, .int .i64 0] 40)).drewN nq) gb ob (cs.length + 1) kb 9 (byV a (cs ++ [c])) := r3.kept rfl
    clear q0 q1 q2 q3 q4 f4 r1 r2 r3 bP HSET hB0 h0
    generalize (w.alloc (.cells #[.int .i64 0, .int .i64 0] 40)).drewN nq = w2 at *
    have q1 : w2.cell? ⟨I, 1, none⟩ = some (.slice (some ⟨gb, ob, none⟩) (cs.length + 1) kb) := s1.cell 1
    have q4 : w2.cell? ⟨gb, ob + cs.length, none⟩ = some (.string S) := by
      have := s3.cell (byV_last a cs c)
      rw [HSE.out] at this
      exact this
    have f4 := s3.frozen (ob + cs.length)
    have hlc : ¬ 9223372036854775807 < S.size + b.size := by omega
    go_region
    have hC : Chg [gb] w2 (w2.setCell ⟨gb, ob + cs.length, none⟩ (.string (S ++ b))).drew := (Chg.setCell (p := ⟨gb, ob + cs.length, none⟩) (by simp) _).trans (Chg.of_below ((Below.refl _ _).drew))
    have t3 : RowAt (w2.setCell ⟨gb, ob + cs.length, none⟩ (.string (S ++ b))).drew gb ob (cs.length + 1) kb 9 (byV a (cs ++ [c ++ b])) := by
      have := s3.set (j := cs.length) (by omega) (.string (headB (a + cs.length) ++ (c ++ b)))
      rw [byV_set, ← app_assoc, HSE.out] at this
      exact this.kept rfl
    have t1 : Blk (w2.setCell ⟨gb, ob + cs.length, none⟩ (.string (S ++ b))).drew I 36 _ := (hC.block I s1.lt (by simp; exact h.ne.2.1)).trans s1
    have t2 := s2.chg hC (by simp; exact h.ne.2.2)
    have bP3 : Blk (w2.setCell ⟨gb, ob + cs.length, none⟩ (.string (S ++ b))).drew w.heap.size 40 _ := (hC.block _ bP2.lt (by simp; omega)).trans bP2
    clear s1 s2 s3 bP2 q1 q4 f4
    generalize (w2.setCell ⟨gb, ob + cs.length, none⟩ (.string (S ++ b))).drew = w3 at *
    have q0 : w3.cell? ⟨I, 0, none⟩ = some (.slice (some ⟨gi, oi, none⟩) (cs.length + 1) ki) := t1.cell 0
    have q3 := t2.cell (idV_at a (cs.length + 1) cs.length (by omega))
    have k0 : w3.cell? ⟨w.heap.size, 0, none⟩ = some (.int .i64 0) := bP3.cell 0
    have k1 : w3.cell? ⟨w.heap.size, 1, none⟩ = some (.int .i64 0) := bP3.cell 1
    have f0 := bP3.frozen 0
    have f1 := bP3.frozen 1
    have hfin := (bP3.set 0 (.int .i64 ((a : Int) + (cs.length : Int)))).set 1 (.int .i64 (S.size : Int))
    have hC4 : Chg [w.heap.size] w3 ((w3.setCell ⟨w.heap.size, 0, none⟩ (.int .i64 ((a : Int) + (cs.length : Int)))).setCell ⟨w.heap.size, 1, none⟩ (.int .i64 (S.size : Int))) := (Chg.setCell (p := ⟨w.heap.size, 0, none⟩) (by simp) _).trans (Chg.setCell (p := ⟨w.heap.size, 1, none⟩) (by simp) _)
    have hCa : Chg [gb] w _ := ((Chg.of_below hB2).trans hC).trans_new hC4 (by simp)
    have hIm : Im n I gi gb lim a cs (c ++ b) _ := ⟨h.hI, h.hi, h.hb, h.ne, oi, ki, ob, kb, (hC4.block I t1.lt (by simp; omega)).trans t1, t2.chg hC4 (by simp; omega), t3.chg hC4 (by simp; omega)⟩
    have r0' : ((w3.setCell ⟨w.heap.size, 0, none⟩ (.int .i64 ((a : Int) + (cs.length : Int)))).setCell ⟨w.heap.size, 1, none⟩ (.int .i64 (S.size : Int))).cell? ⟨w.heap.size, 0, none⟩ = some (.int .i64 ((a : Int) + (cs.length : Int))) := hfin.cell 0
    have r1' : ((w3.setCell ⟨w.heap.size, 0, none⟩ (.int .i64 ((a : Int) + (cs.length : Int)))).setCell ⟨w.heap.size, 1, none⟩ (.int .i64 (S.size : Int))).cell? ⟨w.heap.size, 1, none⟩ = some (.int .i64 (S.size : Int)) := hfin.cell 1
    go_wp2_with fail
    generalize (w3.setCell ⟨w.heap.size, 0, none⟩ (.int .i64 ((a : Int) + (cs.length : Int)))).setCell ⟨w.heap.size, 1, none⟩ (.int .i64 (S.size : Int)) = w4 at *
    exact bodyPost_ret (v := .agg #[.int .i64 ((a : Int) + (cs.length : Int)), .int .i64 (S.size : Int)]) (by simp [results, Tryz.f11, go_sem, r0', r1']) rfl ⟨rfl, hIm, hCa⟩
end
end Go.Proofs.YtoaegleieacokaaGreat
