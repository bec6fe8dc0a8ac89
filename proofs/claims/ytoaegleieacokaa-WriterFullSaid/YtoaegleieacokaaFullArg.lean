/- WriterFull: bytes behind one another; a letter; zero bytes. -/
import Derived.Test.YtoaegleieacokaaWrArg
import Derived.Test.YtoaegleieacokaaHeadB
import Derived.Deep.RegionHeld3
namespace Go.Proofs.Ytoaegleieacokaa
open Go.RowKit Go.Shelf

/-- Bytes behind one another. -/
def cat (l : List ByteArray) : ByteArray := l.foldl (· ++ ·) ⟨#[]⟩
theorem cat_snoc (l : List ByteArray) (x : ByteArray) : cat (l ++ [x]) = cat l ++ x := by simp [cat, List.foldl_append]
theorem cat_take {l : List ByteArray} {k : Nat} (h : k < l.length) : cat (l.take (k + 1)) = cat (l.take k) ++ l[k] := by rw [List.take_succ_eq_append_getElem h, cat_snoc]
theorem body_cut {H Z : ByteArray} (h : H.size = 16) : (H ++ Z).extract 16 (H ++ Z).size = Z := by
  apply WideShapes.bytes_inj
  have hs : H.data.toList.length = 16 := h
  have hz : (H ++ Z).size = 16 + Z.data.toList.length := by rw [app_size, h]; rfl
  rw [hz, ByteArray.data_extract, ByteArray.data_append, Array.toList_extract, Array.toList_append]
  show ((H.data.toList ++ Z.data.toList).drop 16).take (16 + Z.data.toList.length - 16) = _
  rw [← hs, List.drop_left, Nat.add_sub_cancel_left, List.take_length]
theorem Img.get {s : DS} {a : Nat} {cs : List ByteArray} (h : Img s a cs) {k : Nat} (hk : k < cs.length) : ∃ kp : Int, fk s.l (nameB (a + k)) = some ⟨headB (a + k) ++ cs[k], kp⟩ := by
  obtain ⟨kp, h1, _⟩ := h.seg k cs[k] (List.getElem?_eq_getElem hk)
  exact ⟨kp, h1⟩
theorem cat_take_le : ∀ (l : List ByteArray) (k : Nat), (cat (l.take k)).size ≤ (cat l).size
  | l, 0 => by simp [cat, show (⟨#[]⟩ : ByteArray).size = 0 from rfl]
  | l, k + 1 => by
    by_cases h : k + 1 ≤ l.length
    · have h2 : cat l = cat (l.take (k + 1)) ++ cat (l.drop (k + 1)) := by
        have key : ∀ (m : List ByteArray) (x y : ByteArray), m.foldl (· ++ ·) (x ++ y) = x ++ m.foldl (· ++ ·) y := by
          intro m
          induction m with
          | nil => intro x y; rfl
          | cons a m ih => intro x y; rw [List.foldl_cons, List.foldl_cons, app_assoc, ih]
        have h3 := List.take_append_drop (k + 1) l
        rw [← h3]
        unfold cat
        rw [List.foldl_append, h3]
        have := key (l.drop (k + 1)) ((l.take (k + 1)).foldl (· ++ ·) ⟨#[]⟩) ⟨#[]⟩
        rw [app_empty] at this
        exact this
      rw [h2, app_size]
      omega
    · rw [List.take_of_length_le (by omega)]
      exact Nat.le_refl _
/-- What Write has made of all that was written. -/
theorem wrote_cat {a : Nat} {cs cs' : List ByteArray} {c c' b : ByteArray} {s s' : DS} {e : Int} {p : Value} (h : Wrote 2100 a cs c b s s' e p cs' c') (hb : b.size ≤ 2084) (hs : ∀ x ∈ cs ++ [c], x.size ≤ 2084) :
    ((e = 0 ∧ cat (cs ++ [c]) ++ b = cat (cs' ++ [c'])) ∨ (e = 17 ∧ cat (cs ++ [c]) = cat (cs' ++ [c']))) ∧ cs'.length ≤ cs.length + 1 ∧ (∀ x ∈ cs' ++ [c'], x.size ≤ 2084) ∧ ∃ u v : Int, p = .agg #[.int .i64 u, .int .i64 v] := by
  have hc : c.size ≤ 2084 := hs c (by simp)
  have hcs : ∀ x ∈ cs, x.size ≤ 2084 := fun x hx => hs x (by simp [hx])
  cases h with
  | put hro _ =>
    refine ⟨.inl ⟨rfl, by rw [cat_snoc, cat_snoc, app_assoc]⟩, by omega, fun x hx => ?_, _, _, rfl⟩
    rcases List.mem_append.1 hx with hx | hx
    · exact hcs x hx
    · rw [List.mem_singleton.1 hx, app_size]
      by_cases h0 : 0 < c.size
      · have : ¬ 2100 < 16 + (c.size : Int) + (b.size : Int) := fun h => hro ⟨h0, h⟩
        omega
      · omega
  | begun hro _ =>
    refine ⟨.inl ⟨rfl, (cat_snoc _ _).symm⟩, by simp, fun x hx => ?_, _, _, rfl⟩
    rcases List.mem_append.1 hx with hx | hx
    · exact hs x hx
    · rw [List.mem_singleton.1 hx]
      exact hb
  | full _ => exact ⟨.inr ⟨rfl, rfl⟩, by omega, hs, _, _, rfl⟩
  | half _ =>
    refine ⟨.inr ⟨rfl, by rw [cat_snoc (cs ++ [c]), app_empty]⟩, by simp, fun x hx => ?_, _, _, rfl⟩
    rcases List.mem_append.1 hx with hx | hx
    · exact hs x hx
    · rw [List.mem_singleton.1 hx]
      exact Nat.zero_le _
theorem segL_at (a k i : Nat) (h : i < (segL a k).length) : (segL a k)[i] = ((a + i : Nat) : Int) := by simp [segL]
/-- The letter. -/
theorem zeros_made (n : Nat) (hn : n ≤ 2000) (w : World) : (Instr.makeSlice 29 (.int .i64 (n : Int)) (.int .i64 (n : Int))).run Try.prog w = .ok (.slice (some ⟨w.heap.size, 0, none⟩) n n) (w.alloc (.cells (madeCells #[.int .u8 0] n) 5)) := by
  obtain ⟨i0, hi0, hz0, hz1, hz2⟩ := info_parts infoU8
  have := run_makeSlice w 29 5 i0 _ Try.underlying29 hi0 hz0 .i64 .i64 (n : Int) (n : Int) (by omega) (by omega) (by rw [hz1]; simp; omega) (by rw [hz2]; omega) (by omega)
  rw [this, hz1]
  simp [Value.cells]
theorem zeros_conv (n : Nat) (w : World) (g : Nat) (h : Blk w g 5 (madeCells #[.int .u8 0] n)) : (convert 29 9 (.slice (some ⟨g, 0, none⟩) n n)).run Try.prog w = .ok (.string (zerosB n)) w := by
  have hc : ∀ j (hj : j < (List.replicate n (0 : UInt8)).length), w.cell? ((⟨g, 0, none⟩ : Addr).add j) = some (.int .u8 ((List.replicate n (0 : UInt8))[j].toNat : Int)) := by
    intro j hj
    rw [Go.WideShapes.add_plain, Nat.zero_add, h.cell j]
    have hj' : j < n := by simpa using hj
    rw [Array.getElem?_eq_getElem (by rw [size_madeCells]; omega)]
    simp [madeCells, Nat.mod_one]
  have := run_convert_bytes_back (P := Try.prog) w 29 9 5 ⟨g, 0, none⟩ n (List.replicate n 0) Try.underlying29 Try.underlying5 Try.underlying9 hc
  rwa [List.length_replicate] at this
theorem one_conv (m : Nat) (hm : m < 256) (w : World) (g : Nat) (h : Blk w g 5 #[.int .u8 (m : Int)]) : (convert 29 9 (.slice (some ⟨g, 0, none⟩) 1 1)).run Try.prog w = .ok (.string ⟨#[UInt8.ofNat m]⟩) w := by
  have hc : ∀ j (hj : j < [UInt8.ofNat m].length), w.cell? ((⟨g, 0, none⟩ : Addr).add j) = some (.int .u8 ([UInt8.ofNat m][j].toNat : Int)) := by
    intro j hj
    obtain rfl : j = 0 := by simpa using hj
    rw [Go.WideShapes.add_plain, Nat.zero_add, h.cell 0]
    simp
    omega
  exact run_convert_bytes_back (P := Try.prog) w 29 9 5 ⟨g, 0, none⟩ 1 [UInt8.ofNat m] Try.underlying29 Try.underlying5 Try.underlying9 hc
end Go.Proofs.Ytoaegleieacokaa
