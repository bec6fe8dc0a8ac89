/- Make and Write of a writer whose files are known. -/
import Derived.Test.YtoaegleieacokaaGreatKnown22
import Derived.Test.YtoaegleieacokaaGreatWriteR
namespace Go.Proofs.YtoaegleieacokaaGreat
open Go.RowKit Go.Shelf

/-- A writer at B, its segments from a on: cs, and c, which is written. -/
structure Wg (n : Nat) (W : World) (D M B : Nat) (X : List Nat) (lim N : Int) (a : Nat) (cs : List ByteArray) (c : ByteArray) (s : DS) (w : World) : Prop where
  wk : Wk n W D M B X s lim (segL a (cs.length + 1)) (16 + (c.size : Int)) w
  u : Uns N s
  img : Img s a (cs ++ [c])
section
variable {n : Nat} {W : World} {D M B : Nat} {X : List Nat} {lim N : Int} {a : Nat} {cs : List ByteArray} {c : ByteArray} {s : DS} {w : World}
theorem Wg.next {w' : World} (h : Wg n W D M B X lim N a cs c s w) (hb : Below w.heap.size w w') : Wg n W D M B X lim N a cs c s w' := ⟨h.wk.next hb, h.u, h.img⟩
theorem Wg.up {K : Int} (h : Wg n W D M B X lim N a cs c s w) (hk : N ≤ K) : Wg n W D M B X lim K a cs c s w := ⟨h.wk, h.u.up hk, h.img⟩
/-- Make, where there is room. -/
theorem make_g (limit : Int) (hu : Uns N s) (hN : N < 4611686018427360000) (hl : s.l.length < 890) (hr : (used s.l : Int) + 22 ≤ s.room) (hX : ∀ b ∈ X, b < w.heap.size) (h : Dk n W D M s w) :
    Calls Tryz.prog 8 #[.pointer (some ⟨D, 0, none⟩), .int .i64 limit] w fun e w' => ∃ B s', e = .returned (.tuple #[.pointer (some ⟨B, 0, none⟩), .int .i64 0]) ∧ Wg n W D M B X (limN limit) (N + 16) 1 [] ⟨#[]⟩ s' w' ∧
      s'.room = s.room ∧ s'.l.length ≤ s.l.length + 2 ∧ used s'.l ≤ used s.l + 22 := by
  obtain ⟨s', e1, u1, r1, n1, g1, z1, _⟩ := mk_u hu hl hr
  exact (make_dk hu.fit hN limit e1 hX h).mono fun e w' ⟨B, he, hk⟩ => ⟨B, s', he, ⟨hk, u1, g1⟩, r1, n1, z1⟩
/-- A segment has to be begun. -/
def rolls (lim : Int) (c b : ByteArray) : Prop := 0 < c.size ∧ lim < 16 + (c.size : Int) + (b.size : Int)
instance (lim : Int) (c b : ByteArray) : Decidable (rolls lim c b) := inferInstanceAs (Decidable (_ ∧ _))
/-- What Write tells, and what there is behind it. -/
inductive Wrote (lim : Int) (a : Nat) (cs : List ByteArray) (c b : ByteArray) (s s' : DS) : Int → Value → List ByteArray → ByteArray → Prop
  | put : ¬ rolls lim c b → used s'.l ≤ used s.l + b.size → (Only s a (cs.length + 1) → Only s' a (cs.length + 1)) → Wrote lim a cs c b s s' 0 (.agg #[.int .i64 ((a + cs.length : Nat) : Int), .int .i64 (16 + (c.size : Int))]) cs (c ++ b)
  | begun : rolls lim c b → used s'.l ≤ used s.l + 2030 + b.size → (Only s a (cs.length + 1) → Only s' a (cs.length + 2)) → Wrote lim a cs c b s s' 0 (.agg #[.int .i64 ((a + cs.length + 1 : Nat) : Int), .int .i64 16]) (cs ++ [c]) b
  | full : s.room < (used s.l : Int) + 5000 → Wrote lim a cs c b s s' 17 (.agg #[.int .i64 0, .int .i64 0]) cs c
  | half : s.room < (used s.l : Int) + 5000 → Wrote lim a cs c b s s' 17 (.agg #[.int .i64 0, .int .i64 0]) (cs ++ [c]) ⟨#[]⟩
theorem write_g (hN : N < 4611686018427340000) (ha : 1 ≤ a) (hb : a + cs.length + 3 ≤ 99999999) (h200 : cs.length + 3 ≤ 200) (hlen : s.l.length < 890) (hlim : 0 ≤ lim ∧ lim ≤ 1000000) (hc : c.size ≤ 900000) (b : ByteArray) (hb0 : 0 < b.size) (hb1 : b.size ≤ 2084) (h : Wg n W D M B X lim N a cs c s w) :
    Calls Tryz.prog 10 #[.pointer (some ⟨B, 0, none⟩), .string b] w fun x w' => ∃ e p cs' c' s', x = .returned (.tuple #[p, .int .i64 e]) ∧ Wg n W D M B X lim (N + 30) a cs' c' s' w' ∧ Wrote lim a cs c b s s' e p cs' c' ∧
      s'.room = s.room ∧ s'.l.length ≤ s.l.length + 4 ∧ Chg [B, D, M] w w' := by
  have hlen1 := segL_len a (cs.length + 1)
  have hpos := segL_pos (a := a) (k := cs.length + 1) ha
  have hlast : lastI (segL a (cs.length + 1)) = ((a + cs.length : Nat) : Int) := by rw [segL_last a _ (by omega)]; congr 1
  have hid : idN (((a + cs.length : Nat) : Int)) = a + cs.length := idN_nat (by omega) (by omega)
  by_cases hro : 16 < 16 + (c.size : Int) ∧ lim - (b.size : Int) < 16 + (c.size : Int)
  · have hrl : rolls lim c b := ⟨by omega, by omega⟩
    have hl2 : segL a (cs.length + 1) ++ [lastI (segL a (cs.length + 1)) + 1] = segL a (cs.length + 1 + 1) := by
      rw [segL_succ a (cs.length + 1), hlast]
      congr 2
    have hL : isL (segL a (cs.length + 1) ++ [lastI (segL a (cs.length + 1)) + 1]) = true := by
      rw [hl2]
      exact isL_segL ha (by omega) (by omega) (by omega)
    obtain ⟨er, s1, e1, u1, r1, n1, x1⟩ := img_begin h.u h.img ha (by omega) (by omega) hlen
    rcases x1 with ⟨rfl, g1, z1, p1⟩ | ⟨rfl, g1, z1⟩
    · obtain ⟨e, s2, e2, u2, r2, n2, o2, x2⟩ := img_app u1 g1 (by simp; omega) b
      have hlast2 : lastI (segL a (cs.length + 1 + 1)) = ((a + cs.length + 1 : Nat) : Int) := by rw [segL_last a _ (by omega)]; congr 1
      have hid2 : idN (((a + cs.length + 1 : Nat) : Int)) = a + cs.length + 1 := idN_nat (by omega) (by omega)
      have hln : (cs ++ [c]).length = cs.length + 1 := by simp
      rw [hln] at e2
      have hw := write_roll h.u.fit (by omega) (by omega) hL (by rw [hlast]; omega) (by omega) hlim b hb0 hb1 hpos hro e1 hl2 (e := e) (s' := s2) (by rw [hlast2, hid2]; exact e2) h.wk
      rw [hlast2] at hw
      refine hw.mono ?_
      rintro x w' ⟨rfl, hk, hC⟩
      rcases x2 with ⟨rfl, g2, z2, p2⟩ | ⟨rfl, rfl, z2⟩
      · rw [empty_app] at g2
        refine ⟨0, _, cs ++ [c], b, s2, rfl, ⟨?_, u2.up (by omega), g2⟩, .begun hrl (by omega) (fun ho => by rw [hln] at p2; exact p2 (p1 ho)), by omega, by omega, hC⟩
        rw [hln]
        exact hk
      · refine ⟨17, _, cs ++ [c], ⟨#[]⟩, s2, rfl, ⟨?_, u2.up (by omega), g1⟩, .half (by omega), by omega, by omega, hC⟩
        rw [hln]
        exact hk
    · have hw := write_no h.u.fit (by omega) (by omega) hL (by rw [hlast]; omega) (by omega) hlim b hb0 hb1 hpos hro e1 (by decide) h.wk
      refine hw.mono ?_
      rintro x w' ⟨rfl, hk, hC⟩
      exact ⟨17, _, cs, c, s1, rfl, ⟨hk, u1.up (by omega), g1⟩, .full (by omega), by omega, by omega, hC⟩
  · have hrl : ¬ rolls lim c b := fun hr => hro ⟨by have := hr.1; omega, by have := hr.2; omega⟩
    obtain ⟨e, s2, e2, u2, r2, n2, o2, x2⟩ := img_app h.u h.img (by omega) b
    have hw := write_in h.u.fit (by omega) (by omega) (by omega) (by omega) hlim b hb0 hb1 hpos hro (e := e) (s' := s2) (by rw [hlast, hid]; exact e2) h.wk
    rw [hlast] at hw
    refine hw.mono ?_
    rintro x w' ⟨rfl, hk, hC⟩
    rcases x2 with ⟨rfl, g2, z2, p2⟩ | ⟨rfl, rfl, z2⟩
    · refine ⟨0, _, cs, c ++ b, s2, rfl, ⟨?_, u2.up (by omega), g2⟩, .put hrl (by omega) p2, by omega, by omega, hC⟩
      rw [zAdd_ok] at hk
      rw [show (16 + ((c ++ b).size : Int)) = 16 + (c.size : Int) + (b.size : Int) from by rw [app_size]; omega]
      exact hk
    · exact ⟨17, _, cs, c, s2, rfl, ⟨hk, u2.up (by omega), h.img⟩, .full (by omega), by omega, by omega, hC⟩
theorem size_g (h : Wg n W D M B X lim N a cs c s w) : Calls Tryz.prog 17 #[.pointer (some ⟨B, 0, none⟩)] w fun e w' => e = .returned (.int .i64 (16 + (c.size : Int))) ∧ w' = w := wsize_wk h.wk
theorem limit_g (h : Wg n W D M B X lim N a cs c s w) : Calls Tryz.prog 18 #[.pointer (some ⟨B, 0, none⟩)] w fun e w' => e = .returned (.int .i64 lim) ∧ w' = w := wlimit_wk h.wk
theorem segs_g (hl : cs.length ≤ 200) (h : Wg n W D M B X lim N a cs c s w) : Calls Tryz.prog 16 #[.pointer (some ⟨B, 0, none⟩)] w fun e w' => ∃ A C, e = .returned (.slice (some A) (cs.length + 1) C) ∧ Rd w' w'.heap.size 1 (.slice (some A) (cs.length + 1) C) (cs.length + 1) ((segL a (cs.length + 1)).map (Value.int .i64)) ∧ Wg n W D M B X lim N a cs c s w' ∧ Below w.heap.size w w' := by
  have hlen := segL_len a (cs.length + 1)
  refine (wsegs_wk (by omega) (by omega) h.wk).mono ?_
  rintro e w' ⟨v', rfl, ho, hB⟩
  rw [hlen] at ho
  obtain ⟨g, C, rfl⟩ := ownsRow_succ ho
  exact ⟨_, C, rfl, Rd.of_owns ho, h.next hB, hB⟩
end
end Go.Proofs.YtoaegleieacokaaGreat
