/- WriterPlays: few; a writer whose given blocks are turned; Make on a new disk: no other files. WriterPlays: the writer, its disk, the image beside it, step by step. -/
import Derived.Test.YtoaegleieacokaaGreatBaseM
import Derived.Test.YtoaegleieacokaaGreatImgRoll
import Derived.Test.YtoaegleieacokaaGreatImgOn
namespace Go.Proofs.YtoaegleieacokaaGreat
open Go.RowKit Go.Shelf

section
variable {n : Nat} {W : World} {D M B : Nat} {X : List Nat} {s : DS} {lim size : Int} {l : List Int} {w : World}
theorem Wk.turn {w1 : World} {Y X' : List Nat} (h : Wk n W D M B X s lim l size w) (hc : Chg Y w w1) (hY : ∀ y ∈ Y, y ∈ X) (hn : ∀ y ∈ Y, n ≤ y) (hd : D ∉ Y ∧ M ∉ Y ∧ B ∉ Y) (hX : ∀ x ∈ X', (x ∈ X ∨ w.heap.size ≤ x) ∧ x < w1.heap.size) : Wk n W D M B X' s lim l size w1 := by
  obtain ⟨v, h1, a, c, rfl, hl, h2⟩ := h.wr
  refine ⟨⟨h.dk.at'.chg hc hd.1 hd.2.1, h.dk.below.trans (hc.below h.dk.size hn), h.dk.hD, h.dk.hM, h.dk.ok⟩, h.hB, h.ne, fun b hb => (hX b hb).2, _, (hc.block B h1.lt hd.2.2).trans h1, a, c, rfl, hl, fun h0 => ?_⟩
  obtain ⟨b, off, rfl, hb, hbX, hcs⟩ := h2 h0
  simp only [List.mem_cons, not_or] at hbX
  refine ⟨b, off, rfl, Nat.lt_of_lt_of_le hb hc.size, ?_, fun j hj => hc.cell (fun hm => hbX.2.2.2 (hY b hm)) hb (hcs j hj)⟩
  simp only [List.mem_cons, not_or]
  refine ⟨hbX.1, hbX.2.1, hbX.2.2.1, fun hm => ?_⟩
  rcases (hX b hm).1 with h3 | h3
  · exact hbX.2.2.2 h3
  · omega
theorem make_only (limit room : Int) (hr : 22 ≤ (newDS room).room) (hX : ∀ b ∈ X, b < w.heap.size) (h : Dk n W D M (newDS room) w) :
    Calls Tryz.prog 8 #[.pointer (some ⟨D, 0, none⟩), .int .i64 limit] w fun e w' => ∃ B s', e = .returned (.tuple #[.pointer (some ⟨B, 0, none⟩), .int .i64 0]) ∧ Wg n W D M B X (limN limit) (0 + 16) 1 [] ⟨#[]⟩ s' w' ∧ Only s' 1 1 ∧
      s'.room = (newDS room).room ∧ s'.l.length ≤ 2 ∧ used s'.l ≤ 22 := by
  obtain ⟨s', e1, u1, r1, n1, g1, z1, o1⟩ := mk_u (uns_new room) (by rw [show (newDS room).l.length = 0 from rfl]; omega) (by rw [show used (newDS room).l = 0 from rfl]; omega)
  exact (make_dk (uns_new room).fit (by decide) limit e1 hX h).mono fun e w' ⟨B, he, hk⟩ => ⟨B, s', he, ⟨hk, u1, g1⟩, ⟨fun k h1 h2 => o1 k (h1 0 (by omega)) h2 rfl⟩, r1, n1, z1⟩
end
def FewOk (l : List Wt) : Prop := l.length ≤ 20 ∧ ∀ k (hk : k < l.length), l[k].b.size ≤ 2100
set_option maxRecDepth 100000 in
set_option maxHeartbeats 1000000 in
theorem few_calls (a : Option Addr) (c : Nat) (l : List Wt) (hl : l.length ≤ maxLen) (w : World) (rd : Rd w w.heap.size 3 (.slice a l.length c) l.length (l.flatMap Wt.cells)) :
    Calls Tryz.prog 6 #[.slice a l.length c] w fun e w' => ∃ r : Bool, e = .returned (.bool r) ∧ (r = true → FewOk l) ∧ Below w.heap.size w w' := by
  unfold maxLen at hl
  go_enter Tryz.func6, Tryz.ntmps6
  go_wp2_with fail
  go_loopw [3, 4] (fun n i wr => ∃ (k : Nat) (v : Int), k ≤ l.length ∧ i = .int .i64 k ∧ n = .int .i64 v ∧ Below w.heap.size w wr ∧ ∀ j (hj : j < l.length), j < k → l[j].b.size ≤ 2100) (fun _ i _ => l.length - (intOf i).toNat)
  case atStart => exact ⟨0, 0, Nat.zero_le _, rfl, rfl, Below.refl _ _, fun _ _ h => by omega⟩
  case round =>
    obtain ⟨k, v, hk, rfl, rfl, hB, hsm⟩ := hrel
    by_cases hlt : k < l.length
    · obtain ⟨b, off, rfl, hb, q0, q1, q2⟩ := wt_cells ((rd.below hB (Nat.le_refl _)).up hB.size) k hlt
      have hnext : l[k].b.size ≤ 2100 → ∀ j (hj : j < l.length), j < k + 1 → l[j].b.size ≤ 2100 := fun hx j hj hjk => by
        by_cases e : j = k
        · subst e; exact hx
        · exact hsm j hj (by omega)
      have HN := Lib.hid hnext
      clear hnext hsm
      generalize l[k] = x at *
      by_cases hx : 2100 < x.b.size
      · have dx : decide (2100 < (x.b.size : Int)) = true := decide_eq_true (by omega)
        go_wp2_with fail
        go_ret
        exact ⟨false, rfl, by simp, hB⟩
      · have dx : decide (2100 < (x.b.size : Int)) = false := decide_eq_false (by omega)
        have hz : (0 : Int) ≤ (k : Int) := by omega
        have hz2 : (k : Int) < (l.length : Int) := by omega
        have H2 := Lib.hid (HN.out (by omega))
        clear HN
        go_wp2_with fail
        go_quiet (fail)
        go_wp2_with fail
        go_roundw
        case rel => exact ⟨k + 1, _, by omega, by simp, rfl, below_drewN hB nq, H2.out⟩
        case measure => simp [intOf]; omega
    · obtain rfl : k = l.length := by omega
      by_cases h20 : l.length ≤ 20
      · have d20 : decide ((l.length : Int) ≤ 20) = true := decide_eq_true (by omega)
        have HS : Hid (FewOk l) := Lib.hid ⟨h20, fun j hj => hsm j hj hj⟩
        clear hsm
        go_wp2
        go_ret
        exact ⟨_, rfl, fun _ => HS.out, hB⟩
      · have d20 : decide ((l.length : Int) ≤ 20) = false := decide_eq_false (by omega)
        clear hsm
        go_wp2
        go_ret
        exact ⟨false, rfl, by simp, hB⟩
end Go.Proofs.YtoaegleieacokaaGreat
namespace Go.Proofs.YtoaegleieacokaaGreat
open Go.RowKit Go.Shelf

/-- The writer at B and the image at I hold the same; K steps were done at most. -/
structure Pl (n : Nat) (W : World) (D M I : Nat) (lim : Int) (K B gi gb a : Nat) (cs : List ByteArray) (c : ByteArray) (s : DS) (N : Int) (w : World) : Prop where
  g : Wg n W D M B [I, gi, gb] lim N a cs c s w
  im : Im n I gi gb lim a cs c w
  only : Only s a (cs.length + 1)
  room : s.room = 1000000
  lim : 0 ≤ lim ∧ lim ≤ 1000000
  ha : 1 ≤ a
  hac : a + cs.length ≤ 1 + K
  hc : c.size ≤ 2084 * K
  hl : s.l.length ≤ 10 + 4 * K
  hu : used s.l ≤ 100 + 4114 * K
  hN : N ≤ 100 + 30 * (K : Int)
section
variable {n : Nat} {W : World} {D M I : Nat} {lim : Int} {K B gi gb a : Nat} {cs : List ByteArray} {c : ByteArray} {s : DS} {N : Int} {w : World}
theorem Pl.next {w' : World} (h : Pl n W D M I lim K B gi gb a cs c s N w) (hb : Below w.heap.size w w') : Pl n W D M I lim K B gi gb a cs c s N w' :=
  ⟨h.g.next hb, h.im.next hb, h.only, h.room, h.lim, h.ha, h.hac, h.hc, h.hl, h.hu, h.hN⟩
theorem Pl.up {J : Nat} (h : Pl n W D M I lim K B gi gb a cs c s N w) (hk : K ≤ J) : Pl n W D M I lim J B gi gb a cs c s N w :=
  ⟨h.g, h.im, h.only, h.room, h.lim, h.ha, by have := h.hac; omega, Nat.le_trans h.hc (Nat.mul_le_mul_left _ hk), by have := h.hl; omega, by have := h.hu; omega, by have := h.hN; omega⟩
theorem im_aside (hw : Wk n W D M B [I, gi, gb] s lim (segL a (cs.length + 1)) (16 + (c.size : Int)) w) {a2 : Nat} {cs2 : List ByteArray} {c2 : ByteArray} {lim2 : Int} (hi : Im n I gi gb lim2 a2 cs2 c2 w) : I ∉ [B, D, M] ∧ gi ∉ [B, D, M] ∧ gb ∉ [B, D, M] := by
  obtain ⟨oi, ki, ob, kb, r1, r2, r3⟩ := hi.rows
  obtain ⟨_, b2, _⟩ := r2.blk
  obtain ⟨_, b3, _⟩ := r3.blk
  obtain ⟨v, hB, _⟩ := hw.wr
  have x1 := blk_aside r1 (by decide) hw.dk.at'
  have x2 := blk_aside b2 (by decide) hw.dk.at'
  have x3 := blk_aside b3 (by decide) hw.dk.at'
  have y1 : I ≠ B := fun e => by subst e; have := r1.symm.trans hB; simp at this
  have y2 : gi ≠ B := fun e => by subst e; have := b2.symm.trans hB; simp at this
  have y3 : gb ≠ B := fun e => by subst e; have := b3.symm.trans hB; simp at this
  simp only [List.mem_cons, List.not_mem_nil, or_false, not_or]
  exact ⟨⟨y1, x1⟩, ⟨y2, x2⟩, ⟨y3, x3⟩⟩
theorem Im.lts {a2 : Nat} {cs2 : List ByteArray} {c2 : ByteArray} (hi : Im n I gi gb lim a2 cs2 c2 w) : I < w.heap.size ∧ gi < w.heap.size ∧ gb < w.heap.size := by
  obtain ⟨oi, ki, ob, kb, r1, r2, r3⟩ := hi.rows
  exact ⟨r1.lt, r2.lt, r3.lt⟩
/-- The writer has written b, the image not yet. -/
structure PlMid (n : Nat) (W : World) (D M I : Nat) (lim : Int) (K B gi gb a : Nat) (cs : List ByteArray) (c b : ByteArray) (x1 y1 : Int) (cs' : List ByteArray) (c' : ByteArray) (s : DS) (N : Int) (w : World) : Prop where
  g : Wg n W D M B [I, gi, gb] lim N a cs' c' s w
  im : Im n I gi gb lim a cs c w
  how : (¬ rolls lim c b ∧ cs' = cs ∧ c' = c ++ b ∧ x1 = ((a + cs.length : Nat) : Int) ∧ y1 = 16 + (c.size : Int)) ∨ (rolls lim c b ∧ cs' = cs ++ [c] ∧ c' = b ∧ x1 = ((a + cs.length + 1 : Nat) : Int) ∧ y1 = 16)
  only : Only s a (cs'.length + 1)
  room : s.room = 1000000
  lim : 0 ≤ lim ∧ lim ≤ 1000000
  ha : 1 ≤ a
  hac : a + cs.length ≤ 1 + K
  hc : c.size ≤ 2084 * K
  hb : b.size ≤ 2084
  hl : s.l.length ≤ 10 + 4 * (K + 1)
  hu : used s.l ≤ 100 + 4114 * (K + 1)
  hN : N ≤ 100 + 30 * ((K : Int) + 1)
theorem write_pl (hK : K ≤ 190) (b : ByteArray) (hb0 : 0 < b.size) (hb1 : b.size ≤ 2084) (h : Pl n W D M I lim K B gi gb a cs c s N w) :
    Calls Tryz.prog 10 #[.pointer (some ⟨B, 0, none⟩), .string b] w fun x w' => ∃ x1 y1 cs' c' s' N', x = .returned (.tuple #[.agg #[.int .i64 x1, .int .i64 y1], .int .i64 0]) ∧ PlMid n W D M I lim K B gi gb a cs c b x1 y1 cs' c' s' N' w' ∧ Chg [B, D, M] w w' := by
  have h1 := h.hac; have h2 := h.hc; have h3 := h.hl; have h4 := h.hu; have h5 := h.hN; have h6 := h.room; have h7 := h.ha; have h8 := h.lim
  refine (write_g (by omega) h7 (by omega) (by omega) (by omega) h8 (by omega) b hb0 hb1 h.g).mono ?_
  rintro x w' ⟨e, p, cs', c', s', rfl, hg, hw, r, l, hC⟩
  have him : Im n I gi gb lim a cs c w' := by
    obtain ⟨i1, i2, i3⟩ := im_aside h.g.wk h.im
    exact h.im.kept hC i1 i2 i3
  cases hw with
  | put hro z o => exact ⟨_, _, _, _, s', N + 30, rfl, ⟨hg, him, .inl ⟨hro, rfl, rfl, rfl, rfl⟩, o h.only, by omega, h8, h7, h1, h2, hb1, by omega, by omega, by omega⟩, hC⟩
  | begun hro z o => exact ⟨_, _, _, _, s', N + 30, rfl, ⟨hg, him, .inr ⟨hro, rfl, rfl, rfl, rfl⟩, by rw [List.length_append]; exact o h.only, by omega, h8, h7, h1, h2, hb1, by omega, by omega, by omega⟩, hC⟩
  | full bad => omega
  | half bad => omega
theorem PlMid.next {b : ByteArray} {x1 y1 : Int} {cs' : List ByteArray} {c' : ByteArray} {w' : World} (h : PlMid n W D M I lim K B gi gb a cs c b x1 y1 cs' c' s N w) (hB : Below w.heap.size w w') : PlMid n W D M I lim K B gi gb a cs c b x1 y1 cs' c' s N w' :=
  ⟨h.g.next hB, h.im.next hB, h.how, h.only, h.room, h.lim, h.ha, h.hac, h.hc, h.hb, h.hl, h.hu, h.hN⟩
theorem put_mid {b : ByteArray} {x1 y1 : Int} {cs' : List ByteArray} {c' : ByteArray} (hK : K ≤ 190) (h : PlMid n W D M I lim K B gi gb a cs c b x1 y1 cs' c' s N w) :
    Calls Tryz.prog 11 #[.pointer (some ⟨I, 0, none⟩), .string b] w fun e w' => e = .returned (.agg #[.int .i64 x1, .int .i64 y1]) ∧ (∃ gi' gb', Pl n W D M I lim (K + 1) B gi' gb' a cs' c' s N w') ∧ Chg [I, gi, gb] w w' := by
  have h1 := h.hac; have h2 := h.hc; have h3 := h.hl; have h4 := h.hu; have h5 := h.hN; have h6 := h.room; have h7 := h.ha; have h8 := h.lim; have h9 := h.hb
  obtain ⟨i1, i2, i3⟩ := im_aside h.g.wk h.im
  have hl := h.im.lts
  simp only [List.mem_cons, List.not_mem_nil, or_false, not_or] at i1 i2 i3
  rcases h.how with ⟨hro, rfl, rfl, rfl, rfl⟩ | ⟨hro, rfl, rfl, rfl, rfl⟩
  · refine (put_in b (by omega) (by omega) (by omega) hro h.im).mono ?_
    rintro e w' ⟨rfl, hi, hC⟩
    have hk := h.g.wk.turn (X' := [I, gi, gb]) hC (by simp) (by simp; exact h.im.hb) ⟨by simp; exact fun e => i3.2.1 e.symm, by simp; exact fun e => i3.2.2 e.symm, by simp; exact fun e => i3.1 e.symm⟩ (fun x hx => ⟨.inl hx, by
      have := hC.size
      simp only [List.mem_cons, List.not_mem_nil, or_false] at hx
      rcases hx with rfl | rfl | rfl <;> omega⟩)
    exact ⟨rfl, ⟨gi, gb, ⟨hk, h.g.u, h.g.img⟩, hi, h.only, h6, h8, h7, by omega, by rw [app_size]; omega, h3, by omega, by omega⟩, hC.more (by simp)⟩
  · refine (put_roll c' h7 (by omega) (by omega) (by omega) (by omega) hro h.im).mono ?_
    rintro e w' ⟨gi', gb', rfl, hi, hC, g1, g2⟩
    have hl' := hi.lts
    have hk := h.g.wk.turn (X' := [I, gi', gb']) hC (fun _ hy => hy) (by simp; exact ⟨h.im.hI, h.im.hi, h.im.hb⟩) ⟨by simp; exact ⟨fun e => i1.2.1 e.symm, fun e => i2.2.1 e.symm, fun e => i3.2.1 e.symm⟩, by simp; exact ⟨fun e => i1.2.2 e.symm, fun e => i2.2.2 e.symm, fun e => i3.2.2 e.symm⟩, by simp; exact ⟨fun e => i1.1 e.symm, fun e => i2.1 e.symm, fun e => i3.1 e.symm⟩⟩ (fun x hx => by
      simp only [List.mem_cons, List.not_mem_nil, or_false] at hx ⊢
      rcases hx with rfl | rfl | rfl
      · exact ⟨by simp, hl'.1⟩
      · exact ⟨by rcases g1 with e | e; exact .inl (.inr (.inl e)); exact .inr e, hl'.2.1⟩
      · exact ⟨by rcases g2 with e | e; exact .inl (.inr (.inr e)); exact .inr e, hl'.2.2⟩)
    exact ⟨rfl, ⟨gi', gb', ⟨hk, h.g.u, h.g.img⟩, hi, h.only, h6, h8, h7, by rw [List.length_append]; simp; omega, by omega, h3, by omega, by omega⟩, hC⟩
theorem sync_pl (hK : K ≤ 190) (h : Pl n W D M I lim K B gi gb a cs c s N w) :
    Calls Tryz.prog 12 #[.pointer (some ⟨B, 0, none⟩)] w fun e w' => e = .returned (.int .i64 0) ∧ ∃ s' N', Pl n W D M I lim (K + 1) B gi gb a cs c s' N' w' := by
  have h1 := h.hac; have h2 := h.hc; have h3 := h.hl; have h4 := h.hu; have h5 := h.hN; have h6 := h.room; have h7 := h.ha; have h8 := h.lim
  refine (sync_g (by omega) h7 (by omega) (by omega) h.g).mono ?_
  rintro e w' ⟨rfl, s', hg, r, l, z, o, hC⟩
  obtain ⟨i1, i2, i3⟩ := im_aside h.g.wk h.im
  exact ⟨rfl, s', N + 1, hg, h.im.kept (hC.more (cs := [B, D, M]) (by simp)) i1 i2 i3, o h.only, by omega, h8, h7, by omega, by omega, by omega, by omega, by omega⟩
theorem on_pl (limit : Int) (hlim : limN limit = lim) {oi ki : Nat} (hK : K ≤ 190) (hr : RowAt w gi oi (cs.length + 1) ki 3 (idV a (cs.length + 1))) (h : Pl n W D M I lim K B gi gb a cs c s N w) :
    Calls Tryz.prog 14 #[.pointer (some ⟨D, 0, none⟩), .int .i64 limit, .slice (some ⟨gi, oi, none⟩) (cs.length + 1) ki] w fun x w' => ∃ B', x = .returned (.tuple #[.pointer (some ⟨B', 0, none⟩), .int .i64 0]) ∧ Pl n W D M I lim (K + 1) B' gi gb a cs c s N w' := by
  have h1 := h.hac; have h2 := h.hc; have h3 := h.hl; have h4 := h.hu; have h5 := h.hN; have h6 := h.room; have h7 := h.ha; have h8 := h.lim
  have hl := h.im.lts
  refine (on_g (X := [I, gi, gb]) limit (some ⟨gi, oi, none⟩) ki h7 (by omega) (by omega) (hr.rd hl.2.1) (fun y hy => by
    simp only [List.mem_cons, List.not_mem_nil, or_false] at hy
    rcases hy with rfl | rfl | rfl <;> omega) h.g).mono ?_
  rintro x w' ⟨B', rfl, hg, hB⟩
  rw [hlim] at hg
  exact ⟨B', rfl, hg, h.im.next hB, h.only, h6, h8, h7, by omega, by omega, by omega, by omega, by omega⟩
theorem drop1_pl (hcs : cs = []) (h : Pl n W D M I lim K B gi gb a cs c s N w) : Calls Tryz.prog 13 #[.pointer (some ⟨B, 0, none⟩)] w fun e w' => e = .returned (.tuple #[.int .i64 0, .int .i64 22]) ∧ w' = w := by
  subst hcs
  exact drop1_g h.g
/-- The writer has dropped, the image not yet. -/
structure PlCut (n : Nat) (W : World) (D M I : Nat) (lim : Int) (K B gi gb a : Nat) (x : ByteArray) (cs : List ByteArray) (c : ByteArray) (s : DS) (N : Int) (w : World) : Prop where
  g : Wg n W D M B [I, gi, gb] lim N (a + 1) cs c s w
  im : Im n I gi gb lim a (x :: cs) c w
  only : Only s (a + 1) (cs.length + 1)
  room : s.room = 1000000
  lim : 0 ≤ lim ∧ lim ≤ 1000000
  ha : 1 ≤ a
  hac : a + cs.length ≤ K
  hc : c.size ≤ 2084 * K
  hl : s.l.length ≤ 10 + 4 * (K + 1)
  hu : used s.l ≤ 100 + 4114 * (K + 1)
  hN : N ≤ 100 + 30 * ((K : Int) + 1)
set_option maxRecDepth 10000 in
theorem drop_pl {x : ByteArray} (hK : K ≤ 190) (h : Pl n W D M I lim K B gi gb a (x :: cs) c s N w) :
    Calls Tryz.prog 13 #[.pointer (some ⟨B, 0, none⟩)] w fun e w' => e = .returned (.tuple #[.int .i64 a, .int .i64 0]) ∧ ∃ s' N', PlCut n W D M I lim K B gi gb a x cs c s' N' w' := by
  have h1 := h.hac; have h2 := h.hc; have h3 := h.hl; have h4 := h.hu; have h5 := h.hN; have h6 := h.room; have h7 := h.ha; have h8 := h.lim
  rw [List.length_cons] at h1
  have ho := h.only
  rw [List.length_cons] at ho
  refine (drop_g (by omega) h7 (by omega) (by omega) (by omega) (by omega) ho h.g).mono ?_
  rintro e w' ⟨rfl, s', hg, r, l, z, o, hC⟩
  obtain ⟨i1, i2, i3⟩ := im_aside h.g.wk h.im
  exact ⟨rfl, s', N + 6, hg, h.im.kept hC i1 i2 i3, o, by omega, h8, h7, by omega, h2, by omega, by omega, by omega⟩
theorem idV_cons (a n : Nat) : idV a (n + 1) = .int .i64 (a : Int) :: idV (a + 1) n := by
  unfold idV
  rw [segL_cons, List.map_cons]
set_option maxRecDepth 10000 in
/-- The image drops its first segment. -/
theorem PlCut.done {x : ByteArray} {oi ki ob kb : Nat} (h : PlCut n W D M I lim K B gi gb a x cs c s N w) (r1 : Blk w I 36 #[.slice (some ⟨gi, oi, none⟩) ((x :: cs).length + 1) ki, .slice (some ⟨gb, ob, none⟩) ((x :: cs).length + 1) kb, .int .i64 lim])
    (r2 : RowAt w gi oi ((x :: cs).length + 1) ki 3 (idV a ((x :: cs).length + 1))) (r3 : RowAt w gb ob ((x :: cs).length + 1) kb 9 (byV a (x :: cs ++ [c]))) :
    Pl n W D M I lim (K + 1) B gi gb (a + 1) cs c s N ((w.setCell ⟨I, 0, none⟩ (.slice (some ⟨gi, oi + 1, none⟩) (cs.length + 1) (ki - 1))).setCell ⟨I, 1, none⟩ (.slice (some ⟨gb, ob + 1, none⟩) (cs.length + 1) (kb - 1))) := by
  have h1 := h.hac; have h2 := h.hc; have h3 := h.hl; have h4 := h.hu; have h5 := h.hN; have h6 := h.room; have h7 := h.ha; have h8 := h.lim
  obtain ⟨i1, i2, i3⟩ := im_aside h.g.wk h.im
  simp only [List.mem_cons, List.not_mem_nil, or_false, not_or] at i1 i2 i3
  have hCI : Chg [I] w ((w.setCell ⟨I, 0, none⟩ (.slice (some ⟨gi, oi + 1, none⟩) (cs.length + 1) (ki - 1))).setCell ⟨I, 1, none⟩ (.slice (some ⟨gb, ob + 1, none⟩) (cs.length + 1) (kb - 1))) := (Chg.setCell (p := ⟨I, 0, none⟩) (by simp) _).trans (Chg.setCell (p := ⟨I, 1, none⟩) (by simp) _)
  have hl := h.im.lts
  have hk := h.g.wk.turn (X' := [I, gi, gb]) hCI (by simp) (by simp; exact h.im.hI) ⟨by simp; exact fun e => i1.2.1 e.symm, by simp; exact fun e => i1.2.2 e.symm, by simp; exact fun e => i1.1 e.symm⟩ (fun x hx => ⟨.inl hx, by
    have := hCI.size
    simp only [List.mem_cons, List.not_mem_nil, or_false] at hx
    rcases hx with rfl | rfl | rfl <;> omega⟩)
  rw [List.length_cons, idV_cons] at r2
  rw [List.cons_append, byV, List.length_cons] at r3
  exact ⟨⟨hk, h.g.u, h.g.img⟩, ⟨h.im.hI, h.im.hi, h.im.hb, h.im.ne, oi + 1, ki - 1, ob + 1, kb - 1, (r1.set 0 _).set 1 _, r2.tail.chg hCI (by simp; exact h.im.ne.1.symm), r3.tail.chg hCI (by simp; exact h.im.ne.2.1.symm)⟩, h.only, h6, h8, by omega, by omega, by omega, h3, by omega, by omega⟩
end
end Go.Proofs.YtoaegleieacokaaGreat
