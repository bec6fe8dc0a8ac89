/- Words that all texts of this work share: how slices are read, what a round of a loop keeps. No function of the program is named here. -/
import Derived.RangeFuncNested
import Derived.RangeFuncBound
import Derived.RangeFuncCalls
import Derived.RangeFuncLeaves
import Derived.Shelf.Abstract
import Derived.Shelf.RegionOpen
import Derived.WalkKit
import Derived.OwnWalkIn
import Derived.TacticsInMore
import Derived.LoopNIn
import Derived.LoopIn
import Derived.Maps.AppendAt
import Derived.Lib.Hide
import Derived.Outline
import Derived.WalkSmall
namespace Go.Proofs.Ytoaegleieacokaa
open Go.RowKit Go.Shelf

/-- What lies below n₀ lies as it lay, and so do the blocks of bs. -/
structure Keep (n₀ : Nat) (bs : List Nat) (W W' : World) : Prop where
  below : Below n₀ W W'
  same : ∀ b, b ∈ bs → W'.heap[b]? = W.heap[b]?

theorem Keep.refl (n₀ : Nat) (bs : List Nat) (W : World) : Keep n₀ bs W W := ⟨Below.refl _ _, fun _ _ => rfl⟩
theorem Keep.trans {n₀ : Nat} {bs : List Nat} {A B C : World} (h : Keep n₀ bs A B) (k : Keep n₀ bs B C) : Keep n₀ bs A C :=
  ⟨h.below.trans k.below, fun b hb => (k.same b hb).trans (h.same b hb)⟩
theorem keep_b {n₀ : Nat} {bs : List Nat} {w : World} (hn : n₀ ≤ w.heap.size) (hbs : ∀ b, b ∈ bs → b < w.heap.size) (W : World) (l : Nat) (o o' : Obj) (hl : w.heap.size ≤ l) (h : W.heap[l]? = some o) (_ : o.isCells = false) (_ : o.isWalk = false) : Keep n₀ bs W (W.putObj l o') :=
  ⟨(Below.refl n₀ W).grown (grownBy_putObj' W l o') (by have := (Array.getElem?_eq_some_iff.1 h).1; omega) (fun k e => by cases e; omega),
   fun b hb => World.putObj_heap_other (by have := hbs b hb; omega)⟩
theorem Keep.cell {n₀ : Nat} {bs : List Nat} {A B : World} (h : Keep n₀ bs A B) {p : Addr} (hb : p.block ∈ bs) : B.cell? p = A.cell? p := World.cell?_of_block (h.same _ hb)

theorem Keep.setCell {n₀ : Nat} {bs : List Nat} {A B : World} (h : Keep n₀ bs A B) {p : Addr} (hp : n₀ ≤ p.block) (hb : p.block ∉ bs) (u : Value) : Keep n₀ bs A (B.setCell p u) :=
  ⟨h.below.setCell hp u, fun b hb' => (Below.heap_setCell _ _ _ _ (fun e => hb (e ▸ hb'))).trans (h.same b hb')⟩
theorem Keep.alloc {n₀ : Nat} {bs : List Nat} {A B : World} (h : Keep n₀ bs A B) (hn : n₀ ≤ B.heap.size) (hb : ∀ b, b ∈ bs → b < B.heap.size) (o : Obj) : Keep n₀ bs A (B.alloc o) :=
  ⟨h.below.alloc hn o, fun b hb' => (Below.heap_alloc _ _ _ (hb b hb')).trans (h.same b hb')⟩
/-- What lies below m, the blocks of bs among it, lies as it lay. -/
theorem Keep.of_below {n₀ m : Nat} {bs : List Nat} {A B : World} (h : Below m A B) (hn : n₀ ≤ m) (hb : ∀ b, b ∈ bs → b < m) : Keep n₀ bs A B := ⟨h.mono hn, fun b hb' => h.block b (hb b hb')⟩

/-- The slice value v, of n elements of sz cells each, reads as the cells cs; it lies below n₀. -/
def Rd (W : World) (n₀ sz : Nat) (v : Value) (n : Nat) (cs : List Value) : Prop :=
  cs.length = n * sz ∧ ∃ a cap, v = .slice a n cap ∧ n ≤ cap ∧ (0 < n → ∃ b off, a = some ⟨b, off, none⟩ ∧ b < n₀ ∧ ∀ j, j < n * sz → W.cell? ⟨b, off + j, none⟩ = cs[j]?)

theorem Rd.below {W W' : World} {m n₀ sz n : Nat} {v : Value} {cs : List Value} (h : Rd W n₀ sz v n cs) (hb : Below m W W') (hm : n₀ ≤ m) : Rd W' n₀ sz v n cs := by
  obtain ⟨hl, a, cap, hv, hcap, hc⟩ := h
  refine ⟨hl, a, cap, hv, hcap, fun hn => ?_⟩
  obtain ⟨b, off, ha, hlt, hc⟩ := hc hn
  exact ⟨b, off, ha, hlt, fun j hj => (hb.cell (p := ⟨b, off + j, none⟩) (by simp; omega)).trans (hc j hj)⟩
theorem Rd.up {W : World} {n₀ m sz n : Nat} {v : Value} {cs : List Value} (h : Rd W n₀ sz v n cs) (hm : n₀ ≤ m) : Rd W m sz v n cs := by
  obtain ⟨hl, a, cap, hv, hcap, hc⟩ := h
  refine ⟨hl, a, cap, hv, hcap, fun hn => ?_⟩
  obtain ⟨b, off, ha, hlt, hc⟩ := hc hn
  exact ⟨b, off, ha, Nat.lt_of_lt_of_le hlt hm, hc⟩
theorem Rd.val {W : World} {n₀ sz n : Nat} {v : Value} {cs : List Value} (h : Rd W n₀ sz v n cs) : ∃ a c, v = .slice a n c := by
  obtain ⟨_, a, cap, hv, _⟩ := h
  exact ⟨a, cap, hv⟩
theorem Rd.len {W : World} {n₀ sz n : Nat} {v : Value} {cs : List Value} (h : Rd W n₀ sz v n cs) : cs.length = n * sz := h.1
theorem Rd.cap {W : World} {n₀ sz n c : Nat} {a : Option Addr} {cs : List Value} (h : Rd W n₀ sz (.slice a n c) n cs) : n ≤ c := by
  obtain ⟨_, a', cap, hv, hcap, _⟩ := h
  simp only [Value.slice.injEq] at hv
  omega
/-- Where there is an element there is a block. -/
theorem Rd.at {W : World} {n₀ sz n c : Nat} {a : Option Addr} {cs : List Value} (h : Rd W n₀ sz (.slice a n c) n cs) (hn : 0 < n) :
    ∃ b off, a = some ⟨b, off, none⟩ ∧ b < n₀ ∧ cs.length = n * sz ∧ ∀ j, j < n * sz → W.cell? ⟨b, off + j, none⟩ = cs[j]? := by
  obtain ⟨hl, a', cap, hv, hcap, hc⟩ := h
  simp only [Value.slice.injEq] at hv
  obtain ⟨rfl, _, rfl⟩ := hv
  obtain ⟨b, off, ha, hlt, hc⟩ := hc hn
  exact ⟨b, off, ha, hlt, hl, hc⟩
theorem Rd.news {W : World} {n₀ sz n c : Nat} {ad : Addr} {cs : List Value} (h : Rd W n₀ sz (.slice (some ad) n c) n cs) : ∀ j u, cs[j]? = some u → W.cell? (ad.add j) = some u := by
  intro j u hu
  have hj : j < n * sz := by rw [← h.len]; exact (List.getElem?_eq_some_iff.1 hu).1
  have hn : 0 < n := by rcases Nat.eq_zero_or_pos n with h0 | h0; (subst h0; simp at hj); exact h0
  obtain ⟨b, off, ha, _, _, hc⟩ := h.at hn
  obtain rfl : ad = ⟨b, off, none⟩ := by simpa using ha
  rw [Go.WideShapes.add_plain, hc j hj, hu]
/-- Where there is no block there is no element. -/
theorem Rd.zero {W : World} {n₀ sz n c : Nat} {cs : List Value} (h : Rd W n₀ sz (.slice none n c) n cs) : n = 0 := by
  rcases Nat.eq_zero_or_pos n with h0 | h0
  · exact h0
  · obtain ⟨b, off, ha, _⟩ := h.at h0
    simp at ha
/-- What the call owns reads so. -/
theorem Rd.of_owns {W : World} {base : Nat} {e : TypeId} {sz : Nat} {v : Value} {n : Nat} {xs : List Value} (h : W.ownsRow base e sz v n xs) : Rd W W.heap.size sz v n xs := by
  obtain ⟨hl, h2⟩ := h
  rcases h2 with ⟨rfl, rfl⟩ | ⟨g, cap, cur, rfl, hg, hh, r⟩
  · exact ⟨by simpa using hl, _, _, rfl, Nat.le_refl _, fun h => by omega⟩
  · refine ⟨hl, _, cap, rfl, r.1, fun _ => ⟨g, 0, rfl, (Array.getElem?_eq_some_iff.1 hh).1, fun j hj => ?_⟩⟩
    rw [Nat.zero_add]
    exact World.ownsRow.cellAt (base := base) (e := e) ⟨hl, .inr ⟨g, cap, cur, rfl, hg, hh, r⟩⟩ j hj
theorem Rd.nil (W : World) (n₀ sz : Nat) : Rd W n₀ sz (.slice none 0 0) 0 [] := ⟨by simp, _, _, rfl, Nat.le_refl _, fun h => by omega⟩

/-- A fact that no tactic takes apart. -/
structure Bx (p : Prop) : Prop where
  h : p
/-- A cell that lay below n lies as it lay, behind a call that keeps what was there. -/
theorem kept_cell {n : Nat} {w0 w w1 : World} {p : Addr} {v : Value} (h1 : Below w.heap.size w w1) (h0 : Bx (Below n w0 w)) (hn : n ≤ w0.heap.size) (hp : p.block < n) (hc : w.cell? p = some v) : w1.cell? p = some v :=
  (h1.cell (Nat.lt_of_lt_of_le hp (Nat.le_trans hn h0.h.size))).trans hc
theorem kept_below {n : Nat} {w0 w w1 : World} (h1 : Below w.heap.size w w1) (h0 : Bx (Below n w0 w)) (hn : n ≤ w0.heap.size) : Bx (Below n w0 w1) := ⟨h0.h.trans (h1.mono (Nat.le_trans hn h0.h.size))⟩

theorem Rd.now {W W' : World} {m sz n : Nat} {v : Value} {cs : List Value} (h : Rd W m sz v n cs) (hb : Bx (Below m W W')) (hm : m ≤ W.heap.size) : Rd W' W'.heap.size sz v n cs := (h.below hb.h (Nat.le_refl _)).up (Nat.le_trans hm hb.h.size)

/-- The slice v reads as the numbers l. -/
def Ints (W : World) (n₀ : Nat) (v : Value) (l : List Int) : Prop := Rd W n₀ 1 v l.length (l.map (Value.int .i64))
theorem Ints.cell {W : World} {n₀ c : Nat} {a : Option Addr} {l : List Int} (h : Ints W n₀ (.slice a l.length c) l) (hl : 0 < l.length) :
    ∃ b off, a = some ⟨b, off, none⟩ ∧ b < n₀ ∧ ∀ k (hk : k < l.length), W.cell? ⟨b, off + k, none⟩ = some (.int .i64 l[k]) := by
  obtain ⟨b, off, ha, hb, _, hc⟩ := Rd.at h hl
  refine ⟨b, off, ha, hb, fun k hk => ?_⟩
  rw [hc k (by omega)]
  simp [hk]
theorem Ints.below {W W' : World} {m n₀ : Nat} {v : Value} {l : List Int} (h : Ints W n₀ v l) (hb : Below m W W') (hm : n₀ ≤ m) : Ints W' n₀ v l := Rd.below h hb hm
theorem Ints.up {W : World} {m n₀ : Nat} {v : Value} {l : List Int} (h : Ints W n₀ v l) (hm : n₀ ≤ m) : Ints W m v l := Rd.up h hm
theorem Ints.of_owns {W : World} {base : Nat} {e : TypeId} {v : Value} {l : List Int} (h : W.ownsRow base e 1 v l.length (l.map (Value.int .i64))) : Ints W W.heap.size v l := Rd.of_owns h

theorem owns_below {W W' : World} {base : Nat} {e : TypeId} {sz : Nat} {v : Value} {n : Nat} {xs : List Value} (h : W.ownsRow base e sz v n xs) (hb : Below W.heap.size W W') : W'.ownsRow base e sz v n xs := by
  obtain ⟨hl, h⟩ := h
  refine ⟨hl, ?_⟩
  rcases h with h | ⟨g, cap, cur, h1, h2, h3, h4⟩
  · exact .inl h
  · exact .inr ⟨g, cap, cur, h1, h2, (hb.block g (Array.getElem?_eq_some_iff.1 h3).1).trans h3, h4⟩
/-- Behind an append to a row of the call's own. -/
theorem below_append {n₀ : Nat} {w wr w1 : World} {e : TypeId} {sz : Nat} {v : Value} {n : Nat} {xs : List Value} {o : Obj} (hB : Below n₀ w wr) (hn : n₀ ≤ wr.heap.size) (h : wr.ownsRow n₀ e sz v n xs) (hg : (wr.alloc o).grownBy w1 v.ownBlock) : Below n₀ w w1 :=
  (hB.alloc hn _).grown hg (by simp; omega) (fun j e => (h.lt j e).1)

/-- Two rows of the call's own, of unlike types, are two blocks. -/
theorem rows_apart {W : World} {base base' e e' sz sz' n n' : Nat} {v u : Value} {xs ys : List Value} (h : W.ownsRow base e sz v n xs) (k : W.ownsRow base' e' sz' u n' ys) (hne : e ≠ e') : v.ownBlock = none ∨ v.ownBlock ≠ u.ownBlock := by
  rcases h.2 with ⟨rfl, _⟩ | ⟨g, cap, cur, rfl, _, hg, _⟩
  · exact .inl rfl
  · rcases k.2 with ⟨rfl, _⟩ | ⟨g', cap', cur', rfl, _, hg', _⟩
    · exact .inr (by simp [Value.ownBlock])
    · refine .inr (fun e1 => ?_)
      obtain rfl : g = g' := by simpa [Value.ownBlock] using e1
      rw [hg] at hg'
      simp at hg'
      exact hne hg'.2
/-- .. so that an append to the one leaves the other as it is. -/
theorem owns_other {W w1 : World} {base base' e e' sz sz' n n' : Nat} {v u : Value} {xs ys : List Value} {o : Obj} (h : W.ownsRow base e sz v n xs) (k : W.ownsRow base' e' sz' u n' ys) (hne : e' ≠ e) (hg : (W.alloc o).grownBy w1 v.ownBlock) : w1.ownsRow base' e' sz' u n' ys :=
  (k.alloc o).kept hg (rows_apart k h hne)

theorem owns_base {W : World} {base m : Nat} {e : TypeId} {sz : Nat} {v : Value} {n : Nat} {xs : List Value} (h : W.ownsRow base e sz v n xs) (hm : m ≤ base) : W.ownsRow m e sz v n xs := by
  obtain ⟨hl, h⟩ := h
  refine ⟨hl, ?_⟩
  rcases h with h | ⟨g, cap, cur, h1, h2, h3⟩
  · exact .inl h
  · exact .inr ⟨g, cap, cur, h1, Nat.le_trans hm h2, h3⟩

/-- Block B is a row of the cells cs, of type t, nothing of it frozen. -/
def Blk (W : World) (B : Nat) (t : TypeId) (cs : Array Value) : Prop := W.heap[B]? = some (.cells cs t (0, 0))
theorem Blk.lt {W : World} {B : Nat} {t : TypeId} {cs : Array Value} (h : Blk W B t cs) : B < W.heap.size := (Array.getElem?_eq_some_iff.1 h).1
theorem Blk.cell {W : World} {B : Nat} {t : TypeId} {cs : Array Value} (h : Blk W B t cs) (j : Nat) : W.cell? ⟨B, j, none⟩ = cs[j]? := by simp [World.cell?, show W.heap[B]? = _ from h]
theorem Blk.frozen {W : World} {B : Nat} {t : TypeId} {cs : Array Value} (h : Blk W B t cs) (j : Nat) : W.frozen? ⟨B, j, none⟩ = false := by simp [World.frozen?, show W.heap[B]? = _ from h]
theorem Blk.new (W : World) (t : TypeId) (cs : Array Value) : Blk (W.alloc (.cells cs t)) W.heap.size t cs := World.alloc_heap_new W _
theorem Blk.kept {W W' : World} {row : Option Nat} {B : Nat} {t : TypeId} {cs : Array Value} (h : Blk W B t cs) (hg : W.grownBy W' row) (hne : some B ≠ row) : Blk W' B t cs := (hg.block B h.lt hne).trans h
theorem Blk.alloc {W : World} {B : Nat} {t : TypeId} {cs : Array Value} (h : Blk W B t cs) (o : Obj) : Blk (W.alloc o) B t cs := h.kept (World.grownBy_alloc W o none) (by simp)
theorem Blk.below {W W' : World} {m B : Nat} {t : TypeId} {cs : Array Value} (h : Blk W B t cs) (hb : Below m W W') (hm : B < m) : Blk W' B t cs := (hb.block B hm).trans h
theorem Blk.other {W : World} {B : Nat} {t : TypeId} {cs : Array Value} (h : Blk W B t cs) {p : Addr} (hne : B ≠ p.block) (u : Value) : Blk (W.setCell p u) B t cs := (Below.heap_setCell _ _ _ _ hne).trans h
theorem blk_own {β : Type} (B : Nat) (t : TypeId) (f : β → Array Value) : Own (fun s W => Blk W B t (f s)) := fun s X Y row hs hg hrow =>
  hs.kept hg (fun e' => by obtain ⟨o, ho, hc⟩ := hrow B e'.symm; rw [show X.heap[B]? = _ from hs] at ho; cases ho; cases hc)
theorem cells_new (w : World) (xs : List Value) (t : TypeId) : ∀ j u, xs[j]? = some u → (w.alloc (.cells xs.toArray t)).cell? ((⟨w.heap.size, 0, none⟩ : Addr).add j) = some u := by
  intro j u hj
  have e : (⟨w.heap.size, 0, none⟩ : Addr).add j = ⟨w.heap.size, j, none⟩ := by simp only [Addr.add, Nat.zero_add]; split <;> simp_all
  rw [e, (Blk.new w t xs.toArray).cell j]
  simpa using hj
end Go.Proofs.Ytoaegleieacokaa
