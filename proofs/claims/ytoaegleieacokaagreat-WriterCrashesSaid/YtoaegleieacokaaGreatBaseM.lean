/- Words that all texts of this work share: how slices are read, what a round of a loop keeps. No function of the program is named here. How a slice that came in as an argument reads: as the list of its elements' cells, whatever the element type. No function of the program is named here. How a slice of the writer's steps that came in reads. -/
import Derived.RangeFuncNested
import Derived.RangeFuncBound
import Derived.RangeFuncCalls
import Derived.RangeFuncLeaves
import Derived.Shelf.Abstract
import Derived.Shelf.RegionOpen
import Derived.WalkKit
import Derived.OwnWalkIn
import Derived.TacticsInMore
import Derived.LoopNIn
import Derived.LoopIn
import Derived.Maps.AppendAt
import Derived.Lib.Hide
import Derived.Outline
import Derived.WalkSmall
import Derived.ProofKit
import Derived.OpenShut
import Derived.ShutString
import Derived.ChangeOld
import Derived.Deep.Slices
import Derived.Deep.Fields
import Derived.Test.YtoaegleieacokaaGreatProg
namespace Go.Proofs.YtoaegleieacokaaGreat
open Go.RowKit Go.Shelf

/-- What lies below n₀ lies as it lay, and so do the blocks of bs. -/
structure Keep (n₀ : Nat) (bs : List Nat) (W W' : World) : Prop where
  below : Below n₀ W W'
  same : ∀ b, b ∈ bs → W'.heap[b]? = W.heap[b]?

theorem Keep.refl (n₀ : Nat) (bs : List Nat) (W : World) : Keep n₀ bs W W := ⟨Below.refl _ _, fun _ _ => rfl⟩
theorem Keep.trans {n₀ : Nat} {bs : List Nat} {A B C : World} (h : Keep n₀ bs A B) (k : Keep n₀ bs B C) : Keep n₀ bs A C :=
  ⟨h.below.trans k.below, fun b hb => (k.same b hb).trans (h.same b hb)⟩
theorem keep_b {n₀ : Nat} {bs : List Nat} {w : World} (hn : n₀ ≤ w.heap.size) (hbs : ∀ b, b ∈ bs → b < w.heap.size) (W : World) (l : Nat) (o o' : Obj) (hl : w.heap.size ≤ l) (h : W.heap[l]? = some o) (_ : o.isCells = false) (_ : o.isWalk = false) : Keep n₀ bs W (W.putObj l o') :=
  ⟨(Below.refl n₀ W).grown (grownBy_putObj' W l o') (by have := (Array.getElem?_eq_some_iff.1 h).1; omega) (fun k e => by cases e; omega),
   fun b hb => World.putObj_heap_other (by have := hbs b hb; omega)⟩
theorem Keep.cell {n₀ : Nat} {bs : List Nat} {A B : World} (h : Keep n₀ bs A B) {p : Addr} (hb : p.block ∈ bs) : B.cell? p = A.cell? p := World.cell?_of_block (h.same _ hb)

theorem Keep.setCell {n₀ : Nat} {bs : List Nat} {A B : World} (h : Keep n₀ bs A B) {p : Addr} (hp : n₀ ≤ p.block) (hb : p.block ∉ bs) (u : Value) : Keep n₀ bs A (B.setCell p u) :=
  ⟨h.below.setCell hp u, fun b hb' => (Below.heap_setCell _ _ _ _ (fun e => hb (e ▸ hb'))).trans (h.same b hb')⟩
theorem Keep.alloc {n₀ : Nat} {bs : List Nat} {A B : World} (h : Keep n₀ bs A B) (hn : n₀ ≤ B.heap.size) (hb : ∀ b, b ∈ bs → b < B.heap.size) (o : Obj) : Keep n₀ bs A (B.alloc o) :=
  ⟨h.below.alloc hn o, fun b hb' => (Below.heap_alloc _ _ _ (hb b hb')).trans (h.same b hb')⟩
/-- What lies below m, the blocks of bs among it, lies as it lay. -/
theorem Keep.of_below {n₀ m : Nat} {bs : List Nat} {A B : World} (h : Below m A B) (hn : n₀ ≤ m) (hb : ∀ b, b ∈ bs → b < m) : Keep n₀ bs A B := ⟨h.mono hn, fun b hb' => h.block b (hb b hb')⟩

/-- The slice value v, of n elements of sz cells each, reads as the cells cs; it lies below n₀. -/
def Rd (W : World) (n₀ sz : Nat) (v : Value) (n : Nat) (cs : List Value) : Prop :=
  cs.length = n * sz ∧ ∃ a cap, v = .slice a n cap ∧ n ≤ cap ∧ (0 < n → ∃ b off, a = some ⟨b, off, none⟩ ∧ b < n₀ ∧ ∀ j, j < n * sz → W.cell? ⟨b, off + j, none⟩ = cs[j]?)

theorem Rd.below {W W' : World} {m n₀ sz n : Nat} {v : Value} {cs : List Value} (h : Rd W n₀ sz v n cs) (hb : Below m W W') (hm : n₀ ≤ m) : Rd W' n₀ sz v n cs := by
  obtain ⟨hl, a, cap, hv, hcap, hc⟩ := h
  refine ⟨hl, a, cap, hv, hcap, fun hn => ?_⟩
  obtain ⟨b, off, ha, hlt, hc⟩ := hc hn
  exact ⟨b, off, ha, hlt, fun j hj => (hb.cell (p := ⟨b, off + j, none⟩) (by simp; omega)).trans (hc j hj)⟩
theorem Rd.up {W : World} {n₀ m sz n : Nat} {v : Value} {cs : List Value} (h : Rd W n₀ sz v n cs) (hm : n₀ ≤ m) : Rd W m sz v n cs := by
  obtain ⟨hl, a, cap, hv, hcap, hc⟩ := h
  refine ⟨hl, a, cap, hv, hcap, fun hn => ?_⟩
  obtain ⟨b, off, ha, hlt, hc⟩ := hc hn
  exact ⟨b, off, ha, Nat.lt_of_lt_of_le hlt hm, hc⟩
theorem Rd.val {W : World} {n₀ sz n : Nat} {v : Value} {cs : List Value} (h : Rd W n₀ sz v n cs) : ∃ a c, v = .slice a n c := by
  obtain ⟨_, a, cap, hv, _⟩ := h
  exact ⟨a, cap, hv⟩
theorem Rd.len {W : World} {n₀ sz n : Nat} {v : Value} {cs : List Value} (h : Rd W n₀ sz v n cs) : cs.length = n * sz := h.1
theorem Rd.cap {W : World} {n₀ sz n c : Nat} {a : Option Addr} {cs : List Value} (h : Rd W n₀ sz (.slice a n c) n cs) : n ≤ c := by
  obtain ⟨_, a', cap, hv, hcap, _⟩ := h
  simp only [Value.slice.injEq] at hv
  omega
/-- Where there is an element there is a block. -/
theorem Rd.at {W : World} {n₀ sz n c : Nat} {a : Option Addr} {cs : List Value} (h : Rd W n₀ sz (.slice a n c) n cs) (hn : 0 < n) :
    ∃ b off, a = some ⟨b, off, none⟩ ∧ b < n₀ ∧ cs.length = n * sz ∧ ∀ j, j < n * sz → W.cell? ⟨b, off + j, none⟩ = cs[j]? := by
  obtain ⟨hl, a', cap, hv, hcap, hc⟩ := h
  simp only [Value.slice.injEq] at hv
  obtain ⟨rfl, _, rfl⟩ := hv
  obtain ⟨b, off, ha, hlt, hc⟩ := hc hn
  exact ⟨b, off, ha, hlt, hl, hc⟩
theorem Rd.news {W : World} {n₀ sz n c : Nat} {ad : Addr} {cs : List Value} (h : Rd W n₀ sz (.slice (some ad) n c) n cs) : ∀ j u, cs[j]? = some u → W.cell? (ad.add j) = some u := by
  intro j u hu
  have hj : j < n * sz := by rw [← h.len]; exact (List.getElem?_eq_some_iff.1 hu).1
  have hn : 0 < n := by rcases Nat.eq_zero_or_pos n with h0 | h0; (subst h0; simp at hj); exact h0
  obtain ⟨b, off, ha, _, _, hc⟩ := h.at hn
  obtain rfl : ad = ⟨b, off, none⟩ := by simpa using ha
  rw [Go.WideShapes.add_plain, hc j hj, hu]
/-- Where there is no block there is no element. -/
theorem Rd.zero {W : World} {n₀ sz n c : Nat} {cs : List Value} (h : Rd W n₀ sz (.slice none n c) n cs) : n = 0 := by
  rcases Nat.eq_zero_or_pos n with h0 | h0
  · exact h0
  · obtain ⟨b, off, ha, _⟩ := h.at h0
    simp at ha
/-- What the call owns reads so. -/
theorem Rd.of_owns {W : World} {base : Nat} {e : TypeId} {sz : Nat} {v : Value} {n : Nat} {xs : List Value} (h : W.ownsRow base e sz v n xs) : Rd W W.heap.size sz v n xs := by
  obtain ⟨hl, h2⟩ := h
  rcases h2 with ⟨rfl, rfl⟩ | ⟨g, cap, cur, rfl, hg, hh, r⟩
  · exact ⟨by simpa using hl, _, _, rfl, Nat.le_refl _, fun h => by omega⟩
  · refine ⟨hl, _, cap, rfl, r.1, fun _ => ⟨g, 0, rfl, (Array.getElem?_eq_some_iff.1 hh).1, fun j hj => ?_⟩⟩
    rw [Nat.zero_add]
    exact World.ownsRow.cellAt (base := base) (e := e) ⟨hl, .inr ⟨g, cap, cur, rfl, hg, hh, r⟩⟩ j hj
theorem Rd.nil (W : World) (n₀ sz : Nat) : Rd W n₀ sz (.slice none 0 0) 0 [] := ⟨by simp, _, _, rfl, Nat.le_refl _, fun h => by omega⟩

/-- A fact that no tactic takes apart. -/
structure Bx (p : Prop) : Prop where
  h : p
/-- A cell that lay below n lies as it lay, behind a call that keeps what was there. -/
theorem kept_cell {n : Nat} {w0 w w1 : World} {p : Addr} {v : Value} (h1 : Below w.heap.size w w1) (h0 : Bx (Below n w0 w)) (hn : n ≤ w0.heap.size) (hp : p.block < n) (hc : w.cell? p = some v) : w1.cell? p = some v :=
  (h1.cell (Nat.lt_of_lt_of_le hp (Nat.le_trans hn h0.h.size))).trans hc
theorem kept_below {n : Nat} {w0 w w1 : World} (h1 : Below w.heap.size w w1) (h0 : Bx (Below n w0 w)) (hn : n ≤ w0.heap.size) : Bx (Below n w0 w1) := ⟨h0.h.trans (h1.mono (Nat.le_trans hn h0.h.size))⟩

theorem Rd.now {W W' : World} {m sz n : Nat} {v : Value} {cs : List Value} (h : Rd W m sz v n cs) (hb : Bx (Below m W W')) (hm : m ≤ W.heap.size) : Rd W' W'.heap.size sz v n cs := (h.below hb.h (Nat.le_refl _)).up (Nat.le_trans hm hb.h.size)

/-- The slice v reads as the numbers l. -/
def Ints (W : World) (n₀ : Nat) (v : Value) (l : List Int) : Prop := Rd W n₀ 1 v l.length (l.map (Value.int .i64))
theorem Ints.cell {W : World} {n₀ c : Nat} {a : Option Addr} {l : List Int} (h : Ints W n₀ (.slice a l.length c) l) (hl : 0 < l.length) :
    ∃ b off, a = some ⟨b, off, none⟩ ∧ b < n₀ ∧ ∀ k (hk : k < l.length), W.cell? ⟨b, off + k, none⟩ = some (.int .i64 l[k]) := by
  obtain ⟨b, off, ha, hb, _, hc⟩ := Rd.at h hl
  refine ⟨b, off, ha, hb, fun k hk => ?_⟩
  rw [hc k (by omega)]
  simp [hk]
theorem Ints.below {W W' : World} {m n₀ : Nat} {v : Value} {l : List Int} (h : Ints W n₀ v l) (hb : Below m W W') (hm : n₀ ≤ m) : Ints W' n₀ v l := Rd.below h hb hm
theorem Ints.up {W : World} {m n₀ : Nat} {v : Value} {l : List Int} (h : Ints W n₀ v l) (hm : n₀ ≤ m) : Ints W m v l := Rd.up h hm
theorem Ints.of_owns {W : World} {base : Nat} {e : TypeId} {v : Value} {l : List Int} (h : W.ownsRow base e 1 v l.length (l.map (Value.int .i64))) : Ints W W.heap.size v l := Rd.of_owns h

theorem owns_below {W W' : World} {base : Nat} {e : TypeId} {sz : Nat} {v : Value} {n : Nat} {xs : List Value} (h : W.ownsRow base e sz v n xs) (hb : Below W.heap.size W W') : W'.ownsRow base e sz v n xs := by
  obtain ⟨hl, h⟩ := h
  refine ⟨hl, ?_⟩
  rcases h with h | ⟨g, cap, cur, h1, h2, h3, h4⟩
  · exact .inl h
  · exact .inr ⟨g, cap, cur, h1, h2, (hb.block g (Array.getElem?_eq_some_iff.1 h3).1).trans h3, h4⟩
/-- Behind an append to a row of the call's own. -/
theorem below_append {n₀ : Nat} {w wr w1 : World} {e : TypeId} {sz : Nat} {v : Value} {n : Nat} {xs : List Value} {o : Obj} (hB : Below n₀ w wr) (hn : n₀ ≤ wr.heap.size) (h : wr.ownsRow n₀ e sz v n xs) (hg : (wr.alloc o).grownBy w1 v.ownBlock) : Below n₀ w w1 :=
  (hB.alloc hn _).grown hg (by simp; omega) (fun j e => (h.lt j e).1)

/-- Two rows of the call's own, of unlike types, are two blocks. -/
theorem rows_apart {W : World} {base base' e e' sz sz' n n' : Nat} {v u : Value} {xs ys : List Value} (h : W.ownsRow base e sz v n xs) (k : W.ownsRow base' e' sz' u n' ys) (hne : e ≠ e') : v.ownBlock = none ∨ v.ownBlock ≠ u.ownBlock := by
  rcases h.2 with ⟨rfl, _⟩ | ⟨g, cap, cur, rfl, _, hg, _⟩
  · exact .inl rfl
  · rcases k.2 with ⟨rfl, _⟩ | ⟨g', cap', cur', rfl, _, hg', _⟩
    · exact .inr (by simp [Value.ownBlock])
    · refine .inr (fun e1 => ?_)
      obtain rfl : g = g' := by simpa [Value.ownBlock] using e1
      rw [hg] at hg'
      simp at hg'
      exact hne hg'.2
/-- .. so that an append to the one leaves the other as it is. -/
theorem owns_other {W w1 : World} {base base' e e' sz sz' n n' : Nat} {v u : Value} {xs ys : List Value} {o : Obj} (h : W.ownsRow base e sz v n xs) (k : W.ownsRow base' e' sz' u n' ys) (hne : e' ≠ e) (hg : (W.alloc o).grownBy w1 v.ownBlock) : w1.ownsRow base' e' sz' u n' ys :=
  (k.alloc o).kept hg (rows_apart k h hne)

theorem owns_base {W : World} {base m : Nat} {e : TypeId} {sz : Nat} {v : Value} {n : Nat} {xs : List Value} (h : W.ownsRow base e sz v n xs) (hm : m ≤ base) : W.ownsRow m e sz v n xs := by
  obtain ⟨hl, h⟩ := h
  refine ⟨hl, ?_⟩
  rcases h with h | ⟨g, cap, cur, h1, h2, h3⟩
  · exact .inl h
  · exact .inr ⟨g, cap, cur, h1, Nat.le_trans hm h2, h3⟩

/-- Block B is a row of the cells cs, of type t, nothing of it frozen. -/
def Blk (W : World) (B : Nat) (t : TypeId) (cs : Array Value) : Prop := W.heap[B]? = some (.cells cs t (0, 0))
theorem Blk.lt {W : World} {B : Nat} {t : TypeId} {cs : Array Value} (h : Blk W B t cs) : B < W.heap.size := (Array.getElem?_eq_some_iff.1 h).1
theorem Blk.cell {W : World} {B : Nat} {t : TypeId} {cs : Array Value} (h : Blk W B t cs) (j : Nat) : W.cell? ⟨B, j, none⟩ = cs[j]? := by simp [World.cell?, show W.heap[B]? = _ from h]
theorem Blk.frozen {W : World} {B : Nat} {t : TypeId} {cs : Array Value} (h : Blk W B t cs) (j : Nat) : W.frozen? ⟨B, j, none⟩ = false := by simp [World.frozen?, show W.heap[B]? = _ from h]
theorem Blk.new (W : World) (t : TypeId) (cs : Array Value) : Blk (W.alloc (.cells cs t)) W.heap.size t cs := World.alloc_heap_new W _
theorem Blk.kept {W W' : World} {row : Option Nat} {B : Nat} {t : TypeId} {cs : Array Value} (h : Blk W B t cs) (hg : W.grownBy W' row) (hne : some B ≠ row) : Blk W' B t cs := (hg.block B h.lt hne).trans h
theorem Blk.alloc {W : World} {B : Nat} {t : TypeId} {cs : Array Value} (h : Blk W B t cs) (o : Obj) : Blk (W.alloc o) B t cs := h.kept (World.grownBy_alloc W o none) (by simp)
theorem Blk.below {W W' : World} {m B : Nat} {t : TypeId} {cs : Array Value} (h : Blk W B t cs) (hb : Below m W W') (hm : B < m) : Blk W' B t cs := (hb.block B hm).trans h
theorem Blk.other {W : World} {B : Nat} {t : TypeId} {cs : Array Value} (h : Blk W B t cs) {p : Addr} (hne : B ≠ p.block) (u : Value) : Blk (W.setCell p u) B t cs := (Below.heap_setCell _ _ _ _ hne).trans h
theorem blk_own {β : Type} (B : Nat) (t : TypeId) (f : β → Array Value) : Own (fun s W => Blk W B t (f s)) := fun s X Y row hs hg hrow =>
  hs.kept hg (fun e' => by obtain ⟨o, ho, hc⟩ := hrow B e'.symm; rw [show X.heap[B]? = _ from hs] at ho; cases ho; cases hc)
theorem cells_new (w : World) (xs : List Value) (t : TypeId) : ∀ j u, xs[j]? = some u → (w.alloc (.cells xs.toArray t)).cell? ((⟨w.heap.size, 0, none⟩ : Addr).add j) = some u := by
  intro j u hj
  have e : (⟨w.heap.size, 0, none⟩ : Addr).add j = ⟨w.heap.size, j, none⟩ := by simp only [Addr.add, Nat.zero_add]; split <;> simp_all
  rw [e, (Blk.new w t xs.toArray).cell j]
  simpa using hj
end Go.Proofs.YtoaegleieacokaaGreat
namespace Go.Proofs.YtoaegleieacokaaGreat
open Go.ChangeShapes Go.WideShapes Go.ChangeAt Go.RowKit

theorem exists_list {α : Type} {p : Nat → α → Prop} : ∀ (n : Nat), (∀ i, i < n → ∃ x, p i x) → ∃ l : List α, l.length = n ∧ ∀ i (h : i < l.length), p i l[i]
  | 0, _ => ⟨[], rfl, fun i h => by simp at h⟩
  | n + 1, h => by
    obtain ⟨l, hl, hp⟩ := exists_list n (fun i hi => h i (by omega))
    obtain ⟨x, hx⟩ := h n (by omega)
    refine ⟨l ++ [x], by simp [hl], fun i hi => ?_⟩
    by_cases hin : i < l.length
    · rw [List.getElem_append_left hin]; exact hp i hin
    · have : i = n := by simp at hi; omega
      subst this
      rw [List.getElem_append_right (by omega)]
      simpa using hx
theorem flatMap_get {α : Type} {f : α → List Value} {sz : Nat} (hf : ∀ x, (f x).length = sz) : ∀ (l : List α) (k c : Nat) (hk : k < l.length), c < sz → (l.flatMap f)[k * sz + c]? = (f l[k])[c]?
  | x :: l, 0, c, _, hc => by
    simp only [List.flatMap_cons, Nat.zero_mul, Nat.zero_add, List.getElem_cons_zero]
    rw [List.getElem?_append_left (by rw [hf]; exact hc)]
  | x :: l, k + 1, c, hk, hc => by
    simp only [List.flatMap_cons, List.getElem_cons_succ]
    rw [List.getElem?_append_right (by rw [hf, Nat.add_mul]; omega), hf, show (k + 1) * sz + c - sz = k * sz + c from by rw [Nat.add_mul]; omega]
    exact flatMap_get hf l k c (by simpa using hk) hc
theorem flatMap_len {α : Type} {f : α → List Value} {sz : Nat} (hf : ∀ x, (f x).length = sz) : ∀ (l : List α), (l.flatMap f).length = l.length * sz
  | [] => by simp
  | x :: l => by simp only [List.flatMap_cons, List.length_append, List.length_cons, hf, flatMap_len hf l, Nat.add_mul]; omega

section
variable {H : Type} {enc : TypeId × Value → H} {P : Program} {W : World}
/-- An argument that is a slice: the elements' cells, as dec takes them apart. -/
theorem open_rd {α : Type} {t e : TypeId} {sz : Nat} {f : α → List Value} {good : α → Prop} (hf : ∀ x, (f x).length = sz) (hs : 0 < sz) (ht : P.underlying t = some (.slice e)) (hC : P.cellsOf e = sz)
    (dec : ∀ n cs y, DataW.trod enc P W 0 (fun _ => true) true n e cs = some y → ∃ x, cs = f x ∧ good x) {a : Option Addr} {len cap : Nat} {d : DataW H} {p : List MemPlace}
    (h : DataW.Trod enc P W 0 (fun _ => true) true t (.slice a len cap) d p) : ∃ l : List α, l.length = len ∧ Rd W W.heap.size sz (.slice a len cap) len (l.flatMap f) ∧ cap ≤ maxLen ∧ ∀ x ∈ l, good x := by
  obtain ⟨fuel, h⟩ := h
  rcases Go.Deep.open_slice ht h with ⟨hcs, _⟩ | ⟨ad, len', cap', m, n, D, Pl, hcs, _, hl, hm, hmm, _, hi⟩
  · simp [Value.cells] at hcs
    obtain ⟨rfl, rfl, rfl⟩ := hcs
    exact ⟨[], rfl, Rd.nil _ _ _, by simp, by simp⟩
  · simp [Value.cells] at hcs
    obtain ⟨rfl, rfl, rfl⟩ := hcs
    simp at hmm
    subst hmm
    obtain ⟨l, hll, hlp⟩ := exists_list (p := fun i x => (∀ j, j < sz → W.cell? ((ad.add (i * sz)).add j) = (f x)[j]?) ∧ good x) len (fun i hi' => by
      obtain ⟨cs', h1, h2⟩ := hi i (by omega)
      rw [hC] at h1
      obtain ⟨x, rfl, hg⟩ := dec _ _ _ h2
      obtain ⟨_, _, h3⟩ := World.cells?_some h1
      exact ⟨x, h3, hg⟩)
    refine ⟨l, hll, ⟨by rw [flatMap_len hf, hll], _, _, rfl, hl, fun hn => ?_⟩, hm, fun x hx => ?_⟩
    · obtain ⟨b, off, spot⟩ := ad
      have h0 := (hlp 0 (by omega)).1 0 hs
      have hf0 : (f (l[0]'(by omega)))[0]? = some ((f (l[0]'(by omega)))[0]'(by rw [hf]; exact hs)) := List.getElem?_eq_getElem _
      rw [hf0] at h0
      simp only [Nat.zero_mul, Addr.add, if_true] at h0
      have hspot : spot = none := by simpa using World.cell?_spot h0
      subst hspot
      have hb : b < W.heap.size := by
        simp only [World.cell?] at h0
        cases hh : W.heap[b]? with
        | none => rw [hh] at h0; simp at h0
        | some o => exact (Array.getElem?_eq_some_iff.1 hh).1
      refine ⟨b, off, rfl, hb, fun j hj => ?_⟩
      have hk : j / sz < l.length := by rw [hll]; exact Nat.div_lt_of_lt_mul (by rw [Nat.mul_comm]; exact hj)
      have hc : j % sz < sz := Nat.mod_lt _ hs
      have h1 := (hlp (j / sz) hk).1 (j % sz) hc
      have hj2 : j / sz * sz + j % sz = j := by rw [Nat.mul_comm]; exact Nat.div_add_mod j sz
      rw [Go.WideShapes.add_plain, Go.WideShapes.add_plain, Nat.add_assoc, hj2] at h1
      rw [h1, ← flatMap_get hf l (j / sz) (j % sz) hk hc, hj2]
    · obtain ⟨i, hi', rfl⟩ := List.getElem_of_mem hx
      exact (hlp i hi').2
theorem dec_int {e : TypeId} {k : IntKind} (he : P.underlying e = some (.int k)) : ∀ n cs (y : DataW H × List MemPlace), DataW.trod enc P W 0 (fun _ => true) true n e cs = some y → ∃ x : Int, cs = [.int k x] ∧ (Lit.int k x).wf = true := fun n cs y h => by
  obtain ⟨x, h1, _, h2⟩ := DataW.trod_int he h
  exact ⟨x, h1, h2⟩
theorem dec_string {e : TypeId} (he : P.underlying e = some .string) : ∀ n cs (y : DataW H × List MemPlace), DataW.trod enc P W 0 (fun _ => true) true n e cs = some y → ∃ x : ByteArray, cs = [.string x] ∧ x.size ≤ maxLen := fun n cs y h => by
  obtain ⟨x, h1, _, h2⟩ := DataW.trod_string he h
  exact ⟨x, h1, h2⟩
theorem flatMap_single {α : Type} (f : α → Value) (l : List α) : l.flatMap (fun x => [f x]) = l.map f := by induction l <;> simp_all
/-- .. of whole numbers. -/
theorem open_nums {t e : TypeId} {k : IntKind} (ht : P.underlying t = some (.slice e)) (he : P.underlying e = some (.int k)) (hC : P.cellsOf e = 1) {a : Option Addr} {len cap : Nat} {d : DataW H} {p : List MemPlace}
    (h : DataW.Trod enc P W 0 (fun _ => true) true t (.slice a len cap) d p) : ∃ l : List Int, l.length = len ∧ Rd W W.heap.size 1 (.slice a len cap) len (l.map (Value.int k)) ∧ cap ≤ maxLen ∧ ∀ x ∈ l, (Lit.int k x).wf = true := by
  obtain ⟨l, h1, h2, h3⟩ := open_rd (sz := 1) (f := fun x => [Value.int k x]) (fun _ => rfl) (by omega) ht hC (dec_int he) h
  exact ⟨l, h1, by rw [flatMap_single] at h2; exact h2, h3⟩
/-- .. of strings. -/
theorem open_strs {t e : TypeId} (ht : P.underlying t = some (.slice e)) (he : P.underlying e = some .string) (hC : P.cellsOf e = 1) {a : Option Addr} {len cap : Nat} {d : DataW H} {p : List MemPlace}
    (h : DataW.Trod enc P W 0 (fun _ => true) true t (.slice a len cap) d p) : ∃ l : List ByteArray, l.length = len ∧ Rd W W.heap.size 1 (.slice a len cap) len (l.map Value.string) ∧ cap ≤ maxLen ∧ ∀ x ∈ l, x.size ≤ maxLen := by
  obtain ⟨l, h1, h2, h3⟩ := open_rd (sz := 1) (f := fun x => [Value.string x]) (fun _ => rfl) (by omega) ht hC (dec_string he) h
  exact ⟨l, h1, by rw [flatMap_single] at h2; exact h2, h3⟩
end
end Go.Proofs.YtoaegleieacokaaGreat
namespace Go.Proofs.YtoaegleieacokaaGreat
open Go.ChangeShapes Go.WideShapes Go.ChangeAt Go.RowKit

/-- A step of the writer's laws: what, the bytes, how often. -/
structure Wt where
  what : Int
  b : ByteArray
  t : Int
def Wt.cells (x : Wt) : List Value := [.int .i64 x.what, .string x.b, .int .u8 x.t]
def Wt.Good (x : Wt) : Prop := 0 ≤ x.t ∧ x.t ≤ 255
theorem wf_u8' {a : Int} (h : (Lit.int .u8 a).wf = true) : 0 ≤ a ∧ a ≤ 255 := by
  simp [Lit.wf, IntKind.min, IntKind.max, IntKind.bits, IntKind.signed] at h
  omega
variable {H : Type} {enc : TypeId × Value → H} {W : World}
set_option maxRecDepth 100000 in
theorem dec_wt : ∀ n cs (y : DataW H × List MemPlace), DataW.trod enc Tryz.prog W 0 (fun _ => true) true n 38 cs = some y → ∃ x : Wt, cs = x.cells ∧ x.Good := fun n cs y h => by
  obtain ⟨xs, m, _, _, hl, hx, hf⟩ := DataW.trod_struct Tryz.underlying38 h
  rw [show Tryz.prog.cellsOf 38 = 3 from by kernel_rfl] at hl
  match cs, hl with
  | [c0, c1, c2], _ =>
    match xs, hx with
    | [x0, x1, x2], _ =>
      have h0 := hf 0 _ rfl
      have h1 := hf 1 _ rfl
      have h2 := hf 2 _ rfl
      simp only [List.getElem_toArray, List.getElem_cons_zero, List.getElem_cons_succ] at h0 h1 h2
      rw [show Tryz.prog.cellsOf 3 = 1 from by kernel_rfl] at h0
      rw [show Tryz.prog.cellsOf 9 = 1 from by kernel_rfl] at h1
      rw [show Tryz.prog.cellsOf 5 = 1 from by kernel_rfl] at h2
      simp only [List.drop_zero, List.drop_succ_cons, List.take_succ_cons, List.take_zero] at h0 h1 h2
      obtain ⟨a, e0, _, _⟩ := DataW.trod_int Tryz.underlying3 h0
      obtain ⟨b, e1, _, _⟩ := DataW.trod_string Tryz.underlying9 h1
      obtain ⟨c, e2, _, g2⟩ := DataW.trod_int Tryz.underlying5 h2
      simp only [List.cons.injEq, and_true] at e0 e1 e2
      subst e0 e1 e2
      exact ⟨⟨a, b, c⟩, rfl, wf_u8' g2⟩
theorem open_wts {a : Option Addr} {len cap : Nat} {d : DataW H} {p : List MemPlace} (h : DataW.Trod enc Tryz.prog W 0 (fun _ => true) true 22 (.slice a len cap) d p) :
    ∃ l : List Wt, l.length = len ∧ Rd W W.heap.size 3 (.slice a len cap) len (l.flatMap Wt.cells) ∧ cap ≤ maxLen ∧ ∀ x ∈ l, x.Good :=
  open_rd (f := Wt.cells) (good := Wt.Good) (fun _ => rfl) (by omega) Tryz.underlying22 (by kernel_rfl) dec_wt h
theorem wt_cells {w : World} {n : Nat} {a : Option Addr} {c : Nat} {l : List Wt} (rd : Rd w n 3 (.slice a l.length c) l.length (l.flatMap Wt.cells)) (k : Nat) (hk : k < l.length) : ∃ b off, a = some ⟨b, off, none⟩ ∧ b < n ∧
    w.cell? ⟨b, off + k * 3, none⟩ = some (.int .i64 l[k].what) ∧ w.cell? ⟨b, off + k * 3 + 1, none⟩ = some (.string l[k].b) ∧ w.cell? ⟨b, off + k * 3 + 2, none⟩ = some (.int .u8 l[k].t) := by
  obtain ⟨b, off, rfl, hb, hcp, hcs⟩ := rd.at (by omega)
  have go : ∀ j, j < 3 → w.cell? ⟨b, off + k * 3 + j, none⟩ = (Wt.cells l[k])[j]? := fun j hj => by
    have := hcs (k * 3 + j) (by omega)
    rw [flatMap_get (f := Wt.cells) (sz := 3) (fun _ => rfl) l k j hk hj, ← Nat.add_assoc] at this
    exact this
  exact ⟨b, off, rfl, hb, go 0 (by omega), go 1 (by omega), go 2 (by omega)⟩
end Go.Proofs.YtoaegleieacokaaGreat
