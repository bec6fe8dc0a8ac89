/- live.in: the iterator over the spots of a segment: its contract, for every slice of spots within the reach. -/
import Derived.Test.YtnbnkmpmkpillaaBase
import Derived.Test.YtnbnkmpmkpillaaProg
namespace Go.Proofs.Ytnbnkmpmkpillaa
open Go.RowKit Go.Shelf
attribute [local go_sem] Oper.semAt_some

/-- A spot: group, index, segment, place. -/
structure Spot where
  g : Int
  i : Int
  s : Int
  a : Int
  deriving Inhabited, DecidableEq

def Spot.cells (x : Spot) : List Value := [.int .i64 x.g, .int .i64 x.i, .int .i64 x.s, .int .i64 x.a]
def Spot.val (x : Spot) : Value := .agg #[.int .i64 x.g, .int .i64 x.i, .int .i64 x.s, .int .i64 x.a]
def cellsOf (l : List Spot) : List Value := l.flatMap Spot.cells

theorem cellsOf_length (l : List Spot) : (cellsOf l).length = l.length * 4 := by
  induction l with
  | nil => rfl
  | cons x l ih => simp only [cellsOf, List.flatMap_cons, List.length_append, List.length_cons] at ih ⊢; rw [ih]; simp [Spot.cells]; omega
theorem cellsOf_get (l : List Spot) (k c : Nat) (hk : k < l.length) (hc : c < 4) : (cellsOf l)[k * 4 + c]? = (l[k].cells)[c]? := by
  induction l generalizing k with
  | nil => simp at hk
  | cons x l ih =>
    cases k with
    | zero =>
      simp only [cellsOf, List.flatMap_cons, Nat.zero_mul, Nat.zero_add, List.getElem_cons_zero]
      rw [List.getElem?_append_left (by simp [Spot.cells]; omega)]
    | succ k =>
      simp only [cellsOf, List.flatMap_cons, List.getElem_cons_succ]
      rw [List.getElem?_append_right (by simp [Spot.cells]; omega)]
      rw [show (k + 1) * 4 + c - x.cells.length = k * 4 + c from by simp [Spot.cells]; omega]
      exact ih k (by simpa using hk)
/-- The slice v reads as the spots l. -/
def Spots (W : World) (n₀ : Nat) (v : Value) (l : List Spot) : Prop := Rd W n₀ 4 v l.length (cellsOf l)

theorem Spots.cell {W : World} {n₀ c : Nat} {a : Option Addr} {l : List Spot} (h : Spots W n₀ (.slice a l.length c) l) (hl : 0 < l.length) :
    ∃ b off, a = some ⟨b, off, none⟩ ∧ b < n₀ ∧ ∀ k (hk : k < l.length), W.cell? ⟨b, off + k * 4, none⟩ = some (.int .i64 l[k].g) ∧ W.cell? ⟨b, off + k * 4 + 1, none⟩ = some (.int .i64 l[k].i) ∧
      W.cell? ⟨b, off + k * 4 + 2, none⟩ = some (.int .i64 l[k].s) ∧ W.cell? ⟨b, off + k * 4 + 3, none⟩ = some (.int .i64 l[k].a) := by
  obtain ⟨b, off, ha, hb, _, hc⟩ := Rd.at h hl
  refine ⟨b, off, ha, hb, fun k hk => ⟨?_, ?_, ?_, ?_⟩⟩
  · have := hc (k * 4 + 0) (by omega); rw [cellsOf_get l k 0 hk (by omega)] at this; simpa [Spot.cells] using this
  · have := hc (k * 4 + 1) (by omega); rw [cellsOf_get l k 1 hk (by omega), ← Nat.add_assoc] at this; simpa [Spot.cells] using this
  · have := hc (k * 4 + 2) (by omega); rw [cellsOf_get l k 2 hk (by omega), ← Nat.add_assoc] at this; simpa [Spot.cells] using this
  · have := hc (k * 4 + 3) (by omega); rw [cellsOf_get l k 3 hk (by omega), ← Nat.add_assoc] at this; simpa [Spot.cells] using this

theorem Spots.below {W W' : World} {m n₀ : Nat} {v : Value} {l : List Spot} (h : Spots W n₀ v l) (hb : Below m W W') (hm : n₀ ≤ m) : Spots W' n₀ v l := Rd.below h hb hm
theorem Spots.up {W : World} {m n₀ : Nat} {v : Value} {l : List Spot} (h : Spots W n₀ v l) (hm : n₀ ≤ m) : Spots W m v l := Rd.up h hm
theorem Spots.of_owns {W : World} {base : Nat} {e : TypeId} {v : Value} {l : List Spot} (h : W.ownsRow base e 4 v l.length (cellsOf l)) : Spots W W.heap.size v l := Rd.of_owns h

/-- live.in: the two arguments are boxed; the function value captures the boxes. -/
theorem in_calls (a : Option Addr) (n c : Nat) (seg : Int) (w : World) :
    Calls Try.prog 23 #[.slice a n c, .int .i64 seg] w fun e w' => e = .returned (.func (.func 26) #[] #[.pointer (some ⟨w.heap.size, 0, none⟩), .pointer (some ⟨w.heap.size + 1, 0, none⟩)]) ∧
      (w.alloc (.cells #[.slice a n c] 22)).alloc (.cells #[.int .i64 seg] 3) = w' := by
  go_enter Try.func23, Try.ntmps23
  go_wp2
  go_ret
  exact ⟨rfl, rfl⟩

def flt (seg : Int) (l : List Spot) : List Spot := l.filter fun x => x.s == seg
theorem flt_take (seg : Int) (l : List Spot) (k : Nat) (hk : k < l.length) : flt seg (l.take (k + 1)) = flt seg (l.take k) ++ if l[k].s == seg then [l[k]] else [] := by
  unfold flt
  rw [List.take_succ_eq_append_getElem hk, List.filter_append]
  simp only [List.filter_cons, List.filter_nil]
theorem flt_pre (seg : Int) (l : List Spot) (k : Nat) : flt seg (l.take k) <+: flt seg l := by
  conv => rhs; rw [← List.take_append_drop k l]
  unfold flt
  rw [List.filter_append]
  exact List.prefix_append _ _
theorem flt_take_le (seg : Int) (l : List Spot) (k : Nat) (hk : k < l.length) (h : (l[k].s == seg) = true) : (flt seg (l.take k)).length < (flt seg l).length := by
  have h1 := (flt_pre seg l (k + 1)).length_le
  rw [flt_take seg l k hk, h] at h1
  simp at h1
  omega

set_option maxRecDepth 100000 in
set_option maxHeartbeats 2000000 in
/-- The closure: for every loop body that keeps the spots and the box of the segment. -/
theorem in1_calls (n : Nat) (hn : 1 ≤ n) (l Bs Bg n₀ c : Nat) (a : Option Addr) (seg : Int) (xs : List Spot) (hreach : xs.length ≤ 1000000)
    (J Jx : List Spot → World → Prop)
    (hJ : ∀ s A o, J s A → J s (A.alloc o))
    (hY : ∀ pre x W, J pre W → pre.length < (flt seg xs).length → YieldAt Fence.wide (n - 1) Try.prog l #[x.val] W fun e W' =>
      (e = .returned (.bool true) ∧ J (pre ++ [x]) W' ∧ Keep n₀ [Bg] W W') ∨ (e = .returned (.bool false) ∧ Jx (pre ++ [x]) W'))
    (W : World) (hBs : W.cell? ⟨Bs, 0, none⟩ = some (.slice a xs.length c)) (hBg : W.cell? ⟨Bg, 0, none⟩ = some (.int .i64 seg)) (hg : Bg < W.heap.size) (hn0 : n₀ ≤ W.heap.size)
    (hc : Spots W n₀ (.slice a xs.length c) xs) (h0 : J [] W) :
    CallsIn Fence.wide n Try.prog 26 #[.func (.yield l) #[] #[], .pointer (some ⟨Bs, 0, none⟩), .pointer (some ⟨Bg, 0, none⟩)] W fun e W' => (∃ v, e = .returned v) ∧
      ((∃ ys, ys = flt seg xs ∧ J ys W') ∨ (∃ pre, pre <+: flt seg xs ∧ Jx pre W')) := by
  refine callsIn_of_wp Try.func26 rfl trivial ?_ rfl
  simp only [Try.ntmps26, List.size_toArray, List.length_cons, List.length_nil, Nat.reduceAdd, Nat.reduceSub, Array.replicate_succ, Array.replicate_zero, List.push_toArray, List.append_toArray, List.nil_append, List.cons_append]
  gi_wp2
  gi_loopw [8] (fun i wr => ∃ k : Nat, k ≤ xs.length ∧ i = .int .i64 k ∧ J (flt seg (xs.take k)) wr ∧ Keep n₀ [Bg] W wr)
    (fun i _ => xs.length - (intOf i).toNat)
  case atStart => exact ⟨0, Nat.zero_le _, rfl, h0, Keep.refl _ _ _⟩
  case round =>
    obtain ⟨k, hk, rfl, hJs, hnx⟩ := hrel
    by_cases hlt : k < xs.length
    · obtain ⟨b, off, rfl, hb, hcs⟩ := hc.cell (by omega)
      obtain ⟨c0, c1, c2, c3⟩ := hcs k hlt
      have d0 := (hnx.below.cell (p := ⟨b, off + k * 4, none⟩) hb).trans c0
      have d1 := (hnx.below.cell (p := ⟨b, off + k * 4 + 1, none⟩) hb).trans c1
      have d2 := (hnx.below.cell (p := ⟨b, off + k * 4 + 2, none⟩) hb).trans c2
      have d3 := (hnx.below.cell (p := ⟨b, off + k * 4 + 3, none⟩) hb).trans c3
      have dg := (hnx.cell (p := ⟨Bg, 0, none⟩) (by simp)).trans hBg
      have hsz : W.heap.size ≤ wr.heap.size := hnx.below.size
      have hg' : Bg < wr.heap.size := by omega
      have hk1 := flt_take seg xs k hlt
      have HS := flt_take_le seg xs k hlt
      generalize xs[k] = x at *
      have dg' : ∀ o, (wr.alloc o).cell? ⟨Bg, 0, none⟩ = some (.int .i64 seg) := fun o => (World.cell?_alloc_lt wr o ⟨Bg, 0, none⟩ hg').trans dg
      clear c0 c1 c2 c3 hc hBs hBg dg hcs
      cases hs : x.s == seg with
      | true =>
        obtain ⟨fn, tmps, assign, body, hy, hR⟩ := hY _ x _ (hJ _ _ (.cells #[.int .i64 x.g, .int .i64 x.i, .int .i64 x.s, .int .i64 x.a] 33) hJs) (HS hs)
        rw [hs] at hk1
        have Hk := Lib.hid hk1
        clear hk1 HS hJs h0
        unfold Spot.val at hy
        gi_wp2
        refine hR.mono ?_
        rintro e W3 (⟨rfl, hJ3, hk3⟩ | ⟨rfl, hJx3⟩)
        · gi_wp2
          go_roundw
          case rel => exact ⟨k + 1, by omega, by simp, by rw [Hk.out]; exact hJ3, hnx.trans (Keep.trans ⟨(Below.refl _ _).alloc (by omega) _, fun b hb => by simp at hb; subst hb; exact Below.heap_alloc _ _ _ hg'⟩ hk3)⟩
          case measure => simp [intOf]; omega
        · gi_wp2
          refine bodyPost_ret (results_none rfl _ _ _) rfl ?_
          exact ⟨⟨_, rfl⟩, .inr ⟨_, by have := flt_pre seg xs (k + 1); rw [Hk.out] at this; simpa using this, hJx3⟩⟩
      | false =>
        rw [hs] at hk1
        have Hk := Lib.hid hk1
        clear hk1 HS h0
        gi_wp2
        refine ⟨fun _ h => (by cases h), ?_⟩
        gi_wp2
        go_roundw
        case rel => exact ⟨k + 1, by omega, by simp, by rw [Hk.out]; simpa using hJ _ _ _ hJs, hnx.trans ⟨(Below.refl _ _).alloc (by omega) _, fun b hb => by simp at hb; subst hb; exact Below.heap_alloc _ _ _ hg'⟩⟩
        case measure => simp [intOf]; omega
    · obtain rfl : k = xs.length := by omega
      gi_wp2
      go_end0
      exact ⟨⟨_, rfl⟩, .inl ⟨_, by simp, hJs⟩⟩

/-- live.in hands back a value that gives the spots of the segment, in order. -/
theorem in_stops (n : Nat) (hn : 1 ≤ n) (Bs Bg n₀ c : Nat) (a : Option Addr) (seg : Int) (xs : List Spot) (hreach : xs.length ≤ 1000000) (w : World)
    (hBs : w.cell? ⟨Bs, 0, none⟩ = some (.slice a xs.length c)) (hBg : w.cell? ⟨Bg, 0, none⟩ = some (.int .i64 seg)) (hs : Bs < w.heap.size) (hg : Bg < w.heap.size) (hn0 : n₀ ≤ w.heap.size)
    (hc : Spots w n₀ (.slice a xs.length c) xs) :
    SeqStopsK Fence.wide n Try.prog 26 #[.pointer (some ⟨Bs, 0, none⟩), .pointer (some ⟨Bg, 0, none⟩)] (fun x : Spot => #[x.val]) (Keep n₀ [Bg]) (fun ys => ys = flt seg xs) (fun pre => pre <+: flt seg xs) (flt seg xs).length w := fun l J Jx W hW hJ _ hY h0 =>
  in1_calls n hn l Bs Bg n₀ c a seg xs hreach J Jx (fun s A o h => hJ s A _ none h (World.grownBy_alloc A o none) (fun r e => by cases e)) hY W
    ((hW.cell (p := ⟨Bs, 0, none⟩) hs).trans hBs) ((hW.cell (p := ⟨Bg, 0, none⟩) hg).trans hBg) (Nat.lt_of_lt_of_le hg hW.size) (Nat.le_trans hn0 hW.size) (hc.below hW hn0) h0
end Go.Proofs.Ytnbnkmpmkpillaa
