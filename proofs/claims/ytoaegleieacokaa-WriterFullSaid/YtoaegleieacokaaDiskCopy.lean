/- Copy. -/
import Derived.Test.YtoaegleieacokaaDiskAll
namespace Go.Proofs.Ytoaegleieacokaa
open Go.RowKit Go.Shelf Go.Sort
attribute [local go_sem] Oper.semAt_some

set_option maxRecDepth 100000 in
set_option maxHeartbeats 1000000 in
theorem copy_calls (D M : Nat) (s : DS) (w : World) (h : DiskAt w D M s) :
    Calls Try.prog 44 #[.pointer (some ⟨D, 0, none⟩)] w fun e w' => ∃ D2, e = .returned (.pointer (some ⟨D2, 0, none⟩)) ∧ ∃ M2, DiskAt w' D2 M2 s ∧ w.heap.size ≤ D2 ∧ w.heap.size ≤ M2 ∧ Below w.heap.size w w' := by
  have d0 : w.cell? ⟨D, 0, none⟩ = some (.int .i64 s.room) := h.blk.cell 0
  have d1 : w.cell? ⟨D, 1, none⟩ = some (.map (some M)) := h.blk.cell 1
  have d2 : w.cell? ⟨D, 2, none⟩ = some (.int .i64 s.steps) := h.blk.cell 2
  have d3 : w.cell? ⟨D, 3, none⟩ = some (.int .i64 s.left) := h.blk.cell 3
  have d1' : ∀ o, (w.alloc o).cell? ⟨D, 1, none⟩ = some (.map (some M)) := fun o => (World.cell?_alloc_lt w o ⟨D, 1, none⟩ h.blk.lt).trans d1
  obtain ⟨es, clock, hes, hrest⟩ := h.map
  have hML := h.map.lt
  go_enter Try.func44, Try.ntmps44
  go_wp2_with fail
  have bD := Blk.new w 102 #[.int .i64 s.room, .map (some M), .int .i64 s.steps, .int .i64 s.left]
  have hB0 : Below w.heap.size w (w.alloc (.cells #[.int .i64 s.room, .map (some M), .int .i64 s.steps, .int .i64 s.left] 102)) := (Below.refl _ w).alloc (Nat.le_refl _) _
  have hes1 := (hB0.block M hML).trans hes
  generalize hw1 : w.alloc (.cells #[.int .i64 s.room, .map (some M), .int .i64 s.steps, .int .i64 s.left] 102) = w1 at *
  have hs1 : w1.heap.size = w.heap.size + 1 := by rw [← hw1]; simp
  clear hw1 d1' d0 d1 d2 d3 hes
  refine (AnyW.maps_Clone mcloneL M es clock w1 hes1).mono ?_
  rintro e w2 ⟨rfl, hw2⟩
  have bD2 : Blk w2 w.heap.size 102 #[.int .i64 s.room, .map (some M), .int .i64 s.steps, .int .i64 s.left] := by rw [hw2]; exact bD.alloc _
  have hM2 : RawMap w2 w1.heap.size Value.string (enm F.val s.l) := by
    rw [hw2]
    exact ⟨es, clock, World.alloc_heap_new w1 _, hrest⟩
  have hB2 : Below w.heap.size w w2 := by rw [hw2]; exact hB0.alloc hB0.size _
  clear hw2
  have c1 := bD2.cell 1
  have f1 := bD2.frozen 1
  rw [hs1] at hM2
  go_wp2
  go_ret
  exact ⟨w.heap.size, rfl, w.heap.size + 1, ⟨bD2.set 1 (.map (some (w.heap.size + 1))), hM2.setCell _ _, by omega⟩, by omega, by omega, hB2.setCell (p := ⟨w.heap.size, 1, none⟩) (Nat.le_refl _) _⟩

/-! ### slices.Values over files -/
/-- A file as it is told: its name, bytes, how many stay. -/
def filesCells (l : List (ByteArray × F)) : List Value := l.flatMap fun p => fileCells p.1 p.2
theorem filesCells_length (l : List (ByteArray × F)) : (filesCells l).length = l.length * 3 := by
  induction l with
  | nil => rfl
  | cons x l ih => simp only [filesCells, List.flatMap_cons, List.length_append, List.length_cons] at ih ⊢; rw [ih]; simp [fileCells]; omega
theorem filesCells_get (l : List (ByteArray × F)) (k c : Nat) (hk : k < l.length) (hc : c < 3) : (filesCells l)[k * 3 + c]? = (fileCells l[k].1 l[k].2)[c]? := by
  induction l generalizing k with
  | nil => simp at hk
  | cons x l ih =>
    cases k with
    | zero =>
      simp only [filesCells, List.flatMap_cons, Nat.zero_mul, Nat.zero_add, List.getElem_cons_zero]
      rw [List.getElem?_append_left (by simp [fileCells]; omega)]
    | succ k =>
      simp only [filesCells, List.flatMap_cons, List.getElem_cons_succ]
      rw [List.getElem?_append_right (by simp [fileCells]; omega)]
      rw [show (k + 1) * 3 + c - (fileCells x.1 x.2).length = k * 3 + c from by simp [fileCells]; omega]
      exact ih k (by simpa using hk)
def fileVal (p : ByteArray × F) : Value := .agg #[.string p.1, .string p.2.b, .int .i64 p.2.k]

theorem fvalues_calls (a : Option Addr) (n c : Nat) (w : World) :
    Calls Try.prog 87 #[.slice a n c] w fun e w' => e = .returned (.func (.func 117) #[] #[.pointer (some ⟨w.heap.size, 0, none⟩)]) ∧ w.alloc (.cells #[.slice a n c] 62) = w' := by
  go_enter Try.func87, Try.ntmps87
  go_wp2
  go_ret
  exact ⟨rfl, rfl⟩

set_option maxRecDepth 100000 in
set_option maxHeartbeats 2000000 in
theorem fvalues1_calls (n : Nat) (hn : 1 ≤ n) (l Bs n₀ c : Nat) (a : Option Addr) (L : List (ByteArray × F)) (hreach : L.length ≤ 1000000) (J Jx : List (ByteArray × F) → World → Prop)
    (hJ : ∀ s A o, J s A → J s (A.alloc o))
    (hY : ∀ pre x W, J pre W → pre.length < L.length → YieldAt Fence.wide (n - 1) Try.prog l #[fileVal x] W fun e W' =>
      (e = .returned (.bool true) ∧ J (pre ++ [x]) W' ∧ Below n₀ W W') ∨ (e = .returned (.bool false) ∧ Jx (pre ++ [x]) W'))
    (W : World) (hm : W.cell? ⟨Bs, 0, none⟩ = some (.slice a L.length c)) (hn0 : n₀ ≤ W.heap.size) (hs : Rd W n₀ 3 (.slice a L.length c) L.length (filesCells L)) (h0 : J [] W) :
    CallsIn Fence.wide n Try.prog 117 #[.func (.yield l) #[] #[], .pointer (some ⟨Bs, 0, none⟩)] W fun e W' => (∃ v, e = .returned v) ∧
      ((∃ xs, xs = L ∧ J xs W') ∨ (∃ pre, Jx pre W')) := by
  refine callsIn_of_wp Try.func117 rfl trivial ?_ rfl
  simp only [Try.ntmps117, List.size_toArray, List.length_cons, List.length_nil, Nat.reduceAdd, Nat.reduceSub, Array.replicate_succ, Array.replicate_zero, List.push_toArray, List.append_toArray, List.nil_append, List.cons_append]
  gi_wp2
  gi_loopw [7] (fun i wr => ∃ k : Nat, k ≤ L.length ∧ i = .int .i64 k ∧ J (L.take k) wr ∧ Below n₀ W wr)
    (fun i _ => L.length - (intOf i).toNat)
  case atStart => exact ⟨0, Nat.zero_le _, rfl, h0, Below.refl _ _⟩
  case round =>
    obtain ⟨k, hk, rfl, hJs, hnx⟩ := hrel
    by_cases hlt : k < L.length
    · obtain ⟨b, off, rfl, hb, _, hcs⟩ := Rd.at (hs.below hnx (Nat.le_refl _)) (by omega)
      have d0 := hcs (k * 3 + 0) (by omega)
      have d1 := hcs (k * 3 + 1) (by omega)
      have d2 := hcs (k * 3 + 2) (by omega)
      rw [filesCells_get L k 0 hlt (by omega)] at d0
      rw [filesCells_get L k 1 hlt (by omega), ← Nat.add_assoc] at d1
      rw [filesCells_get L k 2 hlt (by omega), ← Nat.add_assoc] at d2
      have Hk := Lib.hid (List.take_succ_eq_append_getElem hlt)
      generalize L[k] = x at *
      simp only [fileCells, List.getElem?_cons_zero, List.getElem?_cons_succ, Nat.add_zero] at d0 d1 d2
      obtain ⟨fn, tmps, assign, body, hy, hR⟩ := hY _ x _ (hJ _ _ (.cells #[.string x.1, .string x.2.b, .int .i64 x.2.k] 65) hJs) (by simp; omega)
      unfold fileVal at hy
      clear hJs h0 hcs hs
      gi_wp2
      refine hR.mono ?_
      rintro e W3 (⟨rfl, hJ3, hk3⟩ | ⟨rfl, hJx3⟩)
      · gi_wp2
        go_roundw
        case rel => exact ⟨k + 1, by omega, by simp, by rw [Hk.out]; exact hJ3, hnx.trans (((Below.refl _ _).alloc (Nat.le_trans hn0 hnx.size) _).trans hk3)⟩
        case measure => simp [intOf]; omega
      · gi_wp2
        refine bodyPost_ret (results_none rfl _ _ _) rfl ?_
        exact ⟨⟨_, rfl⟩, .inr ⟨_, hJx3⟩⟩
    · obtain rfl : k = L.length := by omega
      gi_wp2
      go_end0
      exact ⟨⟨_, rfl⟩, .inl ⟨_, by simp, hJs⟩⟩
theorem fvalues_stops (n : Nat) (hn : 1 ≤ n) (Bs n₀ c : Nat) (a : Option Addr) (L : List (ByteArray × F)) (hreach : L.length ≤ 1000000) (w : World) (hBs : Bs < w.heap.size) (hm : w.cell? ⟨Bs, 0, none⟩ = some (.slice a L.length c)) (hn0 : n₀ ≤ w.heap.size) (hs : Rd w n₀ 3 (.slice a L.length c) L.length (filesCells L)) :
    SeqStopsK Fence.wide n Try.prog 117 #[.pointer (some ⟨Bs, 0, none⟩)] (fun x => #[fileVal x]) (Below n₀) (fun xs => xs = L) (fun _ => True) L.length w := fun l J Jx W hW hJ _ hY h0 =>
  (fvalues1_calls n hn l Bs n₀ c a L hreach J Jx (fun s A o h => hJ s A _ none h (World.grownBy_alloc A o none) (fun r e => by cases e)) hY W ((hW.cell (p := ⟨Bs, 0, none⟩) hBs).trans hm) (Nat.le_trans hn0 hW.size) (hs.below hW hn0) h0).mono fun e W' ⟨h1, h2⟩ => ⟨h1, h2.imp id fun ⟨pre, h⟩ => ⟨pre, trivial, h⟩⟩
end Go.Proofs.Ytoaegleieacokaa
