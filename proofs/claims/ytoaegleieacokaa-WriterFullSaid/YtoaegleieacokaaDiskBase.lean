/- The disk's state, as a value and as it lies in the world; no function of the program yet. -/
import Derived.Test.YtoaegleieacokaaMapRange
import Derived.WalkSpells
namespace Go.Proofs.Ytoaegleieacokaa
open Go.RowKit Go.Shelf

/-- Of what was there nothing has turned but the blocks of bs. -/
structure Chg (bs : List Nat) (W W' : World) : Prop where
  os : W'.os = W.os
  tape : W'.tape = W.tape
  output : W'.output = W.output
  size : W.heap.size ≤ W'.heap.size
  block : ∀ k, k < W.heap.size → k ∉ bs → W'.heap[k]? = W.heap[k]?
theorem Chg.refl (bs : List Nat) (W : World) : Chg bs W W := ⟨rfl, rfl, rfl, Nat.le_refl _, fun _ _ _ => rfl⟩
theorem Chg.trans {bs : List Nat} {A B C : World} (h : Chg bs A B) (k : Chg bs B C) : Chg bs A C :=
  ⟨k.os.trans h.os, k.tape.trans h.tape, k.output.trans h.output, Nat.le_trans h.size k.size, fun i hi hb => (k.block i (Nat.lt_of_lt_of_le hi h.size) hb).trans (h.block i hi hb)⟩
theorem Chg.below {bs : List Nat} {W W' : World} (h : Chg bs W W') {n : Nat} (hn : n ≤ W.heap.size) (hb : ∀ b ∈ bs, n ≤ b) : Below n W W' :=
  ⟨h.os, h.tape, h.output, h.size, fun k hk => h.block k (by omega) (fun hm => by have := hb k hm; omega)⟩
theorem Chg.of_below {bs : List Nat} {W W' : World} (h : Below W.heap.size W W') : Chg bs W W' := ⟨h.os, h.tape, h.output, h.size, fun k hk _ => h.block k hk⟩
theorem Chg.grown {bs : List Nat} {W W' : World} {row : Option Nat} (hg : W.grownBy W' row) (hr : ∀ r, row = some r → r ∈ bs) : Chg bs W W' :=
  ⟨hg.os, hg.tape, hg.output, hg.size, fun k hk hb => hg.block k hk (fun e => hb (hr k e.symm))⟩
theorem Chg.setCell {bs : List Nat} {W : World} {p : Addr} (hp : p.block ∈ bs) (u : Value) : Chg bs W (W.setCell p u) :=
  ⟨rfl, rfl, rfl, by simp [World.setCell], fun k _ hb => Below.heap_setCell _ _ _ _ (fun e => hb (e ▸ hp))⟩
theorem Chg.more {bs cs : List Nat} {W W' : World} (h : Chg bs W W') (hc : ∀ b ∈ bs, b ∈ cs) : Chg cs W W' := ⟨h.os, h.tape, h.output, h.size, fun k hk hb => h.block k hk (fun hm => hb (hc k hm))⟩

theorem Chg.cell {bs : List Nat} {W W' : World} (h : Chg bs W W') {g j : Nat} (hb : g ∉ bs) (hg : g < W.heap.size) {v : Value} (hc : W.cell? ⟨g, j, none⟩ = some v) : W'.cell? ⟨g, j, none⟩ = some v := (World.cell?_of_block (h.block g hg hb)).trans hc
theorem Blk.set {W : World} {B : Nat} {t : TypeId} {cs : Array Value} (h : Blk W B t cs) (j : Nat) (u : Value) : Blk (W.setCell ⟨B, j, none⟩ u) B t (cs.setIfInBounds j u) := by
  unfold Blk at h ⊢
  simp [World.setCell, Array.getElem?_modify, h]

/-! ### Lists of keys and values -/
section
variable {κ β : Type} [DecidableEq κ]
def fk (l : List (κ × β)) (k : κ) : Option β := (l.find? fun p => p.1 = k).map (·.2)
def fup (l : List (κ × β)) (k : κ) (v : β) : List (κ × β) := if k ∈ l.map (·.1) then l.map (fun p => if p.1 = k then (k, v) else p) else l ++ [(k, v)]
def fdl (l : List (κ × β)) (k : κ) : List (κ × β) := l.filter fun p => p.1 ≠ k
def enm (g : β → Value) (l : List (κ × β)) : List (κ × Value) := l.map fun p => (p.1, g p.2)
omit [DecidableEq κ] in
theorem enm_keys (g : β → Value) (l : List (κ × β)) : (enm g l).map (·.1) = l.map (·.1) := by simp [enm, Function.comp_def]
omit [DecidableEq κ] in
theorem enm_length (g : β → Value) (l : List (κ × β)) : (enm g l).length = l.length := by simp [enm]
theorem lk_enm (g : β → Value) (l : List (κ × β)) (k : κ) : lk (enm g l) k = (fk l k).map g := by
  unfold lk fk enm
  rw [List.find?_map]
  cases h : l.find? (fun p => p.1 = k) with
  | none => simp [Function.comp_def, h]
  | some p => simp [Function.comp_def, h]
theorem up_enm (g : β → Value) (l : List (κ × β)) (k : κ) (v : β) : up (enm g l) k (g v) = enm g (fup l k v) := by
  unfold up fup
  rw [enm_keys]
  split
  · unfold enm
    rw [List.map_map, List.map_map]
    apply List.map_congr_left
    intro p _
    simp only [Function.comp]
    split <;> rfl
  · simp [enm]
theorem dl_enm (g : β → Value) (l : List (κ × β)) (k : κ) : dl (enm g l) k = enm g (fdl l k) := by
  unfold dl fdl enm
  rw [List.filter_map]
  rfl
theorem fk_isSome {l : List (κ × β)} {k : κ} : (fk l k).isSome = true ↔ k ∈ l.map (·.1) := by
  unfold fk
  simp [List.find?_isSome]
theorem fk_none {l : List (κ × β)} {k : κ} : fk l k = none ↔ k ∉ l.map (·.1) := by
  rw [← fk_isSome]
  cases fk l k <;> simp
end

/-- A file: its bytes, how many of them stay. -/
structure F where
  b : ByteArray
  k : Int
def F.val (x : F) : Value := .agg #[.string x.b, .int .i64 x.k]
/-- The disk's state. -/
structure DS where
  room : Int
  l : List (ByteArray × F)
  steps : Int
  left : Int
def used (l : List (ByteArray × F)) : Nat := (l.map fun p => p.2.b.size).sum
theorem used_perm {l m : List (ByteArray × F)} (h : l.Perm m) : used l = used m := (h.map _).sum_nat
/-- The disk lies in block D, its map in block M. -/
structure DiskAt (W : World) (D M : Nat) (s : DS) : Prop where
  blk : Blk W D 102 #[.int .i64 s.room, .map (some M), .int .i64 s.steps, .int .i64 s.left]
  map : RawMap W M Value.string (enm F.val s.l)
  ne : D ≠ M
theorem DiskAt.same {W W' : World} {D M : Nat} {s : DS} (h : DiskAt W D M s) (h1 : W'.heap[D]? = W.heap[D]?) (h2 : W'.heap[M]? = W.heap[M]?) : DiskAt W' D M s := ⟨h1.trans h.blk, h.map.same h2, h.ne⟩
theorem DiskAt.chg {W W' : World} {D M : Nat} {s : DS} {bs : List Nat} (h : DiskAt W D M s) (hc : Chg bs W W') (h1 : D ∉ bs) (h2 : M ∉ bs) : DiskAt W' D M s := h.same (hc.block D h.blk.lt h1) (hc.block M h.map.lt h2)
theorem DiskAt.below {W W' : World} {D M : Nat} {s : DS} {n : Nat} (h : DiskAt W D M s) (hb : Below n W W') (h1 : D < n) (h2 : M < n) : DiskAt W' D M s := h.same (hb.block D h1) (hb.block M h2)
theorem DiskAt.now {W W' : World} {D M : Nat} {s : DS} (h : DiskAt W D M s) (hb : Below W.heap.size W W') : DiskAt W' D M s := h.below hb h.blk.lt h.map.lt
theorem DiskAt.ok {W : World} {D M : Nat} {s : DS} (h : DiskAt W D M s) : (s.l.map (·.1)).Nodup := by
  have := h.map.nodup
  rwa [enm_keys] at this
end Go.Proofs.Ytoaegleieacokaa
