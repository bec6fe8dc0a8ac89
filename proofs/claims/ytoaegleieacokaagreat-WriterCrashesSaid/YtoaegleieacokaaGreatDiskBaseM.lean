/- The disk's state, as a value and as it lies in the world; no function of the program yet. A row of one-cell elements in the midst of a block of its own: its first goes ([1:]), more come (append), one is turned. -/
import Derived.Test.YtoaegleieacokaaGreatMapsM
import Derived.WalkSpells
import Derived.Test.YtoaegleieacokaaGreatBaseM
import Derived.Deep.AppendSrc
namespace Go.Proofs.YtoaegleieacokaaGreat
open Go.RowKit Go.Shelf

/-- Of what was there nothing has turned but the blocks of bs. -/
structure Chg (bs : List Nat) (W W' : World) : Prop where
  os : W'.os = W.os
  tape : W'.tape = W.tape
  output : W'.output = W.output
  size : W.heap.size ≤ W'.heap.size
  block : ∀ k, k < W.heap.size → k ∉ bs → W'.heap[k]? = W.heap[k]?
theorem Chg.refl (bs : List Nat) (W : World) : Chg bs W W := ⟨rfl, rfl, rfl, Nat.le_refl _, fun _ _ _ => rfl⟩
theorem Chg.trans {bs : List Nat} {A B C : World} (h : Chg bs A B) (k : Chg bs B C) : Chg bs A C :=
  ⟨k.os.trans h.os, k.tape.trans h.tape, k.output.trans h.output, Nat.le_trans h.size k.size, fun i hi hb => (k.block i (Nat.lt_of_lt_of_le hi h.size) hb).trans (h.block i hi hb)⟩
theorem Chg.below {bs : List Nat} {W W' : World} (h : Chg bs W W') {n : Nat} (hn : n ≤ W.heap.size) (hb : ∀ b ∈ bs, n ≤ b) : Below n W W' :=
  ⟨h.os, h.tape, h.output, h.size, fun k hk => h.block k (by omega) (fun hm => by have := hb k hm; omega)⟩
theorem Chg.of_below {bs : List Nat} {W W' : World} (h : Below W.heap.size W W') : Chg bs W W' := ⟨h.os, h.tape, h.output, h.size, fun k hk _ => h.block k hk⟩
theorem Chg.grown {bs : List Nat} {W W' : World} {row : Option Nat} (hg : W.grownBy W' row) (hr : ∀ r, row = some r → r ∈ bs) : Chg bs W W' :=
  ⟨hg.os, hg.tape, hg.output, hg.size, fun k hk hb => hg.block k hk (fun e => hb (hr k e.symm))⟩
theorem Chg.setCell {bs : List Nat} {W : World} {p : Addr} (hp : p.block ∈ bs) (u : Value) : Chg bs W (W.setCell p u) :=
  ⟨rfl, rfl, rfl, by simp [World.setCell], fun k _ hb => Below.heap_setCell _ _ _ _ (fun e => hb (e ▸ hp))⟩
theorem Chg.more {bs cs : List Nat} {W W' : World} (h : Chg bs W W') (hc : ∀ b ∈ bs, b ∈ cs) : Chg cs W W' := ⟨h.os, h.tape, h.output, h.size, fun k hk hb => h.block k hk (fun hm => hb (hc k hm))⟩

theorem Chg.cell {bs : List Nat} {W W' : World} (h : Chg bs W W') {g j : Nat} (hb : g ∉ bs) (hg : g < W.heap.size) {v : Value} (hc : W.cell? ⟨g, j, none⟩ = some v) : W'.cell? ⟨g, j, none⟩ = some v := (World.cell?_of_block (h.block g hg hb)).trans hc
theorem Blk.set {W : World} {B : Nat} {t : TypeId} {cs : Array Value} (h : Blk W B t cs) (j : Nat) (u : Value) : Blk (W.setCell ⟨B, j, none⟩ u) B t (cs.setIfInBounds j u) := by
  unfold Blk at h ⊢
  simp [World.setCell, Array.getElem?_modify, h]

/-! ### Lists of keys and values -/
section
variable {κ β : Type} [DecidableEq κ]
def fk (l : List (κ × β)) (k : κ) : Option β := (l.find? fun p => p.1 = k).map (·.2)
def fup (l : List (κ × β)) (k : κ) (v : β) : List (κ × β) := if k ∈ l.map (·.1) then l.map (fun p => if p.1 = k then (k, v) else p) else l ++ [(k, v)]
def fdl (l : List (κ × β)) (k : κ) : List (κ × β) := l.filter fun p => p.1 ≠ k
def enm (g : β → Value) (l : List (κ × β)) : List (κ × Value) := l.map fun p => (p.1, g p.2)
omit [DecidableEq κ] in
theorem enm_keys (g : β → Value) (l : List (κ × β)) : (enm g l).map (·.1) = l.map (·.1) := by simp [enm, Function.comp_def]
omit [DecidableEq κ] in
theorem enm_length (g : β → Value) (l : List (κ × β)) : (enm g l).length = l.length := by simp [enm]
theorem lk_enm (g : β → Value) (l : List (κ × β)) (k : κ) : lk (enm g l) k = (fk l k).map g := by
  unfold lk fk enm
  rw [List.find?_map]
  cases h : l.find? (fun p => p.1 = k) with
  | none => simp [Function.comp_def, h]
  | some p => simp [Function.comp_def, h]
theorem up_enm (g : β → Value) (l : List (κ × β)) (k : κ) (v : β) : up (enm g l) k (g v) = enm g (fup l k v) := by
  unfold up fup
  rw [enm_keys]
  split
  · unfold enm
    rw [List.map_map, List.map_map]
    apply List.map_congr_left
    intro p _
    simp only [Function.comp]
    split <;> rfl
  · simp [enm]
theorem dl_enm (g : β → Value) (l : List (κ × β)) (k : κ) : dl (enm g l) k = enm g (fdl l k) := by
  unfold dl fdl enm
  rw [List.filter_map]
  rfl
theorem fk_isSome {l : List (κ × β)} {k : κ} : (fk l k).isSome = true ↔ k ∈ l.map (·.1) := by
  unfold fk
  simp [List.find?_isSome]
theorem fk_none {l : List (κ × β)} {k : κ} : fk l k = none ↔ k ∉ l.map (·.1) := by
  rw [← fk_isSome]
  cases fk l k <;> simp
end

/-- A file: its bytes, how many of them stay. -/
structure F where
  b : ByteArray
  k : Int
def F.val (x : F) : Value := .agg #[.string x.b, .int .i64 x.k]
/-- The disk's state. -/
structure DS where
  room : Int
  l : List (ByteArray × F)
  steps : Int
  left : Int
def used (l : List (ByteArray × F)) : Nat := (l.map fun p => p.2.b.size).sum
theorem used_perm {l m : List (ByteArray × F)} (h : l.Perm m) : used l = used m := (h.map _).sum_nat
/-- The disk lies in block D, its map in block M. -/
structure DiskAt (W : World) (D M : Nat) (s : DS) : Prop where
  blk : Blk W D 66 #[.int .i64 s.room, .map (some M), .int .i64 s.steps, .int .i64 s.left]
  map : RawMap W M Value.string (enm F.val s.l)
  ne : D ≠ M
theorem DiskAt.same {W W' : World} {D M : Nat} {s : DS} (h : DiskAt W D M s) (h1 : W'.heap[D]? = W.heap[D]?) (h2 : W'.heap[M]? = W.heap[M]?) : DiskAt W' D M s := ⟨h1.trans h.blk, h.map.same h2, h.ne⟩
theorem DiskAt.chg {W W' : World} {D M : Nat} {s : DS} {bs : List Nat} (h : DiskAt W D M s) (hc : Chg bs W W') (h1 : D ∉ bs) (h2 : M ∉ bs) : DiskAt W' D M s := h.same (hc.block D h.blk.lt h1) (hc.block M h.map.lt h2)
theorem DiskAt.below {W W' : World} {D M : Nat} {s : DS} {n : Nat} (h : DiskAt W D M s) (hb : Below n W W') (h1 : D < n) (h2 : M < n) : DiskAt W' D M s := h.same (hb.block D h1) (hb.block M h2)
theorem DiskAt.now {W W' : World} {D M : Nat} {s : DS} (h : DiskAt W D M s) (hb : Below W.heap.size W W') : DiskAt W' D M s := h.below hb h.blk.lt h.map.lt
theorem DiskAt.ok {W : World} {D M : Nat} {s : DS} (h : DiskAt W D M s) : (s.l.map (·.1)).Nodup := by
  have := h.map.nodup
  rwa [enm_keys] at this
end Go.Proofs.YtoaegleieacokaaGreat
namespace Go.Proofs.YtoaegleieacokaaGreat
open Go.RowKit Go.Shelf

/-- n elements from off on in block g, room for cap. -/
structure RowAt (w : World) (g off n cap : Nat) (e : TypeId) (xs : List Value) : Prop where
  len : xs.length = n
  le : n ≤ cap
  most : cap ≤ maxLen
  blk : ∃ cur : Array Value, Blk w g e cur ∧ cur.size = off + cap ∧ ∀ j u, xs[j]? = some u → cur[off + j]? = some u
section
variable {w w' : World} {g off n cap : Nat} {e : TypeId} {xs : List Value}
theorem RowAt.lt (h : RowAt w g off n cap e xs) : g < w.heap.size := by obtain ⟨_, h1, _⟩ := h.blk; exact h1.lt
theorem RowAt.cell (h : RowAt w g off n cap e xs) {j : Nat} {u : Value} (hu : xs[j]? = some u) : w.cell? ⟨g, off + j, none⟩ = some u := by
  obtain ⟨cur, h1, _, h3⟩ := h.blk
  rw [h1.cell]
  exact h3 j u hu
theorem RowAt.frozen (h : RowAt w g off n cap e xs) (j : Nat) : w.frozen? ⟨g, j, none⟩ = false := by
  obtain ⟨cur, h1, _⟩ := h.blk
  exact h1.frozen j
theorem RowAt.kept (h : RowAt w g off n cap e xs) (hb : w'.heap[g]? = w.heap[g]?) : RowAt w' g off n cap e xs := by
  obtain ⟨cur, h1, h2, h3⟩ := h.blk
  exact ⟨h.len, h.le, h.most, cur, hb.trans h1, h2, h3⟩
theorem RowAt.below {m : Nat} (h : RowAt w g off n cap e xs) (hb : Below m w w') (hm : g < m) : RowAt w' g off n cap e xs := h.kept (hb.block g hm)
theorem RowAt.chg {bs : List Nat} (h : RowAt w g off n cap e xs) (hc : Chg bs w w') (hb : g ∉ bs) : RowAt w' g off n cap e xs := h.kept (hc.block g h.lt hb)
theorem RowAt.rd (h : RowAt w g off n cap e xs) {m : Nat} (hm : g < m) : Rd w m 1 (.slice (some ⟨g, off, none⟩) n cap) n xs := by
  refine ⟨by rw [h.len, Nat.mul_one], _, _, rfl, h.le, fun _ => ⟨g, off, rfl, hm, fun j hj => ?_⟩⟩
  obtain ⟨u, hu⟩ : ∃ u, xs[j]? = some u := ⟨xs[j]'(by rw [h.len]; omega), List.getElem?_eq_getElem _⟩
  rw [hu]
  exact h.cell hu
/-- The first goes. -/
theorem RowAt.tail {x : Value} (h : RowAt w g off (n + 1) cap e (x :: xs)) : RowAt w g (off + 1) n (cap - 1) e xs := by
  obtain ⟨cur, h1, h2, h3⟩ := h.blk
  have hle := h.le
  have hm := h.most
  refine ⟨by have := h.len; simpa using this, by omega, by omega, cur, h1, by omega, fun j u hu => ?_⟩
  rw [Nat.add_right_comm, Nat.add_assoc]
  exact h3 (j + 1) u (by rw [List.getElem?_cons_succ]; exact hu)
/-- One is turned. -/
theorem RowAt.set (h : RowAt w g off n cap e xs) {j : Nat} (hj : j < n) (u : Value) : RowAt (w.setCell ⟨g, off + j, none⟩ u) g off n cap e (xs.set j u) := by
  obtain ⟨cur, h1, h2, h3⟩ := h.blk
  have hle := h.le
  refine ⟨by rw [List.length_set]; exact h.len, h.le, h.most, _, h1.set (off + j) u, by rw [Array.size_setIfInBounds]; exact h2, fun k v hv => ?_⟩
  rw [Array.getElem?_setIfInBounds]
  rw [List.getElem?_set] at hv
  by_cases e1 : j = k
  · subst e1
    rw [if_pos rfl, if_pos (by rw [h.len]; exact hj)] at hv
    rw [if_pos rfl, if_pos (by omega)]
    exact hv
  · rw [if_neg e1] at hv
    rw [if_neg (by omega)]
    exact h3 k v hv
theorem RowAt.lit (w : World) (e : TypeId) (x : Value) : RowAt (w.alloc (.cells #[x] e)) w.heap.size 0 1 1 e [x] :=
  ⟨rfl, Nat.le_refl _, by unfold maxLen; omega, #[x], Blk.new w e _, rfl, fun j u hu => by
    match j, hu with
    | 0, hu => simpa using hu⟩
/-- One more comes. -/
theorem run_append_at {P : Program} (t ty : TypeId) (i : TypeInfo) (z : Value) (bytes : Nat) (ht : P.underlying t = some (.slice e)) (hi : P.info? e = some i) (hz : i.zero = some z) (hsize : i.size = 1) (hby : i.bytes = bytes) (hzs : z.cells.size = 1)
    (h : RowAt w g off n cap e xs) (a : Addr) (c : Nat) (u : Value) (hu : w.cell? a = some u) (h1 : u.oneCell' = true) (h63 : n + 1 ≤ maxLen) (hbytes : (n + 1) * bytes ≤ 140737488355328) :
    ∃ g' off' cap' w', (Builtin.append_ #[t, t] ty #[.slice (some ⟨g, off, none⟩) n cap, .slice (some a) 1 c]).run P w = .ok (.slice (some ⟨g', off', none⟩) (n + 1) cap') w' ∧
      RowAt w' g' off' (n + 1) cap' e (xs ++ [u]) ∧ w.grownBy w' (some g) ∧ (g' = g ∨ g' = w.heap.size) ∧ w.heap.size ≤ w'.heap.size := by
  obtain ⟨cur, b1, b2, b3⟩ := h.blk
  have hsrc : Src P 1 t (.slice (some a) 1 c) 1 [u] w := Src.ofSlice w ht a 1 c [u] rfl (fun j v hv => by
    match j, hv with
    | 0, hv =>
      have : a.add 0 = a := by unfold Addr.add; split <;> simp_all
      rw [this]
      simpa [hu] using hv) (by simpa using h1)
  have hsmall : n + 1 ≤ 9223372036854775807 := by simp only [maxLen] at h63; omega
  replace hsrc : Src P i.size t (.slice (some a) 1 c) 1 [u] w := by rw [hsize]; exact hsrc
  by_cases hroom : n + 1 ≤ cap
  · have hr := run_append_room_src (P := P) w t t ty e i ht hi g off n cap (.slice (some a) 1 c) 1 [u] hsrc hroom
      (fun j hj => by
        obtain rfl : j = 0 := by simpa using hj
        rw [hsize, b1.cell, Array.getElem?_eq_getElem (by omega)]
        rfl)
      (fun j _ => b1.frozen _)
    rw [hsize, Nat.mul_one] at hr
    refine ⟨g, off, cap, _, hr, ⟨by simp [h.len], hroom, h.most, _, b1.set (off + n) u, by rw [Array.size_setIfInBounds]; exact b2, fun k v hv => ?_⟩, ⟨rfl, rfl, rfl, by simp [World.setCells, World.setCell], fun k _ hk => ?_⟩, .inl rfl, by simp [World.setCells, World.setCell]⟩
    · rw [Array.getElem?_setIfInBounds]
      rw [List.getElem?_append] at hv
      split at hv
      · next hlt =>
        rw [h.len] at hlt
        rw [if_neg (by omega)]
        exact b3 k v hv
      · next hge =>
        rw [h.len] at hge hv
        have hkn : k = n := by
          have := (List.getElem?_eq_some_iff.1 hv).1
          simp at this
          omega
        subst hkn
        rw [if_pos rfl, if_pos (by omega)]
        simpa using hv
    · exact Below.heap_setCell _ _ _ _ (fun e => hk (by rw [e]))
  · have hold : (Builtin.firstCells i.size n (.slice (some ⟨g, off, none⟩) n cap)).run P w.drew = .ok xs.toArray w.drew := by
      rw [hsize]
      exact run_firstCells_some (P := P) w.drew 1 n ⟨g, off, none⟩ n cap xs (by rw [h.len, Nat.mul_one]) (fun j v hv => by
        rw [Go.WideShapes.add_plain]
        exact h.cell hv)
    have hr := run_append_grow_src (P := P) w t t ty e i z ht hi hz (some ⟨g, off, none⟩) n cap xs hold (.slice (some a) 1 c) 1 [u] hsrc (by omega) (by omega) (by subst hby; exact growslice_fits (by omega) hbytes)
    have hge := grownCap_ge w (n + 1) cap e
    have hcm : grownCap w (n + 1) cap e ≤ maxLen := grownCap_le_maxLen w (n + 1) cap e h63
    refine ⟨w.heap.size, 0, _, _, hr, ⟨by simp [h.len], hge, hcm, _, Blk.new w.drew e _, ?_, fun k v hv => ?_⟩, ⟨rfl, rfl, rfl, by simp, fun k hk _ => heap_alloc_old w.drew _ k hk⟩, .inr rfl, by simp⟩
    · simp only [Array.size_append, List.size_toArray, size_zeroCells, hzs, List.length_append, h.len, List.length_cons, List.length_nil]
      omega
    · have hk := (List.getElem?_eq_some_iff.1 hv).1
      rw [Nat.zero_add, Array.getElem?_append, if_pos (by simpa using hk)]
      simpa using hv
end
end Go.Proofs.YtoaegleieacokaaGreat
