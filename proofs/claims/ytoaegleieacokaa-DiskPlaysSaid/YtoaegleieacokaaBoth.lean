/- The disk and the reference's beside it; does: one step on both. -/
import Derived.Test.YtoaegleieacokaaRefOf
import Derived.Test.YtoaegleieacokaaDiskFin
import Derived.Deep.RegionHeld3
namespace Go.Proofs.Ytoaegleieacokaa
open Go.RowKit Go.Shelf

theorem owns_chg {W W' : World} {base : Nat} {e : TypeId} {sz : Nat} {v : Value} {n : Nat} {xs : List Value} {bs : List Nat} (h : W.ownsRow base e sz v n xs) (hc : Chg bs W W') (hb : ∀ b ∈ bs, v.ownBlock ≠ some b) : W'.ownsRow base e sz v n xs := by
  have hlt := h.lt
  obtain ⟨hl, h⟩ := h
  refine ⟨hl, ?_⟩
  rcases h with h | ⟨g, cap, cur, h1, h2, h3, h4⟩
  · exact .inl h
  · have hv : v.ownBlock = some g := by rw [h1]; rfl
    exact .inr ⟨g, cap, cur, h1, h2, (hc.block g (hlt g hv).2 (fun hm => hb g hm hv)).trans h3, h4⟩
theorem cell_of_heap {W W' : World} {b j : Nat} {x : Option Value} (h : W'.heap[b]? = W.heap[b]?) (hc : W.cell? ⟨b, j, none⟩ = x) : W'.cell? ⟨b, j, none⟩ = x := (World.cell?_of_block (a := ⟨b, j, none⟩) h).trans hc
theorem RefAt.chgX {n : Nat} {X bs : List Nat} {w w' : World} {R : Nat} {v : Value} {s : DS} (h : RefAt n X w R v s) (hc : Chg bs w w') (hs : ∀ b ∈ bs, b ∈ X) : RefAt n X w' R v s :=
  ⟨(hc.block R h.blk.lt (fun hm => h.RX (hs R hm))).trans h.blk, owns_chg h.own hc (fun b hb => h.vX b (hs b hb)), h.hR, h.ne, h.RX, h.vX⟩
theorem RefAt.chg {n D M : Nat} {w w' : World} {R : Nat} {v : Value} {s : DS} (h : RefAt n [D, M] w R v s) (hc : Chg [D, M] w w') : RefAt n [D, M] w' R v s :=
  ⟨(hc.block R h.blk.lt h.RX).trans h.blk, owns_chg h.own hc h.vX, h.hR, h.ne, h.RX, h.vX⟩
/-- The blocks X lie as they lay. -/
def Kx (X : List Nat) (w w' : World) : Prop := ∀ b ∈ X, w'.heap[b]? = w.heap[b]?
theorem Kx.trans {X : List Nat} {a b c : World} (h : Kx X a b) (g : Kx X b c) : Kx X a c := fun x hx => (g x hx).trans (h x hx)
theorem Kx.refl (X : List Nat) (w : World) : Kx X w w := fun _ _ => rfl
/-- The disk at D, M, the reference's at R; neither lies in the blocks X. -/
structure Both (n : Nat) (W : World) (D M R : Nat) (X : List Nat) (r s : DS) (w : World) : Prop where
  dk : Dk n W D M s w
  rf : ∃ v, RefAt n (D :: M :: X) w R v r
  lt : ∀ b ∈ X, b < w.heap.size ∧ b ≠ D ∧ b ≠ M
section
variable {n : Nat} {W : World} {D M R : Nat} {X : List Nat} {r s r' s' : DS} {w w' : World}
theorem Both.next (h : Both n W D M R X r s w) (hb : Below w.heap.size w w') : Both n W D M R X r s w' := ⟨h.dk.next hb, h.rf.imp fun _ hv => hv.next hb, fun b hb' => ⟨Nat.lt_of_lt_of_le (h.lt b hb').1 hb.size, (h.lt b hb').2⟩⟩
theorem Both.kx (h : Both n W D M R X r s w) (hb : Below w.heap.size w w') : Kx X w w' := fun b hb' => hb.block b (h.lt b hb').1
theorem Both.kxc (h : Both n W D M R X r s w) (hc : Chg [D, M] w w') : Kx X w w' := fun b hb' => hc.block b (h.lt b hb').1 (by simp; exact (h.lt b hb').2)
theorem Both.disk (h : Both n W D M R X r s w) (hd : Dk n W D M s' w') (hc : Chg [D, M] w w') : Both n W D M R X r s' w' := ⟨hd, h.rf.imp fun _ hv => hv.chgX hc (by simp), fun b hb' => ⟨Nat.lt_of_lt_of_le (h.lt b hb').1 hc.size, (h.lt b hb').2⟩⟩
theorem Both.xs (h : Both n W D M R X r s w) : ∀ b ∈ D :: M :: X, b < w.heap.size := fun b hb => by
  rcases List.mem_cons.1 hb with rfl | hb
  · exact h.dk.at'.blk.lt
  · rcases List.mem_cons.1 hb with rfl | hb
    · exact h.dk.at'.map.lt
    · exact (h.lt b hb).1
/-- One block less that is kept. -/
theorem Both.less {F : Nat} (h : Both n W D M R (F :: X) r s w) : Both n W D M R X r s w := by
  obtain ⟨v, hv⟩ := h.rf
  exact ⟨h.dk, ⟨v, hv.blk, hv.own, hv.hR, hv.ne, fun hx => hv.RX (by simp only [List.mem_cons] at hx ⊢; rcases hx with hx | hx | hx <;> simp [hx]), fun b hb => hv.vX b (by simp only [List.mem_cons] at hb ⊢; rcases hb with hx | hx | hx <;> simp [hx])⟩, fun b hb => h.lt b (by simp [hb])⟩
/-- One block more: it is newer than all there was. -/
theorem Both.more {F : Nat} (h : Both n W D M R X r s w) (hb : Below w.heap.size w w') (hF : w.heap.size ≤ F) (hF' : F < w'.heap.size) : Both n W D M R (F :: X) r s w' := by
  obtain ⟨v, hv⟩ := h.rf
  have h2 := h.next hb
  have hv2 := hv.more hb hF
  have hX := h.xs
  refine ⟨h2.dk, ⟨v, hv2.blk, hv2.own, hv2.hR, hv2.ne, fun hx => hv2.RX (by simp only [List.mem_cons] at hx ⊢; rcases hx with hx | hx | hx | hx <;> simp [hx]), fun b hb => hv2.vX b (by simp only [List.mem_cons] at hb ⊢; rcases hb with hx | hx | hx | hx <;> simp [hx])⟩, fun b hb => ?_⟩
  rcases List.mem_cons.1 hb with rfl | hb
  · have h3 := hX D (by simp)
    have h4 := hX M (by simp)
    exact ⟨hF', by omega, by omega⟩
  · exact h2.lt b hb
/-- What the reference's contracts ask. -/
structure ROk (r : DS) : Prop where
  steps : 0 ≤ r.steps ∧ r.steps < 4611686018427387904
  left : r.left ≤ 9223372036854775807
  len : r.l.length ≤ 1000000
  room : 0 ≤ r.room ∧ r.room ≤ 1000000
  used : used r.l ≤ 4611686018427387904
  sound : ∀ p ∈ r.l, FOk p.2
theorem Br.ok {N : Int} (h : Br r s) (hf : s.Fin N) (hN : N < 4611686018427380000) : ROk r := by
  have h1 := h.steps
  have h2 := h.left
  have h3 := h.len
  have h4 := h.room
  have h5 := h.used
  have f1 := hf.steps0
  have f2 := hf.steps
  have f3 := hf.left
  have f4 := hf.many
  have f5 := hf.room0
  have f6 := hf.room
  have f7 := hf.used
  exact ⟨⟨by omega, by omega⟩, by omega, by omega, ⟨by omega, by omega⟩, by omega, fun p hp => hf.fok p (h.perm.mem_iff.1 hp)⟩
end

/-- A step. -/
structure St where
  what : Int
  n : Int
  name : ByteArray
  to : ByteArray
  b : ByteArray
  keep : Int
def St.cells (t : St) : List Value := [.int .i64 t.what, .int .i64 t.n, .string t.name, .string t.to, .string t.b, .int .u64 t.keep]
def St.val (t : St) : Value := .agg #[.int .i64 t.what, .int .i64 t.n, .string t.name, .string t.to, .string t.b, .int .u64 t.keep]
def DS.rcrash (s : DS) (keep : Int) : DS := { s with l := crUp keep s.l.length s.l, left := -1 }
def DS.does (s : DS) (t : St) : Int × DS :=
  if t.what ≤ 0 then s.create t.name else if t.what ≤ 3 then s.append t.name t.b else if t.what ≤ 5 then s.sync t.name else if t.what = 6 then s.rename t.name t.to
  else if t.what = 7 then s.remove t.name else if t.what = 8 then s.cut t.name t.n else if t.what = 9 then (0, { s with left := max t.n 0 }) else (0, s.crash t.keep)
def DS.rdoes (s : DS) (t : St) : Int × DS :=
  if t.what ≤ 0 then s.rcreate t.name else if t.what ≤ 3 then s.rappend t.name t.b else if t.what ≤ 5 then s.rsync t.name else if t.what = 6 then s.rrename t.name t.to
  else if t.what = 7 then s.rremove t.name else if t.what = 8 then s.rcut t.name t.n else if t.what = 9 then (0, { s with left := max t.n 0 }) else (0, s.rcrash t.keep)
theorem br_does {r s : DS} (h : Br r s) (t : St) : (r.rdoes t).1 = (s.does t).1 ∧ Br (r.rdoes t).2 (s.does t).2 := by
  unfold DS.rdoes DS.does
  by_cases h0 : t.what ≤ 0
  · rw [if_pos h0, if_pos h0]; exact h.create _
  rw [if_neg h0, if_neg h0]
  by_cases h1 : t.what ≤ 3
  · rw [if_pos h1, if_pos h1]; exact h.append _ _
  rw [if_neg h1, if_neg h1]
  by_cases h2 : t.what ≤ 5
  · rw [if_pos h2, if_pos h2]; exact h.sync _
  rw [if_neg h2, if_neg h2]
  by_cases h3 : t.what = 6
  · rw [if_pos h3, if_pos h3]; exact h.rename _ _
  rw [if_neg h3, if_neg h3]
  by_cases h4 : t.what = 7
  · rw [if_pos h4, if_pos h4]; exact h.remove _
  rw [if_neg h4, if_neg h4]
  by_cases h5 : t.what = 8
  · rw [if_pos h5, if_pos h5]; exact h.cut _ _
  rw [if_neg h5, if_neg h5]
  by_cases h6 : t.what = 9
  · rw [if_pos h6, if_pos h6]; exact ⟨rfl, h.limit _⟩
  rw [if_neg h6, if_neg h6]
  exact ⟨rfl, h.crash _⟩
theorem fin_does {N : Int} {s : DS} (h : s.Fin N) (t : St) (hn : t.n ≤ 9223372036854775807) (hk0 : 0 ≤ t.keep) (hk1 : t.keep < 18446744073709551616) : (s.does t).2.Fin (N + 1) := by
  unfold DS.does
  by_cases h0 : t.what ≤ 0
  · rw [if_pos h0]; exact fin_create h _
  rw [if_neg h0]
  by_cases h1 : t.what ≤ 3
  · rw [if_pos h1]; exact fin_append h _ _
  rw [if_neg h1]
  by_cases h2 : t.what ≤ 5
  · rw [if_pos h2]; exact fin_sync h _
  rw [if_neg h2]
  by_cases h3 : t.what = 6
  · rw [if_pos h3]; exact fin_rename h _ _
  rw [if_neg h3]
  by_cases h4 : t.what = 7
  · rw [if_pos h4]; exact fin_remove h _
  rw [if_neg h4]
  by_cases h5 : t.what = 8
  · rw [if_pos h5]; exact fin_cut h _ _
  rw [if_neg h5]
  by_cases h6 : t.what = 9
  · rw [if_pos h6]; exact (fin_limit h hn).up (by omega)
  rw [if_neg h6]
  exact (fin_crash h _ hk0 hk1).up (by omega)
theorem both_end {n : Nat} {W : World} {D M R Fb : Nat} {X : List Nat} {r r' s s1 : DS} {w0 w5 w6 : World} {v6 : Value} (h0 : Both n W D M R X r s w0) (h5 : Dk n W D M s1 w5) (hC : Chg [D, M] w0 w5) (h6 : RefAt n (Fb :: D :: M :: X) w6 R v6 r') (hK6 : Kp n (Fb :: D :: M :: X) w5 w6) : Both n W D M R X r' s1 w6 ∧ Kx X w0 w6 :=
  ⟨⟨⟨h5.at'.same (hK6.keep D (by simp) h5.at'.blk.lt) (hK6.keep M (by simp) h5.at'.map.lt), h5.below.trans hK6.below, h5.hD, h5.hM, h5.ok⟩, ⟨v6, h6.less⟩, fun b hb => ⟨Nat.lt_of_lt_of_le (h0.lt b hb).1 (Nat.le_trans hC.size hK6.below.size), (h0.lt b hb).2⟩⟩,
    fun b hb => (hK6.keep b (by simp [hb]) (Nat.lt_of_lt_of_le (h0.lt b hb).1 hC.size)).trans (h0.kxc hC b hb)⟩
set_option maxRecDepth 100000 in
set_option maxHeartbeats 1000000 in
theorem does_create {n : Nat} {W : World} {D M R : Nat} {X : List Nat} {r s : DS} {N : Int} (hb : Br r s) (hf : s.Fin N) (hN : N < 4611686018427380000) (t : St) (h0 : t.what ≤ 0) (w : World) (h : Both n W D M R X r s w) :
    Calls Try.prog 45 #[.pointer (some ⟨D, 0, none⟩), .pointer (some ⟨R, 0, none⟩), t.val] w fun e w' => e = .returned (.tuple #[.int .i64 (s.create t.name).1, .int .i64 (r.rcreate t.name).1]) ∧ Both n W D M R X (r.rcreate t.name).2 (s.create t.name).2 w' ∧ Kx X w w' := by
  have ok := hb.ok hf hN
  have hfr := (fin_create hf t.name).ok (by omega)
  obtain ⟨⟨e1, s1⟩, hs1⟩ : ∃ q, s.create t.name = q := ⟨_, rfl⟩
  rw [hs1] at hfr ⊢
  obtain ⟨what, m, nm, to, b, keep⟩ := t
  simp only at h0 hs1
  have hB0 : Below w.heap.size w (w.alloc (.cells #[.int .i64 what, .int .i64 m, .string nm, .string to, .string b, .int .u64 keep] 71)) := (Below.refl _ w).alloc (Nat.le_refl _) _
  have bF := Blk.new w 71 #[.int .i64 what, .int .i64 m, .string nm, .string to, .string b, .int .u64 keep]
  have h1' := h.next hB0
  have hX := h.xs
  have hFb : w.heap.size ∉ [D, M] := fun hm => Nat.lt_irrefl _ (hX _ (by simp at hm ⊢; rcases hm with hm | hm <;> simp [hm]))
  have HKx := Lib.hid fun w' (hk : Kx X (w.alloc (.cells #[.int .i64 what, .int .i64 m, .string nm, .string to, .string b, .int .u64 keep] 71)) w') => (h.kx hB0).trans hk
  unfold St.val
  go_enter Try.func45, Try.ntmps45
  go_wp2_with fail
  have hQ : (w.alloc (.cells #[.int .i64 what, .int .i64 m, .string nm, .string to, .string b, .int .u64 keep] 71)).heap.size = w.heap.size + 1 := World.size_alloc _ _
  have HQ := Lib.hid hQ
  obtain ⟨v, hv0⟩ := h.rf
  have hv1 := hv0.more hB0 (Nat.le_refl _)
  clear hQ hB0 h hv0
  generalize w.heap.size = Fb at *
  generalize w.alloc (.cells #[.int .i64 what, .int .i64 m, .string nm, .string to, .string b, .int .u64 keep] 71) = w0 at *
  have hBd : Below w0.heap.size w0 w0.drew := (Below.refl _ w0).drew
  have h2 := h1'.next hBd
  have q2 : w0.drew.cell? ⟨Fb, 2, none⟩ = some (.string nm) := bF.cell 2
  have hv := hv1.next hBd
  have hFl := bF.lt
  have hX2 : ∀ b ∈ Fb :: D :: M :: X, b < w0.drew.heap.size := fun b hb => by
    rcases List.mem_cons.1 hb with rfl | hb
    · exact hFl
    · exact h2.xs b hb
  go_region_held3 (fun w' => w'.cell? ⟨Fb, 2, none⟩ = some (.string nm))
    (first | exact q2 | exact hC5.cell hFb hFl q2 | exact hQ2)
    (first | (go_at_call 24; refine (create_dk hs1 hfr h2.dk).mono ?_; rintro e w5 ⟨rfl, h5, hC5⟩) | (go_at_call 91; refine (rcreate_calls ok.steps ok.left ok.len nm _ h5.size (fun b hb => Nat.lt_of_lt_of_le (hX2 b hb) hC5.size) (hv.chgX hC5 (by simp))).mono ?_; rintro e w6 ⟨rfl, v6, h6, hK6⟩; have hQ2 := cell_of_heap (hK6.keep Fb (by simp) (Nat.lt_of_lt_of_le hFl hC5.size)) (hC5.cell hFb hFl q2)))
  have hend := both_end h2 h5 hC5 h6 hK6
  clear bF hBd h2 hv hX2 hv1 h1' hC5 h5 h6 hK6
  go_wp2
  go_ret2
  exact ⟨rfl, hend.1, HKx.out _ hend.2⟩
set_option maxRecDepth 100000 in
set_option maxHeartbeats 1000000 in
theorem does_append {n : Nat} {W : World} {D M R : Nat} {X : List Nat} {r s : DS} {N : Int} (hb : Br r s) (hf : s.Fin N) (hN : N < 4611686018427380000) (t : St) (h0 : 0 < t.what) (h1 : t.what ≤ 3) (hbz : t.b.size ≤ 1099511627776) (w : World) (h : Both n W D M R X r s w) :
    Calls Try.prog 45 #[.pointer (some ⟨D, 0, none⟩), .pointer (some ⟨R, 0, none⟩), t.val] w fun e w' => e = .returned (.tuple #[.int .i64 (s.append t.name t.b).1, .int .i64 (r.rappend t.name t.b).1]) ∧ Both n W D M R X (r.rappend t.name t.b).2 (s.append t.name t.b).2 w' ∧ Kx X w w' := by
  have ok := hb.ok hf hN
  have hfr := (fin_append hf t.name t.b).ok (by omega)
  obtain ⟨⟨e1, s1⟩, hs1⟩ : ∃ q, s.append t.name t.b = q := ⟨_, rfl⟩
  rw [hs1] at hfr ⊢
  obtain ⟨what, m, nm, to, b, keep⟩ := t
  simp only at h0 h1 hbz hs1
  have hw0 : ¬ what ≤ 0 := by omega
  have hB0 : Below w.heap.size w (w.alloc (.cells #[.int .i64 what, .int .i64 m, .string nm, .string to, .string b, .int .u64 keep] 71)) := (Below.refl _ w).alloc (Nat.le_refl _) _
  have bF := Blk.new w 71 #[.int .i64 what, .int .i64 m, .string nm, .string to, .string b, .int .u64 keep]
  have h1' := h.next hB0
  have hX := h.xs
  have hFb : w.heap.size ∉ [D, M] := fun hm => Nat.lt_irrefl _ (hX _ (by simp at hm ⊢; rcases hm with hm | hm <;> simp [hm]))
  have HKx := Lib.hid fun w' (hk : Kx X (w.alloc (.cells #[.int .i64 what, .int .i64 m, .string nm, .string to, .string b, .int .u64 keep] 71)) w') => (h.kx hB0).trans hk
  unfold St.val
  go_enter Try.func45, Try.ntmps45
  go_wp2_with fail
  have hQ : (w.alloc (.cells #[.int .i64 what, .int .i64 m, .string nm, .string to, .string b, .int .u64 keep] 71)).heap.size = w.heap.size + 1 := World.size_alloc _ _
  have HQ := Lib.hid hQ
  obtain ⟨v, hv0⟩ := h.rf
  have hv1 := hv0.more hB0 (Nat.le_refl _)
  clear hQ hB0 h hv0
  generalize w.heap.size = Fb at *
  generalize w.alloc (.cells #[.int .i64 what, .int .i64 m, .string nm, .string to, .string b, .int .u64 keep] 71) = w0 at *
  have hBd : Below w0.heap.size w0 w0.drew := (Below.refl _ w0).drew
  have h2 := h1'.next hBd
  have q2 : w0.drew.cell? ⟨Fb, 2, none⟩ = some (.string nm) := bF.cell 2
  have q4 : w0.drew.cell? ⟨Fb, 4, none⟩ = some (.string b) := bF.cell 4
  have hv := hv1.next hBd
  have hFl := bF.lt
  have hX2 : ∀ b ∈ Fb :: D :: M :: X, b < w0.drew.heap.size := fun b hb => by
    rcases List.mem_cons.1 hb with rfl | hb
    · exact hFl
    · exact h2.xs b hb
  go_region_held3 (fun w' => w'.cell? ⟨Fb, 2, none⟩ = some (.string nm) ∧ w'.cell? ⟨Fb, 4, none⟩ = some (.string b))
    (first | exact ⟨q2, q4⟩ | exact ⟨hC5.cell hFb hFl q2, hC5.cell hFb hFl q4⟩ | exact ⟨hQ2, hQ4⟩)
    (first | (go_at_call 25; refine (append_dk hs1 hfr h2.dk).mono ?_; rintro e w5 ⟨rfl, h5, hC5⟩) | (go_at_call 92; refine (rappend_calls ok.steps ok.left ok.len nm b ok.room ok.used hbz _ (hv.chgX hC5 (by simp))).mono ?_; rintro e w6 ⟨rfl, v6, h6, hK6⟩; have hQ2 := cell_of_heap (hK6.keep Fb (by simp) (Nat.lt_of_lt_of_le hFl hC5.size)) (hC5.cell hFb hFl q2); have hQ4 := cell_of_heap (hK6.keep Fb (by simp) (Nat.lt_of_lt_of_le hFl hC5.size)) (hC5.cell hFb hFl q4)))
  have hend := both_end h2 h5 hC5 h6 hK6
  clear bF hBd h2 hv hX2 hv1 h1' hC5 h5 h6 hK6
  go_wp2
  go_ret2
  exact ⟨rfl, hend.1, HKx.out _ hend.2⟩
set_option maxRecDepth 100000 in
set_option maxHeartbeats 1000000 in
theorem does_sync {n : Nat} {W : World} {D M R : Nat} {X : List Nat} {r s : DS} {N : Int} (hb : Br r s) (hf : s.Fin N) (hN : N < 4611686018427380000) (t : St) (h0 : 3 < t.what) (h1 : t.what ≤ 5) (w : World) (h : Both n W D M R X r s w) :
    Calls Try.prog 45 #[.pointer (some ⟨D, 0, none⟩), .pointer (some ⟨R, 0, none⟩), t.val] w fun e w' => e = .returned (.tuple #[.int .i64 (s.sync t.name).1, .int .i64 (r.rsync t.name).1]) ∧ Both n W D M R X (r.rsync t.name).2 (s.sync t.name).2 w' ∧ Kx X w w' := by
  have ok := hb.ok hf hN
  have hfr := (fin_sync hf t.name).ok (by omega)
  obtain ⟨⟨e1, s1⟩, hs1⟩ : ∃ q, s.sync t.name = q := ⟨_, rfl⟩
  rw [hs1] at hfr ⊢
  obtain ⟨what, m, nm, to, b, keep⟩ := t
  simp only at h0 h1 hs1
  have hw0 : ¬ what ≤ 0 := by omega
  have hw3 : ¬ what ≤ 3 := by omega
  have hB0 : Below w.heap.size w (w.alloc (.cells #[.int .i64 what, .int .i64 m, .string nm, .string to, .string b, .int .u64 keep] 71)) := (Below.refl _ w).alloc (Nat.le_refl _) _
  have bF := Blk.new w 71 #[.int .i64 what, .int .i64 m, .string nm, .string to, .string b, .int .u64 keep]
  have h1' := h.next hB0
  have hX := h.xs
  have hFb : w.heap.size ∉ [D, M] := fun hm => Nat.lt_irrefl _ (hX _ (by simp at hm ⊢; rcases hm with hm | hm <;> simp [hm]))
  have HKx := Lib.hid fun w' (hk : Kx X (w.alloc (.cells #[.int .i64 what, .int .i64 m, .string nm, .string to, .string b, .int .u64 keep] 71)) w') => (h.kx hB0).trans hk
  unfold St.val
  go_enter Try.func45, Try.ntmps45
  go_wp2_with fail
  have hQ : (w.alloc (.cells #[.int .i64 what, .int .i64 m, .string nm, .string to, .string b, .int .u64 keep] 71)).heap.size = w.heap.size + 1 := World.size_alloc _ _
  have HQ := Lib.hid hQ
  obtain ⟨v, hv0⟩ := h.rf
  have hv1 := hv0.more hB0 (Nat.le_refl _)
  clear hQ hB0 h hv0
  generalize w.heap.size = Fb at *
  generalize w.alloc (.cells #[.int .i64 what, .int .i64 m, .string nm, .string to, .string b, .int .u64 keep] 71) = w0 at *
  have hBd : Below w0.heap.size w0 w0.drew := (Below.refl _ w0).drew
  have h2 := h1'.next hBd
  have q2 : w0.drew.cell? ⟨Fb, 2, none⟩ = some (.string nm) := bF.cell 2
  have hv := hv1.next hBd
  have hFl := bF.lt
  have hX2 : ∀ b ∈ Fb :: D :: M :: X, b < w0.drew.heap.size := fun b hb => by
    rcases List.mem_cons.1 hb with rfl | hb
    · exact hFl
    · exact h2.xs b hb
  go_region_held3 (fun w' => w'.cell? ⟨Fb, 2, none⟩ = some (.string nm))
    (first | exact q2 | exact hC5.cell hFb hFl q2 | exact hQ2)
    (first | (go_at_call 26; refine (sync_dk hs1 hfr h2.dk).mono ?_; rintro e w5 ⟨rfl, h5, hC5⟩) | (go_at_call 93; refine (rsync_calls ok.steps ok.left ok.len nm _ (hv.chgX hC5 (by simp))).mono ?_; rintro e w6 ⟨rfl, v6, h6, hK6⟩; have hQ2 := cell_of_heap (hK6.keep Fb (by simp) (Nat.lt_of_lt_of_le hFl hC5.size)) (hC5.cell hFb hFl q2)))
  have hend := both_end h2 h5 hC5 h6 hK6
  clear bF hBd h2 hv hX2 hv1 h1' hC5 h5 h6 hK6
  go_wp2
  go_ret2
  exact ⟨rfl, hend.1, HKx.out _ hend.2⟩
set_option maxRecDepth 100000 in
set_option maxHeartbeats 1000000 in
theorem does_rename {n : Nat} {W : World} {D M R : Nat} {X : List Nat} {r s : DS} {N : Int} (hb : Br r s) (hf : s.Fin N) (hN : N < 4611686018427380000) (t : St) (h0 : t.what = 6) (w : World) (h : Both n W D M R X r s w) :
    Calls Try.prog 45 #[.pointer (some ⟨D, 0, none⟩), .pointer (some ⟨R, 0, none⟩), t.val] w fun e w' => e = .returned (.tuple #[.int .i64 (s.rename t.name t.to).1, .int .i64 (r.rrename t.name t.to).1]) ∧ Both n W D M R X (r.rrename t.name t.to).2 (s.rename t.name t.to).2 w' ∧ Kx X w w' := by
  have ok := hb.ok hf hN
  have hfr := (fin_rename hf t.name t.to).ok (by omega)
  obtain ⟨⟨e1, s1⟩, hs1⟩ : ∃ q, s.rename t.name t.to = q := ⟨_, rfl⟩
  rw [hs1] at hfr ⊢
  obtain ⟨what, m, nm, to, b, keep⟩ := t
  simp only at h0 hs1
  subst h0
  have hB0 : Below w.heap.size w (w.alloc (.cells #[.int .i64 6, .int .i64 m, .string nm, .string to, .string b, .int .u64 keep] 71)) := (Below.refl _ w).alloc (Nat.le_refl _) _
  have bF := Blk.new w 71 #[.int .i64 6, .int .i64 m, .string nm, .string to, .string b, .int .u64 keep]
  have h1' := h.next hB0
  have hX := h.xs
  have hFb : w.heap.size ∉ [D, M] := fun hm => Nat.lt_irrefl _ (hX _ (by simp at hm ⊢; rcases hm with hm | hm <;> simp [hm]))
  have HKx := Lib.hid fun w' (hk : Kx X (w.alloc (.cells #[.int .i64 6, .int .i64 m, .string nm, .string to, .string b, .int .u64 keep] 71)) w') => (h.kx hB0).trans hk
  unfold St.val
  go_enter Try.func45, Try.ntmps45
  go_wp2_with fail
  have hQ : (w.alloc (.cells #[.int .i64 6, .int .i64 m, .string nm, .string to, .string b, .int .u64 keep] 71)).heap.size = w.heap.size + 1 := World.size_alloc _ _
  have HQ := Lib.hid hQ
  obtain ⟨v, hv0⟩ := h.rf
  have hv1 := hv0.more hB0 (Nat.le_refl _)
  clear hQ hB0 h hv0
  generalize w.heap.size = Fb at *
  generalize w.alloc (.cells #[.int .i64 6, .int .i64 m, .string nm, .string to, .string b, .int .u64 keep] 71) = w0 at *
  have hBd : Below w0.heap.size w0 w0.drew := (Below.refl _ w0).drew
  have h2 := h1'.next hBd
  have q2 : w0.drew.cell? ⟨Fb, 2, none⟩ = some (.string nm) := bF.cell 2
  have q3 : w0.drew.cell? ⟨Fb, 3, none⟩ = some (.string to) := bF.cell 3
  have hv := hv1.next hBd
  have hFl := bF.lt
  have hX2 : ∀ b ∈ Fb :: D :: M :: X, b < w0.drew.heap.size := fun b hb => by
    rcases List.mem_cons.1 hb with rfl | hb
    · exact hFl
    · exact h2.xs b hb
  go_region_held3 (fun w' => w'.cell? ⟨Fb, 2, none⟩ = some (.string nm) ∧ w'.cell? ⟨Fb, 3, none⟩ = some (.string to))
    (first | exact ⟨q2, q3⟩ | exact ⟨hC5.cell hFb hFl q2, hC5.cell hFb hFl q3⟩ | exact ⟨hQ2, hQ3⟩)
    (first | (go_at_call 52; refine (rename_dk hs1 hfr h2.dk).mono ?_; rintro e w5 ⟨rfl, h5, hC5⟩) | (go_at_call 94; refine (rrename_calls ok.steps ok.left ok.len nm to _ (fun b hb => Nat.lt_of_lt_of_le (hX2 b hb) hC5.size) (hv.chgX hC5 (by simp))).mono ?_; rintro e w6 ⟨rfl, v6, h6, hK6⟩; have hQ2 := cell_of_heap (hK6.keep Fb (by simp) (Nat.lt_of_lt_of_le hFl hC5.size)) (hC5.cell hFb hFl q2); have hQ3 := cell_of_heap (hK6.keep Fb (by simp) (Nat.lt_of_lt_of_le hFl hC5.size)) (hC5.cell hFb hFl q3)))
  have hend := both_end h2 h5 hC5 h6 hK6
  clear bF hBd h2 hv hX2 hv1 h1' hC5 h5 h6 hK6
  go_wp2
  go_ret2
  exact ⟨rfl, hend.1, HKx.out _ hend.2⟩
set_option maxRecDepth 100000 in
set_option maxHeartbeats 1000000 in
theorem does_remove {n : Nat} {W : World} {D M R : Nat} {X : List Nat} {r s : DS} {N : Int} (hb : Br r s) (hf : s.Fin N) (hN : N < 4611686018427380000) (t : St) (h0 : t.what = 7) (w : World) (h : Both n W D M R X r s w) :
    Calls Try.prog 45 #[.pointer (some ⟨D, 0, none⟩), .pointer (some ⟨R, 0, none⟩), t.val] w fun e w' => e = .returned (.tuple #[.int .i64 (s.remove t.name).1, .int .i64 (r.rremove t.name).1]) ∧ Both n W D M R X (r.rremove t.name).2 (s.remove t.name).2 w' ∧ Kx X w w' := by
  have ok := hb.ok hf hN
  have hfr := (fin_remove hf t.name).ok (by omega)
  obtain ⟨⟨e1, s1⟩, hs1⟩ : ∃ q, s.remove t.name = q := ⟨_, rfl⟩
  rw [hs1] at hfr ⊢
  obtain ⟨what, m, nm, to, b, keep⟩ := t
  simp only at h0 hs1
  subst h0
  have hB0 : Below w.heap.size w (w.alloc (.cells #[.int .i64 7, .int .i64 m, .string nm, .string to, .string b, .int .u64 keep] 71)) := (Below.refl _ w).alloc (Nat.le_refl _) _
  have bF := Blk.new w 71 #[.int .i64 7, .int .i64 m, .string nm, .string to, .string b, .int .u64 keep]
  have h1' := h.next hB0
  have hX := h.xs
  have hFb : w.heap.size ∉ [D, M] := fun hm => Nat.lt_irrefl _ (hX _ (by simp at hm ⊢; rcases hm with hm | hm <;> simp [hm]))
  have HKx := Lib.hid fun w' (hk : Kx X (w.alloc (.cells #[.int .i64 7, .int .i64 m, .string nm, .string to, .string b, .int .u64 keep] 71)) w') => (h.kx hB0).trans hk
  unfold St.val
  go_enter Try.func45, Try.ntmps45
  go_wp2_with fail
  have hQ : (w.alloc (.cells #[.int .i64 7, .int .i64 m, .string nm, .string to, .string b, .int .u64 keep] 71)).heap.size = w.heap.size + 1 := World.size_alloc _ _
  have HQ := Lib.hid hQ
  obtain ⟨v, hv0⟩ := h.rf
  have hv1 := hv0.more hB0 (Nat.le_refl _)
  clear hQ hB0 h hv0
  generalize w.heap.size = Fb at *
  generalize w.alloc (.cells #[.int .i64 7, .int .i64 m, .string nm, .string to, .string b, .int .u64 keep] 71) = w0 at *
  have hBd : Below w0.heap.size w0 w0.drew := (Below.refl _ w0).drew
  have h2 := h1'.next hBd
  have q2 : w0.drew.cell? ⟨Fb, 2, none⟩ = some (.string nm) := bF.cell 2
  have hv := hv1.next hBd
  have hFl := bF.lt
  have hX2 : ∀ b ∈ Fb :: D :: M :: X, b < w0.drew.heap.size := fun b hb => by
    rcases List.mem_cons.1 hb with rfl | hb
    · exact hFl
    · exact h2.xs b hb
  go_region_held3 (fun w' => w'.cell? ⟨Fb, 2, none⟩ = some (.string nm))
    (first | exact q2 | exact hC5.cell hFb hFl q2 | exact hQ2)
    (first | (go_at_call 54; refine (remove_dk hs1 hfr h2.dk).mono ?_; rintro e w5 ⟨rfl, h5, hC5⟩) | (go_at_call 95; refine (rremove_calls ok.steps ok.left ok.len nm _ h5.size (fun b hb => Nat.lt_of_lt_of_le (hX2 b hb) hC5.size) (hv.chgX hC5 (by simp))).mono ?_; rintro e w6 ⟨rfl, v6, h6, hK6⟩; have hQ2 := cell_of_heap (hK6.keep Fb (by simp) (Nat.lt_of_lt_of_le hFl hC5.size)) (hC5.cell hFb hFl q2)))
  have hend := both_end h2 h5 hC5 h6 hK6
  clear bF hBd h2 hv hX2 hv1 h1' hC5 h5 h6 hK6
  go_wp2
  go_ret2
  exact ⟨rfl, hend.1, HKx.out _ hend.2⟩
set_option maxRecDepth 100000 in
set_option maxHeartbeats 1000000 in
theorem does_cut {n : Nat} {W : World} {D M R : Nat} {X : List Nat} {r s : DS} {N : Int} (hb : Br r s) (hf : s.Fin N) (hN : N < 4611686018427380000) (t : St) (h0 : t.what = 8) (w : World) (h : Both n W D M R X r s w) :
    Calls Try.prog 45 #[.pointer (some ⟨D, 0, none⟩), .pointer (some ⟨R, 0, none⟩), t.val] w fun e w' => e = .returned (.tuple #[.int .i64 (s.cut t.name t.n).1, .int .i64 (r.rcut t.name t.n).1]) ∧ Both n W D M R X (r.rcut t.name t.n).2 (s.cut t.name t.n).2 w' ∧ Kx X w w' := by
  have ok := hb.ok hf hN
  have hfr := (fin_cut hf t.name t.n).ok (by omega)
  obtain ⟨⟨e1, s1⟩, hs1⟩ : ∃ q, s.cut t.name t.n = q := ⟨_, rfl⟩
  rw [hs1] at hfr ⊢
  obtain ⟨what, m, nm, to, b, keep⟩ := t
  simp only at h0 hs1
  subst h0
  have hB0 : Below w.heap.size w (w.alloc (.cells #[.int .i64 8, .int .i64 m, .string nm, .string to, .string b, .int .u64 keep] 71)) := (Below.refl _ w).alloc (Nat.le_refl _) _
  have bF := Blk.new w 71 #[.int .i64 8, .int .i64 m, .string nm, .string to, .string b, .int .u64 keep]
  have h1' := h.next hB0
  have hX := h.xs
  have hFb : w.heap.size ∉ [D, M] := fun hm => Nat.lt_irrefl _ (hX _ (by simp at hm ⊢; rcases hm with hm | hm <;> simp [hm]))
  have HKx := Lib.hid fun w' (hk : Kx X (w.alloc (.cells #[.int .i64 8, .int .i64 m, .string nm, .string to, .string b, .int .u64 keep] 71)) w') => (h.kx hB0).trans hk
  unfold St.val
  go_enter Try.func45, Try.ntmps45
  go_wp2_with fail
  have hQ : (w.alloc (.cells #[.int .i64 8, .int .i64 m, .string nm, .string to, .string b, .int .u64 keep] 71)).heap.size = w.heap.size + 1 := World.size_alloc _ _
  have HQ := Lib.hid hQ
  obtain ⟨v, hv0⟩ := h.rf
  have hv1 := hv0.more hB0 (Nat.le_refl _)
  clear hQ hB0 h hv0
  generalize w.heap.size = Fb at *
  generalize w.alloc (.cells #[.int .i64 8, .int .i64 m, .string nm, .string to, .string b, .int .u64 keep] 71) = w0 at *
  have hBd : Below w0.heap.size w0 w0.drew := (Below.refl _ w0).drew
  have h2 := h1'.next hBd
  have q2 : w0.drew.cell? ⟨Fb, 2, none⟩ = some (.string nm) := bF.cell 2
  have q1 : w0.drew.cell? ⟨Fb, 1, none⟩ = some (.int .i64 m) := bF.cell 1
  have hv := hv1.next hBd
  have hFl := bF.lt
  have hX2 : ∀ b ∈ Fb :: D :: M :: X, b < w0.drew.heap.size := fun b hb => by
    rcases List.mem_cons.1 hb with rfl | hb
    · exact hFl
    · exact h2.xs b hb
  go_region_held3 (fun w' => w'.cell? ⟨Fb, 2, none⟩ = some (.string nm) ∧ w'.cell? ⟨Fb, 1, none⟩ = some (.int .i64 m))
    (first | exact ⟨q2, q1⟩ | exact ⟨hC5.cell hFb hFl q2, hC5.cell hFb hFl q1⟩ | exact ⟨hQ2, hQ1⟩)
    (first | (go_at_call 53; refine (cut_dk hs1 hfr h2.dk).mono ?_; rintro e w5 ⟨rfl, h5, hC5⟩) | (go_at_call 96; refine (rcut_calls ok.steps ok.left ok.len nm m _ (hv.chgX hC5 (by simp))).mono ?_; rintro e w6 ⟨rfl, v6, h6, hK6⟩; have hQ2 := cell_of_heap (hK6.keep Fb (by simp) (Nat.lt_of_lt_of_le hFl hC5.size)) (hC5.cell hFb hFl q2); have hQ1 := cell_of_heap (hK6.keep Fb (by simp) (Nat.lt_of_lt_of_le hFl hC5.size)) (hC5.cell hFb hFl q1)))
  have hend := both_end h2 h5 hC5 h6 hK6
  clear bF hBd h2 hv hX2 hv1 h1' hC5 h5 h6 hK6
  go_wp2
  go_ret2
  exact ⟨rfl, hend.1, HKx.out _ hend.2⟩
end Go.Proofs.Ytoaegleieacokaa
