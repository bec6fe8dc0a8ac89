/- ladelaw22's image: put, where a segment is begun. -/
import Derived.Test.YtoaegleieacokaaGreatImgPut
import Derived.Test.YtoaegleieacokaaGreatEarly
import Derived.Test.YtoaegleieacokaaGreatHeadB
import Derived.Test.YtoaegleieacokaaGreatBegins
namespace Go.Proofs.YtoaegleieacokaaGreat
open Go.RowKit Go.Shelf

theorem step_append_run {P : Program} {w w' : World} {ops : Array Oper} {o : Oper} {a : Act} {K : Act → World → Prop} {Q : Exit → Act → World → Prop} {E : Prop} {v v1 v2 : Value} (hgd : o.guard = none) (s x : Operand) (t : TypeId)
    (ho : o.op = .call { callee := .builtin .append, args := #[s, x], argTypes := #[t, t] }) (hs : a.eval s = v1) (hx : a.eval x = v2) (hr : (Builtin.append_ #[t, t] o.type #[v1, v2]).run P w = .ok v w') (h : K (a.put o.dst v) w') :
    if Region.wanted o (yielded ops a.tmps) = true then Oper.wp P o a w K Q else E := by
  have hw : Region.wanted o (yielded ops a.tmps) = true := by simp [Region.wanted, hgd]
  rw [if_pos hw]
  unfold Oper.wp execOp
  simp only [ho, resolve, invoke, builtin, Sem.run_bind, Sem.run_pure, Result.andThen_ok, List.map_toArray, List.map_cons, List.map_nil, hs, hx, hr]
  exact h
theorem infoStr : (Tryz.prog.info? 9).map (fun i => (i.zero, i.size, i.bytes)) = some (some (.string ⟨#[]⟩), 1, 16) := by kernel_rfl
/-- How far one of the two appends has come: the row as it was, the literal made, appended. -/
inductive RollSt | raw | lit (p : Nat) | app (g o c : Nat)
def Roll (w1 : World) (g off N k : Nat) (e : TypeId) (xs : List Value) (u : Value) (w : World) : RollSt → Prop
  | .raw => RowAt w g off N k e xs
  | .lit p => RowAt w g off N k e xs ∧ Blk w p e #[u] ∧ w1.heap.size ≤ p
  | .app g' o c => RowAt w g' o (N + 1) c e (xs ++ [u]) ∧ (g' = g ∨ w1.heap.size ≤ g')
section
variable {w1 : World} {g off N k : Nat} {e : TypeId} {xs : List Value} {u : Value} {w w' : World} {st : RollSt}
theorem Roll.keep {bs : List Nat} (h : Roll w1 g off N k e xs u w st) (hc : Chg bs w w') (hb : ∀ b ∈ bs, b ≠ g ∧ b < w1.heap.size) : Roll w1 g off N k e xs u w' st := by
  have h1 : g ∉ bs := fun hm => (hb g hm).1 rfl
  have h2 : ∀ p, w1.heap.size ≤ p → p ∉ bs := fun p hp hm => by have := (hb p hm).2; omega
  cases st with
  | raw => exact RowAt.chg h hc h1
  | lit p => exact ⟨RowAt.chg h.1 hc h1, (hc.block p h.2.1.lt (h2 p h.2.2)).trans h.2.1, h.2.2⟩
  | app g' o c =>
    refine ⟨RowAt.chg h.1 hc ?_, h.2⟩
    rcases h.2 with e1 | e1
    · rw [e1]; exact h1
    · exact h2 _ e1
theorem Roll.lit (h : Roll w1 g off N k e xs u w .raw) (hs : w1.heap.size ≤ w.heap.size) : Roll w1 g off N k e xs u (w.alloc (.cells #[u] e)) (.lit w.heap.size) :=
  ⟨RowAt.below h ((Below.refl _ w).alloc (Nat.le_refl _) _) (RowAt.lt h), Blk.new w e #[u], hs⟩
theorem Roll.app {P : Program} (t ty : TypeId) (i : TypeInfo) (z : Value) (bytes : Nat) (ht : P.underlying t = some (.slice e)) (hi : P.info? e = some i) (hz : i.zero = some z) (hsize : i.size = 1) (hby : i.bytes = bytes) (hzs : z.cells.size = 1)
    {p : Nat} (hs : w1.heap.size ≤ w.heap.size) (h : Roll w1 g off N k e xs u w (.lit p)) (h1 : u.oneCell' = true) (h63 : N + 1 ≤ maxLen) (hbytes : (N + 1) * bytes ≤ 140737488355328) :
    ∃ g' o c w', (Builtin.append_ #[t, t] ty #[.slice (some ⟨g, off, none⟩) N k, .slice (some ⟨p, 0, none⟩) 1 1]).run P w = .ok (.slice (some ⟨g', o, none⟩) (N + 1) c) w' ∧ Roll w1 g off N k e xs u w' (.app g' o c) ∧ Chg [g] w w' := by
  obtain ⟨r, b, hp⟩ := h
  obtain ⟨g', o, c, w', hr, h2, h3, h4, h5⟩ := run_append_at (P := P) t ty i z bytes ht hi hz hsize hby hzs r ⟨p, 0, none⟩ 1 u (by rw [b.cell]; rfl) h1 h63 hbytes
  refine ⟨g', o, c, w', hr, ⟨h2, ?_⟩, Chg.grown h3 (fun r hr => by simp at hr; simp [hr])⟩
  rcases h4 with rfl | rfl
  · exact .inl rfl
  · exact .inr hs
end
section
variable {w1 : World} {I gi oi ki gb ob kb N : Nat} {ids bys : List Value} {id : Int} {H : ByteArray} {w w' : World} {sa sb : RollSt}
abbrev RA (w1 : World) (gi oi N ki : Nat) (ids : List Value) (id : Int) (w : World) (st : RollSt) : Prop := Roll w1 gi oi N ki 3 ids (.int .i64 id) w st
abbrev RB (w1 : World) (gb ob N kb : Nat) (bys : List Value) (H : ByteArray) (w : World) (st : RollSt) : Prop := Roll w1 gb ob N kb 9 bys (.string H) w st
theorem roll_below (hA : RA w1 gi oi N ki ids id w sa) (hB : RB w1 gb ob N kb bys H w sb) (hC : Chg [gi, gb] w1 w) (hBl : Below w.heap.size w w') : RA w1 gi oi N ki ids id w' sa ∧ RB w1 gb ob N kb bys H w' sb ∧ Chg [gi, gb] w1 w' :=
  ⟨hA.keep (bs := []) (Chg.of_below hBl) (by simp), hB.keep (bs := []) (Chg.of_below hBl) (by simp), hC.trans (Chg.of_below hBl)⟩
theorem lit_a (hA : RA w1 gi oi N ki ids id w .raw) (hB : RB w1 gb ob N kb bys H w sb) (hC : Chg [gi, gb] w1 w) : RA w1 gi oi N ki ids id (w.alloc (.cells #[.int .i64 id] 3)) (.lit w.heap.size) ∧ RB w1 gb ob N kb bys H (w.alloc (.cells #[.int .i64 id] 3)) sb ∧ Chg [gi, gb] w1 (w.alloc (.cells #[.int .i64 id] 3)) :=
  have hBl : Below w.heap.size w (w.alloc (.cells #[.int .i64 id] 3)) := (Below.refl _ w).alloc (Nat.le_refl _) _
  ⟨hA.lit hC.size, hB.keep (bs := []) (Chg.of_below hBl) (by simp), hC.trans (Chg.of_below hBl)⟩
theorem lit_b (hA : RA w1 gi oi N ki ids id w sa) (hB : RB w1 gb ob N kb bys H w .raw) (hC : Chg [gi, gb] w1 w) : RA w1 gi oi N ki ids id (w.alloc (.cells #[.string H] 9)) sa ∧ RB w1 gb ob N kb bys H (w.alloc (.cells #[.string H] 9)) (.lit w.heap.size) ∧ Chg [gi, gb] w1 (w.alloc (.cells #[.string H] 9)) :=
  have hBl : Below w.heap.size w (w.alloc (.cells #[.string H] 9)) := (Below.refl _ w).alloc (Nat.le_refl _) _
  ⟨hA.keep (bs := []) (Chg.of_below hBl) (by simp), hB.lit hC.size, hC.trans (Chg.of_below hBl)⟩
theorem app_a {p : Nat} (hA : RA w1 gi oi N ki ids id w (.lit p)) (hB : RB w1 gb ob N kb bys H w sb) (hC : Chg [gi, gb] w1 w) (hne : gi ≠ gb) (hl : gi < w1.heap.size ∧ gb < w1.heap.size) (hN : N ≤ 100000) :
    ∃ g o c w', (Builtin.append_ #[32, 32] 32 #[.slice (some ⟨gi, oi, none⟩) N ki, .slice (some ⟨p, 0, none⟩) 1 1]).run Tryz.prog w = .ok (.slice (some ⟨g, o, none⟩) (N + 1) c) w' ∧ RA w1 gi oi N ki ids id w' (.app g o c) ∧ RB w1 gb ob N kb bys H w' sb ∧ Chg [gi, gb] w1 w' := by
  obtain ⟨i0, hi, hz0, hz1, hz2⟩ := info_parts infoInt
  obtain ⟨g, o, c, w', hr, h1, h2⟩ := Roll.app (P := Tryz.prog) 32 32 i0 _ 8 Tryz.underlying32 hi hz0 hz1 hz2 rfl hC.size hA rfl (by unfold maxLen; omega) (by omega)
  exact ⟨g, o, c, w', hr, h1, hB.keep h2 (by simp; exact ⟨hne, hl.1⟩), hC.trans (h2.more (by simp))⟩
theorem app_b {p : Nat} (hA : RA w1 gi oi N ki ids id w sa) (hB : RB w1 gb ob N kb bys H w (.lit p)) (hC : Chg [gi, gb] w1 w) (hne : gi ≠ gb) (hl : gi < w1.heap.size ∧ gb < w1.heap.size) (hN : N ≤ 100000) :
    ∃ g o c w', (Builtin.append_ #[34, 34] 34 #[.slice (some ⟨gb, ob, none⟩) N kb, .slice (some ⟨p, 0, none⟩) 1 1]).run Tryz.prog w = .ok (.slice (some ⟨g, o, none⟩) (N + 1) c) w' ∧ RA w1 gi oi N ki ids id w' sa ∧ RB w1 gb ob N kb bys H w' (.app g o c) ∧ Chg [gi, gb] w1 w' := by
  obtain ⟨i0, hi, hz0, hz1, hz2⟩ := info_parts infoStr
  obtain ⟨g, o, c, w', hr, h1, h2⟩ := Roll.app (P := Tryz.prog) 34 34 i0 _ 16 Tryz.underlying34 hi hz0 hz1 hz2 rfl hC.size hB rfl (by unfold maxLen; omega) (by omega)
  exact ⟨g, o, c, w', hr, hA.keep h2 (by simp; exact ⟨hne.symm, hl.2⟩), h1, hC.trans (h2.more (by simp))⟩
/-- Behind the two appends, and the two stores. -/
structure RollMid (w1 : World) (I gi gb N : Nat) (lim : Int) (ids bys : List Value) (id : Int) (H : ByteArray) (wx : World) : Prop where
  rows : ∃ g1 o1 c1 g2 o2 c2, Blk wx I 36 #[.slice (some ⟨g1, o1, none⟩) (N + 1) c1, .slice (some ⟨g2, o2, none⟩) (N + 1) c2, .int .i64 lim] ∧
    RowAt wx g1 o1 (N + 1) c1 3 (ids ++ [.int .i64 id]) ∧ RowAt wx g2 o2 (N + 1) c2 9 (bys ++ [.string H]) ∧ (g1 = gi ∨ w1.heap.size ≤ g1) ∧ (g2 = gb ∨ w1.heap.size ≤ g2) ∧ I ≠ g1 ∧ I ≠ g2 ∧ g1 ≠ g2
  chg : Chg [I, gi, gb] w1 wx
theorem roll_mid {lim : Int} {v1 v2 : Value} {g1 o1 c1 g2 o2 c2 : Nat} (r1 : Blk w1 I 36 #[v1, v2, .int .i64 lim]) (hI : I ≠ gi ∧ I ≠ gb) (hA : RA w1 gi oi N ki ids id w (.app g1 o1 c1)) (hB : RB w1 gb ob N kb bys H w (.app g2 o2 c2)) (hC : Chg [gi, gb] w1 w) :
    RollMid w1 I gi gb N lim ids bys id H ((w.setCell ⟨I, 0, none⟩ (.slice (some ⟨g1, o1, none⟩) (N + 1) c1)).setCell ⟨I, 1, none⟩ (.slice (some ⟨g2, o2, none⟩) (N + 1) c2)) := by
  have hb : Blk w I 36 #[v1, v2, .int .i64 lim] := (hC.block I r1.lt (by simp; exact hI)).trans r1
  have hst := (hb.set 0 (.slice (some ⟨g1, o1, none⟩) (N + 1) c1)).set 1 (.slice (some ⟨g2, o2, none⟩) (N + 1) c2)
  have hCI : Chg [I] w ((w.setCell ⟨I, 0, none⟩ (.slice (some ⟨g1, o1, none⟩) (N + 1) c1)).setCell ⟨I, 1, none⟩ (.slice (some ⟨g2, o2, none⟩) (N + 1) c2)) := (Chg.setCell (p := ⟨I, 0, none⟩) (by simp) _).trans (Chg.setCell (p := ⟨I, 1, none⟩) (by simp) _)
  have hlt := r1.lt
  have e1 : I ≠ g1 := by rcases hA.2 with e | e; exact e ▸ hI.1; omega
  have e2 : I ≠ g2 := by rcases hB.2 with e | e; exact e ▸ hI.2; omega
  have e3 : g1 ≠ g2 := by
    intro e
    subst e
    obtain ⟨_, b1, _⟩ := hA.1.blk
    obtain ⟨_, b2, _⟩ := hB.1.blk
    have := b1.symm.trans b2
    simp at this
  exact ⟨⟨g1, o1, c1, g2, o2, c2, hst, hA.1.chg hCI (by simpa using e1.symm), hB.1.chg hCI (by simpa using e2.symm), hA.2, hB.2, e1, e2, e3⟩, (hC.more (by simp)).trans (hCI.more (by simp))⟩
end
theorem idV_succ (a n : Nat) : idV a (n + 1) = idV a n ++ [.int .i64 ((a + n : Nat) : Int)] := by
  unfold idV
  rw [segL_succ, List.map_append]
  rfl
section
variable {n I gi gb : Nat} {lim : Int} {a : Nat} {cs : List ByteArray} {c : ByteArray} {w : World}
set_option maxRecDepth 100000 in
set_option maxHeartbeats 4000000 in
theorem put_roll (b : ByteArray) (ha : 1 ≤ a) (hidl : a + cs.length + 1 ≤ 99999999) (hcs : cs.length ≤ 1000) (hc : c.size ≤ 1000000) (hb : b.size ≤ 1000000) (hro : rolls lim c b) (h : Im n I gi gb lim a cs c w) :
    Calls Tryz.prog 11 #[.pointer (some ⟨I, 0, none⟩), .string b] w fun e w' => ∃ gi' gb', e = .returned (.agg #[.int .i64 ((a + cs.length + 1 : Nat) : Int), .int .i64 16]) ∧ Im n I gi' gb' lim a (cs ++ [c]) b w' ∧ Chg [I, gi, gb] w w' ∧ (gi' = gi ∨ w.heap.size ≤ gi') ∧ (gb' = gb ∨ w.heap.size ≤ gb') := by
  have hB0 : Below w.heap.size w (w.alloc (.cells #[.int .i64 0, .int .i64 0] 40)) := (Below.refl _ w).alloc (Nat.le_refl _) _
  have bP := Blk.new w 40 #[.int .i64 0, .int .i64 0]
  have h0 := h.next hB0
  have hlI : I < w.heap.size := by obtain ⟨_, _, _, _, r1, _⟩ := h.rows; exact r1.lt
  have hlb : gb < w.heap.size := by obtain ⟨_, _, _, _, _, _, r3⟩ := h.rows; exact r3.lt
  have hli : gi < w.heap.size := by obtain ⟨_, _, _, _, _, r2, _⟩ := h.rows; exact r2.lt
  obtain ⟨oi, ki, ob, kb, r1, r2, r3⟩ := h0.rows
  have q0 : (w.alloc (.cells #[.int .i64 0, .int .i64 0] 40)).cell? ⟨I, 0, none⟩ = some (.slice (some ⟨gi, oi, none⟩) (cs.length + 1) ki) := r1.cell 0
  have q1 : (w.alloc (.cells #[.int .i64 0, .int .i64 0] 40)).cell? ⟨I, 1, none⟩ = some (.slice (some ⟨gb, ob, none⟩) (cs.length + 1) kb) := r1.cell 1
  have q2 : (w.alloc (.cells #[.int .i64 0, .int .i64 0] 40)).cell? ⟨I, 2, none⟩ = some (.int .i64 lim) := r1.cell 2
  have q3 := r2.cell (idV_at a (cs.length + 1) cs.length (by omega))
  have q4 := r3.cell (byV_last a cs c)
  have hsz : (headB (a + cs.length) ++ c).size = 16 + c.size := by rw [app_size, headB_size]
  have hidI : idN ((a : Int) + (cs.length : Int) + 1) = a + cs.length + 1 := by
    rw [show (a : Int) + (cs.length : Int) + 1 = ((a + cs.length + 1 : Nat) : Int) from by omega]
    exact idN_nat (by omega) hidl
  have hnm := fun w' => rhead_calls ((a : Int) + (cs.length : Int) + 1) w'
  rw [hidI] at hnm
  have hS : 16 < ((headB (a + cs.length) ++ c).size : Int) := by have := hro.1; omega
  have hS2 : (headB (a + cs.length) ++ c).size ≤ 1000016 := by omega
  have hS3 : lim < ((headB (a + cs.length) ++ c).size : Int) + (b.size : Int) := by have := hro.2; omega
  have hidv := idV_succ a (cs.length + 1)
  have hbyv : byV a (cs ++ [c] ++ [⟨#[]⟩]) = byV a (cs ++ [c]) ++ [.string (headB (a + (cs.length + 1)))] := by rw [byV_snoc, app_empty]; simp
  have hbys : (byV a (cs ++ [c] ++ [⟨#[]⟩])).set (cs.length + 1) (.string (headB (a + (cs.length + 1)) ++ b)) = byV a (cs ++ [c] ++ [b]) := by
    have := byV_set a (cs ++ [c]) ⟨#[]⟩ b
    simpa using this
  rw [hbyv] at hbys
  have hv1 : ((a + cs.length + 1 : Nat) : Int) = ((a + (cs.length + 1) : Nat) : Int) := by omega
  have hHsz := headB_size (a + (cs.length + 1))
  rw [show a + cs.length + 1 = a + (cs.length + 1) from by omega] at hnm ⊢
  have HIDV := Lib.hid hidv
  have HBYS := Lib.hid hbys
  clear hidv hbyv hbys hv1 hidI
  generalize headB (a + (cs.length + 1)) = H at *
  obtain ⟨S, hSE⟩ : ∃ S, headB (a + cs.length) ++ c = S := ⟨_, rfl⟩
  rw [hSE] at hS hS2 hS3 q4
  clear hSE hsz hro
  have hw1 : IntKind.i64.wrap ((S.size : Int) + (b.size : Int)) = (S.size : Int) + (b.size : Int) := by rw [IntKind.wrap_i64]; omega
  have hk : (0 : Int) ≤ (cs.length : Int) := by omega
  have hk1 : (cs.length : Int) < (cs.length : Int) + 1 := by omega
  have dA : decide (lim < (S.size : Int) + (b.size : Int)) = true := decide_eq_true hS3
  have dB : decide (16 < (S.size : Int)) = true := decide_eq_true hS
  have HHS := Lib.hid hHsz
  clear hHsz
  go_enter Tryz.func11, Tryz.ntmps11
  go_wp2_with fail
  go_quiet (fail)
  go_wp2_with fail
  have hB2 := below_drewN hB0 nq
  have bP2 : Blk ((w.alloc (.cells #[.int .i64 0, .int .i64 0] 40)).drewN nq) w.heap.size 40 #[.int .i64 0, .int .i64 0] := bP
  have s1 : Blk ((w.alloc (.cells #[.int .i64 0, .int .i64 0] 40)).drewN nq) I 36 _ := r1
  have s2 : RowAt ((w.alloc (.cells #[.int .i64 0, .int .i64 0] 40)).drewN nq) gi oi (cs.length + 1) ki 3 (idV a (cs.length + 1)) := r2.kept rfl
  have s3 : RowAt ((w.alloc (.cells #[.int .i64 0, .int .i64 0] 40)).drewN nq) gb ob (cs.length + 1) kb 9 (byV a (cs ++ [c])) := r3.kept rfl
  have hsz2 : w.heap.size < ((w.alloc (.cells #[.int .i64 0, .int .i64 0] 40)).drewN nq).heap.size := by simp
  clear q0 q1 q2 q3 q4 r1 r2 r3 bP hB0 h0
  generalize (w.alloc (.cells #[.int .i64 0, .int .i64 0] 40)).drewN nq = w2 at *
  have hSS : ∀ w', Chg [gi, gb] w2 w' → w'.cell? ⟨I, 0, none⟩ = some (.slice (some ⟨gi, oi, none⟩) (cs.length + 1) ki) ∧ w'.cell? ⟨I, 1, none⟩ = some (.slice (some ⟨gb, ob, none⟩) (cs.length + 1) kb) := fun w' hc =>
    ⟨hc.cell (by simp; exact ⟨h.ne.1, h.ne.2.1⟩) s1.lt (s1.cell 0), hc.cell (by simp; exact ⟨h.ne.1, h.ne.2.1⟩) s1.lt (s1.cell 1)⟩
  have HSS := Lib.hid hSS
  have hIne : I ≠ gi ∧ I ≠ gb := ⟨h.ne.1, h.ne.2.1⟩
  have hne := h.ne.2.2
  have hlt : gi < w2.heap.size ∧ gb < w2.heap.size := ⟨s2.lt, s3.lt⟩
  have hN : cs.length + 1 ≤ 100000 := by omega
  clear hSS
  go_cut [] from 49 to 69 (fun wx => RollMid w2 I gi gb (cs.length + 1) lim (idV a (cs.length + 1)) (byV a (cs ++ [c])) ((a : Int) + (cs.length : Int) + 1) H wx)
  case first =>
    have hC0 : Chg [gi, gb] w2 w2.drew := Chg.of_below ((Below.refl _ w2).drew)
    have hA0 : RA w2 gi oi (cs.length + 1) ki (idV a (cs.length + 1)) ((a : Int) + (cs.length : Int) + 1) w2.drew .raw := s2.kept rfl
    have hB0 : RB w2 gb ob (cs.length + 1) kb (byV a (cs ++ [c])) H w2.drew .raw := s3.kept rfl
    refine wp_region_E (fun w' => w'.cell? ⟨I, 0, none⟩ = some (.slice (some ⟨gi, oi, none⟩) (cs.length + 1) ki) ∧ w'.cell? ⟨I, 1, none⟩ = some (.slice (some ⟨gb, ob, none⟩) (cs.length + 1) kb)) 19 (by kernel_rfl) ?_
    refine wpAnyE_take0 (i := 0) (v := ?_) rfl (by kernel_rfl) (by kernel_rfl) (by kernel_rfl) (by decide) (fun _ _ _ h => h) (Or.inl ⟨by rfl, ?_⟩) ?_
    rotate_left
    · intro w _; go_simp; (try with_reducible rfl)
    try simp only [Act.put, List.setIfInBounds_toArray, List.set_cons_zero, List.set_cons_succ]
    refine wpAnyE_take0 (i := 1) (v := ?_) rfl (by kernel_rfl) (by kernel_rfl) (by kernel_rfl) (by decide) (fun _ _ _ h => h) (Or.inl ⟨by rfl, ?_⟩) ?_
    rotate_left
    · intro w _; go_simp; (try with_reducible rfl)
    try simp only [Act.put, List.setIfInBounds_toArray, List.set_cons_zero, List.set_cons_succ]
    refine wpAnyE_take0 (i := 2) (v := ?_) rfl (by kernel_rfl) (by kernel_rfl) (by kernel_rfl) (by decide) (fun _ _ _ h => h) (Or.inl ⟨by rfl, ?_⟩) ?_
    rotate_left
    · intro w _; go_simp; (try with_reducible rfl)
    try simp only [Act.put, List.setIfInBounds_toArray, List.set_cons_zero, List.set_cons_succ]
    refine wpAnyE_take0 (i := 3) (v := ?_) rfl (by kernel_rfl) (by kernel_rfl) (by kernel_rfl) (by decide) (fun _ _ _ h => h) (Or.inl ⟨by rfl, ?_⟩) ?_
    rotate_left
    · intro w _; go_simp; (try with_reducible rfl)
    try simp only [Act.put, List.setIfInBounds_toArray, List.set_cons_zero, List.set_cons_succ]
    refine wpAnyE_take0 (i := 4) (v := ?_) rfl (by kernel_rfl) (by kernel_rfl) (by kernel_rfl) (by decide) (fun _ _ _ h => h) (Or.inl ⟨by rfl, ?_⟩) ?_
    rotate_left
    · intro w _; go_simp; (try with_reducible rfl)
    try simp only [Act.put, List.setIfInBounds_toArray, List.set_cons_zero, List.set_cons_succ]
    refine wpAnyE_take (i := 5) (v := ?_) rfl (by kernel_rfl) (by kernel_rfl) (by kernel_rfl) (by kernel_rfl) (by kernel_rfl) rfl (by decide) (fun _ _ _ h => h) (Or.inl ⟨by rfl, ?_⟩) ?_
    rotate_left
    · intro w hSw; obtain ⟨hS0, hS1⟩ := hSw; go_simp; (try with_reducible rfl)
    try simp only [Act.put, List.setIfInBounds_toArray, List.set_cons_zero, List.set_cons_succ]
    refine wpAnyE_take0 (i := 6) (v := ?_) rfl (by kernel_rfl) (by kernel_rfl) (by kernel_rfl) (by decide) (fun _ _ _ h => h) (Or.inl ⟨by rfl, ?_⟩) ?_
    rotate_left
    · intro w _; go_simp; (try with_reducible rfl)
    try simp only [Act.put, List.setIfInBounds_toArray, List.set_cons_zero, List.set_cons_succ]
    refine wpAnyE_take0 (i := 9) (v := ?_) rfl (by kernel_rfl) (by kernel_rfl) (by kernel_rfl) (by decide) (fun _ _ _ h => h) (Or.inl ⟨by rfl, ?_⟩) ?_
    rotate_left
    · intro w _; go_simp; (try with_reducible rfl)
    try simp only [Act.put, List.setIfInBounds_toArray, List.set_cons_zero, List.set_cons_succ]
    refine wpAnyE_take0 (i := 10) (v := ?_) rfl (by kernel_rfl) (by kernel_rfl) (by kernel_rfl) (by decide) (fun _ _ _ h => h) (Or.inl ⟨by rfl, ?_⟩) ?_
    rotate_left
    · intro w _; go_simp; (try with_reducible rfl)
    try simp only [Act.put, List.setIfInBounds_toArray, List.set_cons_zero, List.set_cons_succ]
    refine wpAnyE_take0 (i := 11) (v := ?_) rfl (by kernel_rfl) (by kernel_rfl) (by kernel_rfl) (by decide) (fun _ _ _ h => h) (Or.inl ⟨by rfl, ?_⟩) ?_
    rotate_left
    · intro w _; go_simp; (try with_reducible rfl)
    try simp only [Act.put, List.setIfInBounds_toArray, List.set_cons_zero, List.set_cons_succ]
    refine wpAnyE_take (i := 12) (v := ?_) rfl (by kernel_rfl) (by kernel_rfl) (by kernel_rfl) (by kernel_rfl) (by kernel_rfl) rfl (by decide) (fun _ _ _ h => h) (Or.inl ⟨by rfl, ?_⟩) ?_
    rotate_left
    · intro w hSw; obtain ⟨hS0, hS1⟩ := hSw; go_simp; (try with_reducible rfl)
    try simp only [Act.put, List.setIfInBounds_toArray, List.set_cons_zero, List.set_cons_succ]
    refine wpAnyE_take0 (i := 13) (v := ?_) rfl (by kernel_rfl) (by kernel_rfl) (by kernel_rfl) (by decide) (fun _ _ _ h => h) (Or.inl ⟨by rfl, ?_⟩) ?_
    rotate_left
    · intro w _; go_simp; (try with_reducible rfl)
    try simp only [Act.put, List.setIfInBounds_toArray, List.set_cons_zero, List.set_cons_succ]
    refine wpAnyE_ready (rs := [7]) (by kernel_rfl) (by simp) (HSS.out _ hC0) ?_
    refine AllReadyE.cons rfl (fun K hK => ?_) AllReadyE.nil
    go_simp
    refine hK.out _ _ ?_
    clear hK K
    try simp only [Act.put, List.setIfInBounds_toArray, List.set_cons_zero, List.set_cons_succ]
    obtain ⟨hA1, hB1, hC1⟩ := lit_a hA0 hB0 hC0
    try simp only [World.size_alloc] at hA1
    refine wpAnyE_ready (rs := [8]) (by kernel_rfl) (by simp) (HSS.out _ hC1) ?_
    refine AllReadyE.cons rfl (fun K hK => ?_) AllReadyE.nil
    obtain ⟨g2, o2, c2, w2, hr2, hA2, hB2, hC2⟩ := app_a hA1 hB1 hC1 hne hlt hN
    refine step_append_run (by rfl) _ _ _ (by rfl) (by rfl) (by rfl) hr2 ?_
    refine hK.out _ _ ?_
    clear hK K
    try simp only [Act.put, List.setIfInBounds_toArray, List.set_cons_zero, List.set_cons_succ]
    refine wpAnyE_ready (rs := [14]) (by kernel_rfl) (by simp) (HSS.out _ hC2) ?_
    refine AllReadyE.cons rfl (fun K hK => ?_) AllReadyE.nil
    go_simp
    go_wp2_with (go_at_call 9; refine (hnm _).mono ?_; rintro e w3 ⟨rfl, hBl3⟩)
    refine hK.out _ _ ?_
    clear hK K
    try simp only [Act.put, List.setIfInBounds_toArray, List.set_cons_zero, List.set_cons_succ]
    obtain ⟨hA3, hB3, hC3⟩ := roll_below hA2 hB2 hC2 hBl3
    refine wpAnyE_ready (rs := [15]) (by kernel_rfl) (by simp) (HSS.out _ hC3) ?_
    refine AllReadyE.cons rfl (fun K hK => ?_) AllReadyE.nil
    go_simp
    refine hK.out _ _ ?_
    clear hK K
    try simp only [Act.put, List.setIfInBounds_toArray, List.set_cons_zero, List.set_cons_succ]
    obtain ⟨hA4, hB4, hC4⟩ := lit_b hA3 hB3 hC3
    try simp only [World.size_alloc] at hB4
    refine wpAnyE_ready (rs := [16]) (by kernel_rfl) (by simp) (HSS.out _ hC4) ?_
    refine AllReadyE.cons rfl (fun K hK => ?_) AllReadyE.nil
    obtain ⟨g5, o5, c5, w5, hr5, hA5, hB5, hC5⟩ := app_b hA4 hB4 hC4 hne hlt hN
    refine step_append_run (by rfl) _ _ _ (by rfl) (by rfl) (by rfl) hr5 ?_
    refine hK.out _ _ ?_
    clear hK K
    try simp only [Act.put, List.setIfInBounds_toArray, List.set_cons_zero, List.set_cons_succ]
    refine wpAnyE_take0 (i := 17) (v := ?_) rfl (by kernel_rfl) (by kernel_rfl) (by kernel_rfl) (by decide) (fun _ _ _ h => h) (Or.inl ⟨by rfl, ?_⟩) ?_
    rotate_left
    · intro w _; go_simp; (try with_reducible rfl)
    try simp only [Act.put, List.setIfInBounds_toArray, List.set_cons_zero, List.set_cons_succ]
    refine wpAnyE_take0 (i := 18) (v := ?_) rfl (by kernel_rfl) (by kernel_rfl) (by kernel_rfl) (by decide) (fun _ _ _ h => h) (Or.inl ⟨by rfl, ?_⟩) ?_
    rotate_left
    · intro w _; go_simp; (try with_reducible rfl)
    try simp only [Act.put, List.setIfInBounds_toArray, List.set_cons_zero, List.set_cons_succ]
    refine wpAnyE_ready (rs := [19]) (by kernel_rfl) (by simp) (HSS.out _ hC5) ?_
    refine AllReadyE.cons rfl (fun K hK => ?_) AllReadyE.nil
    have hI5 : Blk _ I 36 _ := (hC5.block I s1.lt (by simp; exact hIne)).trans s1
    have fI5 := hI5.frozen 0
    have tI5 := hI5.cell 0
    go_simp
    refine hK.out _ _ ?_
    clear hK K
    try simp only [Act.put, List.setIfInBounds_toArray, List.set_cons_zero, List.set_cons_succ]
    refine wpAnyE_take0 (i := 20) (v := ?_) rfl (by kernel_rfl) (by kernel_rfl) (by kernel_rfl) (by decide) (fun _ _ _ h => h) (Or.inl ⟨by rfl, ?_⟩) ?_
    rotate_left
    · intro w _; go_simp; (try with_reducible rfl)
    try simp only [Act.put, List.setIfInBounds_toArray, List.set_cons_zero, List.set_cons_succ]
    refine wpAnyE_take0 (i := 21) (v := ?_) rfl (by kernel_rfl) (by kernel_rfl) (by kernel_rfl) (by decide) (fun _ _ _ h => h) (Or.inl ⟨by rfl, ?_⟩) ?_
    rotate_left
    · intro w _; go_simp; (try with_reducible rfl)
    try simp only [Act.put, List.setIfInBounds_toArray, List.set_cons_zero, List.set_cons_succ]
    refine wpAnyE_behind (rs := [22]) (by kernel_rfl) (by simp) rfl ?_
    refine AllReadyE.cons rfl (fun K hK => ?_) AllReadyE.nil
    have gI5 := hI5.frozen 1; have uI5 := hI5.cell 1
    go_simp
    refine hK.out _ _ ?_
    clear hK K
    try simp only [Act.put, List.setIfInBounds_toArray, List.set_cons_zero, List.set_cons_succ]
    refine wpAnyE_done (by kernel_rfl) rfl ?_ _
    go_wp2_with fail
    go_meet
    exact roll_mid s1 hIne hA5 hB5 hC5
  case rest =>
    obtain ⟨⟨g1, o1, c1, g2, o2, c2, t1, t2, t3, e1, e2, n1, n2, n3⟩, hC3⟩ := hcut
    have hCw : Chg [I, gi, gb] w wc := (Chg.of_below hB2).trans hC3
    rw [← show ((a + (cs.length + 1) : Nat) : Int) = (a : Int) + (cs.length : Int) + 1 from by omega, ← HIDV.out] at t2
    have bP3 : Blk wc w.heap.size 40 #[.int .i64 0, .int .i64 0] := (hC3.block _ bP2.lt (by simp; omega)).trans bP2
    have hs23 := hC3.size
    clear bP2 s1 s2 s3 HSS hIne hne hN hC3
    have hset := t3.set (j := cs.length + 1) (by omega) (.string (H ++ b))
    rw [HBYS.out] at hset
    have q1 : wc.cell? ⟨I, 1, none⟩ = some (.slice (some ⟨g2, o2, none⟩) (cs.length + 1 + 1) c2) := t1.cell 1
    have q4 := t3.cell (j := cs.length + 1) (u := .string H) (by rw [List.getElem?_append_right (by rw [byV_len]; simp), byV_len]; simp)
    have f4 := t3.frozen (o2 + (cs.length + 1))
    have h16 := HHS.out
    have hlc : ¬ 9223372036854775807 < H.size + b.size := by omega
    have HHS2 := Lib.hid h16
    have HSET := Lib.hid hset
    clear h16 hset
    have hk2 : (0 : Int) ≤ (cs.length : Int) + 1 := by omega
    have hk3 : (cs.length : Int) + 1 < (cs.length : Int) + 1 + 1 := by omega
    go_wp2_with fail
    go_region
    have hset := HSET.out
    have hC4 : Chg [g2] wc (wc.setCell ⟨g2, o2 + (cs.length + 1), none⟩ (.string (H ++ b))).drew := (Chg.setCell (p := ⟨g2, o2 + (cs.length + 1), none⟩) (by simp) _).trans (Chg.of_below ((Below.refl _ _).drew))
    have u3 : RowAt (wc.setCell ⟨g2, o2 + (cs.length + 1), none⟩ (.string (H ++ b))).drew g2 o2 (cs.length + 1 + 1) c2 9 (byV a (cs ++ [c] ++ [b])) := hset.kept rfl
    have u1 : Blk (wc.setCell ⟨g2, o2 + (cs.length + 1), none⟩ (.string (H ++ b))).drew I 36 _ := (hC4.block I t1.lt (by simp; exact n2)).trans t1
    have u2 := t2.chg hC4 (by simp; exact n3)
    have hg2 : g2 ≠ w.heap.size := by rcases e2 with e | e <;> omega
    have bP4 : Blk (wc.setCell ⟨g2, o2 + (cs.length + 1), none⟩ (.string (H ++ b))).drew w.heap.size 40 _ := (hC4.block _ bP3.lt (by simp; exact hg2.symm)).trans bP3
    clear t1 t2 t3 bP3 q1 q4 f4 hset HSET
    have hC5 : ∀ k, k < w.heap.size → k ∉ [I, gi, gb] → (wc.setCell ⟨g2, o2 + (cs.length + 1), none⟩ (.string (H ++ b))).drew.heap[k]? = w.heap[k]? := fun k hk hm => (hC4.block k (by have := hCw.size; omega) (by
      simp only [List.mem_cons, List.not_mem_nil, or_false, not_or] at hm ⊢
      rcases e2 with e | e
      · rw [e]; exact hm.2.2
      · omega)).trans (hCw.block k hk hm)
    have hCy : Chg [I, gi, gb] w (wc.setCell ⟨g2, o2 + (cs.length + 1), none⟩ (.string (H ++ b))).drew := ⟨hC4.os.trans hCw.os, hC4.tape.trans hCw.tape, hC4.output.trans hCw.output, Nat.le_trans hCw.size hC4.size, hC5⟩
    clear hC4 hC5 hCw
    generalize (wc.setCell ⟨g2, o2 + (cs.length + 1), none⟩ (.string (H ++ b))).drew = w3 at *
    have q0 : w3.cell? ⟨I, 0, none⟩ = some (.slice (some ⟨g1, o1, none⟩) (cs.length + 1 + 1) c1) := u1.cell 0
    have q3 := u2.cell (idV_at a (cs.length + 1 + 1) (cs.length + 1) (by omega))
    have k0 : w3.cell? ⟨w.heap.size, 0, none⟩ = some (.int .i64 0) := bP4.cell 0
    have k1 : w3.cell? ⟨w.heap.size, 1, none⟩ = some (.int .i64 0) := bP4.cell 1
    have f0 := bP4.frozen 0
    have f1 := bP4.frozen 1
    have hH16 : ((H.size : Nat) : Int) = 16 := by have := HHS2.out; omega
    have hfin := (bP4.set 0 (.int .i64 ((a : Int) + ((cs.length : Int) + 1)))).set 1 (.int .i64 (H.size : Int))
    have hC6 : Chg [w.heap.size] w3 ((w3.setCell ⟨w.heap.size, 0, none⟩ (.int .i64 ((a : Int) + ((cs.length : Int) + 1)))).setCell ⟨w.heap.size, 1, none⟩ (.int .i64 (H.size : Int))) := (Chg.setCell (p := ⟨w.heap.size, 0, none⟩) (by simp) _).trans (Chg.setCell (p := ⟨w.heap.size, 1, none⟩) (by simp) _)
    have hCa : Chg [I, gi, gb] w _ := hCy.trans_new hC6 (by simp)
    have hg1 : g1 ≠ w.heap.size := by rcases e1 with e | e <;> omega
    have hIm : Im n I g1 g2 lim a (cs ++ [c]) b _ := ⟨h.hI, by rcases e1 with e | e; rw [e]; exact h.hi; have := h.hI; omega, by rcases e2 with e | e; rw [e]; exact h.hb; have := h.hI; omega, ⟨n1, n2, n3⟩, o1, c1, o2, c2, by
      rw [List.length_append]
      exact (hC6.block I u1.lt (by simp; omega)).trans u1, by
      rw [List.length_append]
      exact u2.chg hC6 (by simpa using hg1), by
      rw [List.length_append]
      exact u3.chg hC6 (by simpa using hg2)⟩
    have r0' : ((w3.setCell ⟨w.heap.size, 0, none⟩ (.int .i64 ((a : Int) + ((cs.length : Int) + 1)))).setCell ⟨w.heap.size, 1, none⟩ (.int .i64 (H.size : Int))).cell? ⟨w.heap.size, 0, none⟩ = some (.int .i64 ((a : Int) + ((cs.length : Int) + 1))) := hfin.cell 0
    have r1' : ((w3.setCell ⟨w.heap.size, 0, none⟩ (.int .i64 ((a : Int) + ((cs.length : Int) + 1)))).setCell ⟨w.heap.size, 1, none⟩ (.int .i64 (H.size : Int))).cell? ⟨w.heap.size, 1, none⟩ = some (.int .i64 (H.size : Int)) := hfin.cell 1
    have HH16 := Lib.hid hH16
    clear hH16
    go_wp2_with fail
    generalize (w3.setCell ⟨w.heap.size, 0, none⟩ (.int .i64 ((a : Int) + ((cs.length : Int) + 1)))).setCell ⟨w.heap.size, 1, none⟩ (.int .i64 (H.size : Int)) = w4 at *
    refine bodyPost_ret (v := .agg #[.int .i64 ((a : Int) + ((cs.length : Int) + 1)), .int .i64 (H.size : Int)]) (by simp [results, Tryz.f11, go_sem, r0', r1']) rfl ⟨g1, g2, ?_, hIm, hCa, ?_, ?_⟩
    · rw [HH16.out]; simp
    · rcases e1 with e | e
      · exact .inl e
      · exact .inr (by omega)
    · rcases e2 with e | e
      · exact .inl e
      · exact .inr (by omega)
end
end Go.Proofs.YtoaegleieacokaaGreat
