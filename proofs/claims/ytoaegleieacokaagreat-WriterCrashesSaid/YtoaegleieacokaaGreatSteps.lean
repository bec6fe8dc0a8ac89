/- writer.all: steps on a disk, one behind the other, as long as none errs. -/
import Derived.Test.YtoaegleieacokaaGreatSheetSave
import Derived.Test.YtoaegleieacokaaGreatStepIn
namespace Go.Proofs.YtoaegleieacokaaGreat
open Go.RowKit Go.Shelf Go.Sort
attribute [local go_sem] Oper.semAt_some

/-- A function value. -/
structure Fv where
  g : Nat
  bd : Array Value
  lb : Array Value
def Fv.val (f : Fv) : Value := .func (.func f.g) f.bd f.lb
theorem stvalues_calls (a : Option Addr) (n c : Nat) (w : World) :
    Calls Tryz.prog 47 #[.slice a n c] w fun e w' => e = .returned (.func (.func 74) #[] #[.pointer (some ⟨w.heap.size, 0, none⟩)]) ∧ w.alloc (.cells #[.slice a n c] 93) = w' := by
  go_enter Tryz.func47, Tryz.ntmps47
  go_wp2
  go_ret
  exact ⟨rfl, rfl⟩
set_option maxRecDepth 100000 in
set_option maxHeartbeats 2000000 in
theorem stvalues1_calls (n : Nat) (hn : 1 ≤ n) (l Bs bs c : Nat) (fs : List Fv) (hreach : fs.length ≤ 1000000) (J Jx : List (Fin fs.length) → World → Prop)
    (hY : ∀ pre x W, J pre W → pre.length < fs.length → YieldAt Fence.wide (n - 1) Tryz.prog l #[fs[x.val].val] W fun e W' =>
      (e = .returned (.bool true) ∧ J (pre ++ [x]) W' ∧ Keep 0 [Bs, bs] W W') ∨ (e = .returned (.bool false) ∧ Jx (pre ++ [x]) W'))
    (W : World) (hm : W.cell? ⟨Bs, 0, none⟩ = some (.slice (some ⟨bs, 0, none⟩) fs.length c)) (hs : ∀ k (hk : k < fs.length), W.cell? ⟨bs, k, none⟩ = some fs[k].val) (h0 : J [] W) :
    CallsIn Fence.wide n Tryz.prog 74 #[.func (.yield l) #[] #[], .pointer (some ⟨Bs, 0, none⟩)] W fun e W' => (∃ v, e = .returned v) ∧
      ((∃ xs, xs = List.finRange fs.length ∧ J xs W') ∨ (∃ pre, pre <+: List.finRange fs.length ∧ Jx pre W')) := by
  refine callsIn_of_wp Tryz.func74 rfl trivial ?_ rfl
  simp only [Tryz.ntmps74, List.size_toArray, List.length_cons, List.length_nil, Nat.reduceAdd, Nat.reduceSub, Array.replicate_succ, Array.replicate_zero, List.push_toArray, List.append_toArray, List.nil_append, List.cons_append]
  gi_wp2
  gi_loopw [7] (fun i wr => ∃ k : Nat, k ≤ fs.length ∧ i = .int .i64 k ∧ J ((List.finRange fs.length).take k) wr ∧ Keep 0 [Bs, bs] W wr)
    (fun i _ => fs.length - (intOf i).toNat)
  case atStart => exact ⟨0, Nat.zero_le _, rfl, h0, Keep.refl _ _ _⟩
  case round =>
    obtain ⟨k, hk, rfl, hJs, hnx⟩ := hrel
    by_cases hlt : k < fs.length
    · have d0 := (hnx.cell (p := ⟨bs, k, none⟩) (by simp)).trans (hs k hlt)
      obtain ⟨fn, tmps, assign, body, hy, hR⟩ := hY _ ⟨k, hlt⟩ _ hJs (by simp; omega)
      have Hk := Lib.hid (fin_take fs.length k hlt)
      have Hp : Hid ((List.finRange fs.length).take (k + 1) <+: List.finRange fs.length) := Lib.hid (List.take_prefix _ _)
      unfold Fv.val at hy d0
      simp only at hy
      clear hJs h0 hs
      generalize fs[k] = x at *
      gi_wp2
      refine hR.mono ?_
      rintro e W3 (⟨rfl, hJ3, hk3⟩ | ⟨rfl, hJx3⟩)
      · gi_wp2
        go_roundw
        case rel => exact ⟨k + 1, by omega, by simp, by rw [Hk.out]; exact hJ3, hnx.trans hk3⟩
        case measure => simp [intOf]; omega
      · gi_wp2
        refine bodyPost_ret (results_none rfl _ _ _) rfl ?_
        exact ⟨⟨_, rfl⟩, .inr ⟨_, by rw [← Hk.out]; exact Hp.out, hJx3⟩⟩
    · obtain rfl : k = fs.length := by omega
      gi_wp2
      go_end0
      exact ⟨⟨_, rfl⟩, .inl ⟨_, by rw [List.take_of_length_le (by simp)], hJs⟩⟩
theorem stvalues_stops (n : Nat) (hn : 1 ≤ n) (Bs bs c : Nat) (fs : List Fv) (hreach : fs.length ≤ 1000000) (w : World) (hb : Boxed w Bs 93 (.slice (some ⟨bs, 0, none⟩) fs.length c)) (hbs : bs < w.heap.size) (hs : ∀ k (hk : k < fs.length), w.cell? ⟨bs, k, none⟩ = some fs[k].val) :
    SeqStopsK Fence.wide n Tryz.prog 74 #[.pointer (some ⟨Bs, 0, none⟩)] (fun x : Fin fs.length => #[fs[x.val].val]) (Keep 0 [Bs, bs]) (fun xs => xs = List.finRange fs.length) (fun pre => pre <+: List.finRange fs.length) fs.length w := fun l J Jx W hW _ _ hY h0 =>
  stvalues1_calls n hn l Bs bs c fs hreach J Jx hY W ((hW.cell (p := ⟨Bs, 0, none⟩) hb.lt).trans hb.cell) (fun k hk => (hW.cell (p := ⟨bs, k, none⟩) hbs).trans (hs k hk)) h0

/-- Some steps, as long as none errs. -/
def runP {n : Nat} (F : Fin n → DS → Int × DS) (pre : List (Fin n)) (s : DS) : Int × DS := pre.foldl (fun r x => andThen r (F x)) (0, s)
theorem runP_snoc {n : Nat} (F : Fin n → DS → Int × DS) (pre : List (Fin n)) (x : Fin n) (s : DS) : runP F (pre ++ [x]) s = andThen (runP F pre s) (F x) := by simp [runP]
theorem fold_stop {n : Nat} (F : Fin n → DS → Int × DS) : ∀ (more : List (Fin n)) (r : Int × DS), r.1 ≠ 0 → more.foldl (fun r x => andThen r (F x)) r = r
  | [], _, _ => rfl
  | x :: l, r, h => by rw [List.foldl_cons, then_stop h]; exact fold_stop F l r h
theorem runP_stop {n : Nat} (F : Fin n → DS → Int × DS) (pre more : List (Fin n)) (s : DS) (h : (runP F pre s).1 ≠ 0) : runP F (pre ++ more) s = runP F pre s := by
  unfold runP at h ⊢
  rw [List.foldl_append, fold_stop F more _ h]
theorem fold_fit {n : Nat} {F : Fin n → DS → Int × DS} (hF : ∀ x s N, s.Fit N → (F x s).2.Fit (N + 8)) : ∀ (l : List (Fin n)) (r : Int × DS) (N : Int), r.2.Fit N → (l.foldl (fun r x => andThen r (F x)) r).2.Fit (N + 8 * l.length)
  | [], _, _, h => h.up (by simp)
  | x :: l, r, N, h => by
    rw [List.foldl_cons]
    have h2 : (andThen r (F x)).2.Fit (N + 8) := by
      unfold andThen
      split
      · exact hF x _ _ h
      · exact h.up (by omega)
    exact (fold_fit hF l _ _ h2).up (by simp; omega)
theorem runP_fit {n : Nat} {F : Fin n → DS → Int × DS} (hF : ∀ x s N, s.Fit N → (F x s).2.Fit (N + 8)) {s : DS} {N : Int} (h : s.Fit N) (pre : List (Fin n)) : (runP F pre s).2.Fit (N + 8 * pre.length) := fold_fit hF pre _ _ h
theorem chg_own' {β : Type} (bs : List Nat) {V : World} {B : Nat} (hB : V.heap.size ≤ B) : OwnFrom B (fun (_ : β) W => Chg bs V W) := fun _ X Y row h hg hr =>
  ⟨hg.os.trans h.os, hg.tape.trans h.tape, hg.output.trans h.output, Nat.le_trans h.size hg.size, fun k hk hb => (hg.block k (Nat.lt_of_lt_of_le hk h.size) (fun e => by have := (hr k e.symm).1; omega)).trans (h.block k hk hb)⟩
theorem Dk.grown {n : Nat} {W : World} {D M : Nat} {s : DS} {A B : World} {row : Option Nat} (h : Dk n W D M s A) (hg : A.grownBy B row) (hr : ∀ r, row = some r → D < r ∧ M < r) : Dk n W D M s B :=
  ⟨h.at'.same (hg.block D h.at'.blk.lt (fun e => by have := (hr D e.symm).1; omega)) (hg.block M h.at'.map.lt (fun e => by have := (hr M e.symm).2; omega)), h.below.trans ((Below.refl n A).grown hg h.size (fun k e => by have := (hr k e).1; have := h.hD; omega)), h.hD, h.hM, h.ok⟩
theorem Chg.far {bs : List Nat} {w W W' : World} {row : Option Nat} (h : Chg bs w W) (hg : W.grownBy W' row) (hr : ∀ r, row = some r → w.heap.size ≤ r) : Chg bs w W' :=
  ⟨hg.os.trans h.os, hg.tape.trans h.tape, hg.output.trans h.output, Nat.le_trans h.size hg.size, fun k hk hb => (hg.block k (Nat.lt_of_lt_of_le hk h.size) (fun e => by have := hr k e.symm; omega)).trans (h.block k hk hb)⟩
theorem setCell_grown (W : World) (p : Addr) (u : Value) : W.grownBy (W.setCell p u) (some p.block) := ⟨rfl, rfl, rfl, by simp [World.setCell], fun k _ hk => Below.heap_setCell _ _ _ _ (fun e => hk (by rw [e]))⟩
theorem keepsFrom_chg {B : Nat} {bs : List Nat} {A C : World} (h : Chg bs A C) (hb : ∀ b ∈ bs, b < B) : KeepsFrom B A C := ⟨h.size, fun k o hB hk _ => (h.block k (Array.getElem?_eq_some_iff.1 hk).1 (fun hm => by have := hb k hm; omega)).trans hk⟩
theorem keep_chg {bs cs : List Nat} {A C : World} (h : Chg bs A C) (hlt : ∀ b ∈ cs, b < A.heap.size) (hd : ∀ b ∈ cs, b ∉ bs) : Keep 0 cs A C := ⟨h.below (Nat.zero_le _) (fun _ _ => Nat.zero_le _), fun b hb => h.block b (hlt b hb) (hd b hb)⟩

set_option maxRecDepth 100000 in
set_option maxHeartbeats 2000000 in
theorem all_steps {n : Nat} {W0 : World} {D M : Nat} (fs : List Fv) (hreach : fs.length ≤ 1000) (F : Fin fs.length → DS → Int × DS) (bs c : Nat) (w : World) (hbs : bs < w.heap.size) (hbD : bs ≠ D ∧ bs ≠ M)
    (hs : ∀ k (hk : k < fs.length), w.cell? ⟨bs, k, none⟩ = some fs[k].val) (heg : ∀ (x : Fin fs.length) args A, (callFunc fs[x.val].g args).run Tryz.prog A = .ok (.enter fs[x.val].g args) A)
    (hF : ∀ x s N, s.Fit N → (F x s).2.Fit (N + 8)) {s : DS} {N : Int} (hf : s.Fit N) {K : Int} (hN : N + 8008 ≤ K)
    (hC : ∀ (x : Fin fs.length) (A : World) (t : DS) (N : Int), Chg [D, M] w A → Dk n W0 D M t A → t.Fit N → N < K → Calls Tryz.prog fs[x.val].g (fs[x.val].bd ++ fs[x.val].lb) A fun e B => e = .returned (.int .i64 (F x t).1) ∧ Dk n W0 D M (F x t).2 B ∧ Chg [D, M] A B)
    (h : Dk n W0 D M s w) :
    Calls Tryz.prog 26 #[.slice (some ⟨bs, 0, none⟩) fs.length c] w fun e w' => e = .returned (.int .i64 (runP F (List.finRange fs.length) s).1) ∧ Dk n W0 D M (runP F (List.finRange fs.length) s).2 w' ∧ Chg [D, M] w w' := by
  have hDl := h.at'.blk.lt
  have hMl := h.at'.map.lt
  refine (callsIn_wide (n := 4)).1 ?_
  refine callsIn_of_wp_marks Tryz.func26 rfl trivial ?_ rfl
  simp only [Tryz.ntmps26, List.size_toArray, List.length_cons, List.length_nil, Nat.reduceAdd, Nat.reduceSub, Array.replicate_succ, Array.replicate_zero, List.push_toArray, List.append_toArray, List.nil_append, List.cons_append]
  gi_wp2_with (refine ⟨trivial, ?_⟩; gi_at_call 47; refine (callsIn_wide.2 (stvalues_calls _ _ _ _)).mono ?_; rintro e w' ⟨rfl, rfl⟩)
  have b0 := Boxed.new w 28 (.int .i64 0)
  have b1 := Boxed.new (w.alloc (.cells #[.int .i64 0] 28)) 93 (.slice (some ⟨bs, 0, none⟩) fs.length c)
  simp only [World.size_alloc] at b1
  have hB0 : Below w.heap.size w ((w.alloc (.cells #[.int .i64 0] 28)).alloc (.cells #[.slice (some ⟨bs, 0, none⟩) fs.length c] 93)) := ((Below.refl _ w).alloc (Nat.le_refl _) _).alloc (by simp) _
  refine wpIn_rangeFunc_ownG_of_H (α := Fin fs.length) rfl (by omega) (gf := 74) (lb := #[.pointer (some ⟨w.heap.size + 1, 0, none⟩)]) rfl trivial (enters_of Tryz.func74 (by kernel_rfl) rfl)
    (stvalues_stops 3 (by omega) (w.heap.size + 1) bs c fs (by omega) _ b1 (by simp; omega) (fun k hk => (hB0.cell (p := ⟨bs, k, none⟩) hbs).trans (hs k hk)))
    (fun h k => h.trans k) (keep_b (Nat.zero_le _) (by simp; omega)) (Below.refl _ _) (fun _ => rfl)
    (fun (pre : List (Fin fs.length)) W => Boxed W w.heap.size 28 (.int .i64 0) ∧ (∃ s', runP F pre s = (0, s') ∧ Dk n W0 D M s' W) ∧ Chg [D, M] w W ∧ w.heap.size + 1 < W.heap.size)
    (fun cd (pre : List (Fin fs.length)) W => cd = .ret ∧ (∃ e s', runP F pre s = (e, s') ∧ e ≠ 0 ∧ Boxed W w.heap.size 28 (.int .i64 e) ∧ Dk n W0 D M s' W) ∧ Chg [D, M] w W)
    ?own ?ownx ⟨b0.alloc _, ⟨s, rfl, h.next hB0⟩, Chg.of_below hB0, by simp⟩
    (fun x => { tmps := #[.slice (some ⟨bs, 0, none⟩) fs.length c, undef, .pointer (some ⟨w.heap.size, 0, none⟩), fs[x.val].val, undef, .slice (some ⟨bs, 0, none⟩) fs.length c, .func (.func 74) #[] #[.pointer (some ⟨w.heap.size + 1, 0, none⟩)], fs[x.val].val, undef, undef, undef, undef, undef], defers := [] }) ?assign ?body ?done ?stop (fun W => Keep.refl _ _ W)
  case own =>
    rintro pre A B row ⟨h1, ⟨s', hr, hd⟩, hch, hsz⟩ hg hrow
    exact ⟨(boxed_own _ _ (fun (_ : Unit) => .int .i64 0)) () A B row h1 hg (fun r e => (hrow r e).2), ⟨s', hr, hd.grown hg (fun r e => by have := (hrow r e).1; simp at this; omega)⟩, chg_own' [D, M] (V := w) (Nat.le_refl _) () A B row hch hg (fun r e => ⟨by have := (hrow r e).1; simp at this; omega, (hrow r e).2⟩), Nat.lt_of_lt_of_le hsz hg.size⟩
  case ownx =>
    rintro cd pre A B row ⟨hcd, ⟨e, s', hr, he, h1, hd⟩, hch⟩ hg hrow
    exact ⟨hcd, ⟨e, s', hr, he, (boxed_own _ _ (fun (_ : Unit) => .int .i64 e)) () A B row h1 hg (fun r e => (hrow r e).2), hd.grown hg (fun r e => by have := (hrow r e).1; simp at this; omega)⟩, chg_own' [D, M] (V := w) (Nat.le_refl _) () A B row hch hg (fun r e => ⟨by have := (hrow r e).1; simp at this; omega, (hrow r e).2⟩)⟩
  case assign =>
    intro l x W K hK
    unfold Fv.val at hK
    simp only at hK
    unfold Fv.val
    gi_wp2
    exact hK
  case body =>
    rintro l pre x W ⟨h1, ⟨s', hr, hd⟩, hch, hsz⟩ hlt
    have hft := runP_fit hF hf pre
    rw [hr] at hft
    have hcall := hC x W s' _ hch hd hft (by omega)
    have eg := heg x
    have hsn := runP_snoc F pre x s
    rw [hr, then_go rfl] at hsn
    unfold Fv.val
    generalize fs[x.val].g = g at *
    generalize fs[x.val].bd = bd at *
    generalize fs[x.val].lb = lb at *
    have hgD : D < W.heap.size := hd.at'.blk.lt
    obtain ⟨⟨e1, s1⟩, hs1⟩ : ∃ q, F x s' = q := ⟨_, rfl⟩
    rw [hs1] at hcall hsn
    gi_wp2_with fail
    refine ⟨trivial, ?_⟩
    refine (CallsIn.inRound l (callsIn_wide.2 hcall)).mono ?_
    rintro e W3 ⟨rfl, hd3, hch3⟩
    have hkf := keepsFrom_chg (B := ((w.alloc (.cells #[.int .i64 0] 28)).alloc (.cells #[.slice (some ⟨bs, 0, none⟩) fs.length c] 93)).heap.size) hch3 (by simp; omega)
    have hkk := keep_chg (cs := [w.heap.size + 1, bs]) hch3 (by simp; have := hch.size; omega) (by simp; omega)
    have hb3 : Boxed W3 w.heap.size 28 (.int .i64 0) := (hch3.block _ h1.lt (by simp; omega)).trans h1
    have hc3 := hb3.cell
    have hf3 := hb3.frozen
    have hsz3 := hch3.size
    by_cases he : e1 = 0
    · subst he
      have HSN := Lib.hid hsn
      clear hsn hcall hC eg
      gi_wp2
      exact ⟨hkf, hkk, hb3, ⟨s1, HSN.out, hd3⟩, hch.trans hch3, by omega⟩
    · have hbe : (e1 == 0) = false := beq_eq_false_iff_ne.2 he
      have HSN := Lib.hid hsn
      have HE := Lib.hid he
      clear hsn hcall hC eg he
      gi_wp2
      refine ⟨⟨Nat.le_trans hkf.size (KeepsOthers.setCell W3 ⟨w.heap.size, 0, none⟩ (.int .i64 e1)).size, fun k o hk hko ho => (KeepsOthers.setCell _ _ _).same k o (hkf.same k o hk hko ho) ho⟩, rfl, ⟨e1, s1, HSN.out, HE.out, hb3.set _, hd3.grown (row := some w.heap.size) (setCell_grown _ _ _) (fun r e => by cases e; omega)⟩, (hch.trans hch3).far (setCell_grown _ _ _) (fun r e => by cases e; simp)⟩
  case done =>
    rintro D' ys W hD rfl ⟨h1, ⟨s', hr, hd⟩, hch, hsz⟩ hK
    have hc0 := h1.cell
    have hf0 := h1.frozen
    have HR := Lib.hid hr
    clear hr
    have hKs : ∀ u : Value, (W.setCell ⟨w.heap.size, 0, none⟩ u).heap[D']? = some (.deferred (some [])) := fun u => (Below.heap_setCell _ _ _ _ (by simp at hD; simp; omega)).trans hK
    gi_wp2
    refine ⟨by simp, .inl ⟨_, _, rfl, run_takeDeferred (hKs _), ?_⟩⟩
    have hc5 := ((h1.set (.int .i64 0)).kept (grownBy_putObj' _ D' (.deferred none)) (by simp at hD; simp; omega)).cell
    refine ⟨.int .i64 0, by simp [results, Tryz.f26, go_sem, hc5], by rw [HR.out], ?_, ?_⟩
    · rw [HR.out]
      exact (hd.grown (row := some w.heap.size) (setCell_grown _ _ _) (fun r e => by cases e; omega)).grown (grownBy_putObj' _ D' (.deferred none)) (fun r e => by cases e; simp at hD; omega)
    · exact (hch.far (setCell_grown _ _ _) (fun r e => by cases e; simp)).far (grownBy_putObj' _ D' (.deferred none)) (fun r e => by cases e; simp at hD; omega)
  case stop =>
    rintro D' cd pre W hD hpre ⟨rfl, ⟨e, s', hr, he, h1, hd⟩, hch⟩ hK
    obtain ⟨more, hm⟩ := hpre
    have hst := runP_stop F pre more s (by rw [hr]; exact he)
    rw [hm, hr] at hst
    have HST := Lib.hid hst
    clear hst hr hm
    gi_wp2
    refine ⟨by simp, .inl ⟨_, _, rfl, run_takeDeferred hK, ?_⟩⟩
    have hc5 := (h1.kept (grownBy_putObj' _ D' (.deferred none)) (by simp at hD; simp; omega)).cell
    refine ⟨.int .i64 e, by simp [results, Tryz.f26, go_sem, hc5], by rw [HST.out], ?_, ?_⟩
    · rw [HST.out]
      exact hd.grown (grownBy_putObj' _ D' (.deferred none)) (fun r e => by cases e; simp at hD; omega)
    · exact hch.far (grownBy_putObj' _ D' (.deferred none)) (fun r e => by cases e; simp at hD; omega)
end Go.Proofs.YtoaegleieacokaaGreat
