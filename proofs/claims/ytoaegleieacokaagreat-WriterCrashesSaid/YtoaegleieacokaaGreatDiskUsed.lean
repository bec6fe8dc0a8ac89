/- maps.Values over the disk's map; Used. -/
import Derived.Test.YtoaegleieacokaaGreatDiskOps
namespace Go.Proofs.YtoaegleieacokaaGreat
open Go.RowKit Go.Shelf
attribute [local go_sem] Oper.semAt_some

theorem values_calls (m : Nat) (w : World) :
    Calls Tryz.prog 78 #[.map (some m)] w fun e w' => e = .returned (.func (.func 87) #[] #[.pointer (some ⟨w.heap.size, 0, none⟩)]) ∧ w.alloc (.cells #[.map (some m)] 64) = w' := by
  go_enter Tryz.func78, Tryz.ntmps78
  go_wp2
  go_ret
  exact ⟨rfl, rfl⟩

set_option maxRecDepth 100000 in
set_option maxHeartbeats 2000000 in
theorem values1_calls (n : Nat) (hn : 1 ≤ n) (l Bm b : Nat) (L : List (ByteArray × F)) (J Jx : List F → World → Prop)
    (hY : ∀ pre x W, J pre W → pre.length < L.length → YieldAt Fence.wide (n - 1) Tryz.prog l #[F.val x] W fun e W' =>
      (e = .returned (.bool true) ∧ J (pre ++ [x]) W' ∧ KeepsWalks W W') ∨ (e = .returned (.bool false) ∧ Jx (pre ++ [x]) W'))
    (W : World) (hJ : AbidesFrom W.heap.size J) (hm : W.cell? ⟨Bm, 0, none⟩ = some (.map (some b))) (hown : RawMap W b Value.string (enm F.val L)) (h0 : J [] W) :
    CallsIn Fence.wide n Tryz.prog 87 #[.func (.yield l) #[] #[], .pointer (some ⟨Bm, 0, none⟩)] W fun e W' => (∃ v, e = .returned v) ∧
      ((∃ xs : List F, xs.Perm (L.map (·.2)) ∧ J xs W') ∨ (∃ pre, Jx pre W')) := by
  have hnd : (L.map (·.1)).Nodup := by have := hown.nodup; rwa [enm_keys] at this
  refine callsIn_of_wp Tryz.func87 rfl trivial ?_ rfl
  simp only [Tryz.ntmps87, List.size_toArray, List.length_cons, List.length_nil, Nat.reduceAdd, Nat.reduceSub, Array.replicate_succ, Array.replicate_zero, List.push_toArray, List.append_toArray, List.nil_append, List.cons_append]
  gi_wp2_with (first
    | (gi_at_range; refine wpListIn_range_raw rfl _ _ _ _ rfl Tryz.underlying64 rfl hown ?_; intro w0 hrg0 hg0 hs0)
    | gi_in)
  go_frame
  gi_loopw [4] (fun _ wr => ∃ (rem ps : List (ByteArray × F)), RawRg wr b W.heap.size Value.string (enm F.val L) (enm F.val rem) ∧ (ps ++ rem).Perm L ∧ J (ps.map (·.2)) wr)
    (fun _ wr => wr.rangeLeft b W.heap.size)
  case atStart =>
    exact ⟨L, [], hrg0, by simp, hJ [] W w0 none h0 hg0 (fun r e => by cases e)⟩
  case round =>
    obtain ⟨rem, ps, hrg, hp, hJs⟩ := hrel
    gi_wp2_with (first
      | (gi_at_next; refine wpListIn_next_raw rfl _ rfl (fun a b e => by simpa using e) rfl hrg ?_ ?_)
      | gi_in)
    · intro hr0
      have : rem = [] := by simpa [enm] using hr0
      subst this
      gi_wp2
      go_end0
      exact ⟨⟨_, rfl⟩, .inl ⟨_, by rw [List.append_nil] at hp; exact hp.map _, hJs⟩⟩
    · intro k v w2 hmem hrg2 hg2 hs2 hen
      obtain ⟨q, hq, hqe⟩ := List.mem_map.1 hmem
      obtain ⟨rfl, rfl⟩ : q.1 = k ∧ F.val q.2 = v := by simpa using hqe
      have hJ2 : J (ps.map (·.2)) w2 := hJ _ wr w2 (some W.heap.size) hJs hg2 (fun r e => by cases e; exact ⟨Nat.le_refl _, hrg.iter_walk⟩)
      have hlen := hp.length_eq
      rw [List.length_append] at hlen
      have hrl : 0 < rem.length := List.length_pos_of_mem hq
      have hndr : (rem.map (·.1)).Nodup := by
        have := (hp.map (·.1)).nodup_iff.2 hnd
        rw [List.map_append] at this
        exact (List.nodup_append.1 this).2.1
      have hpf := perm_filter_key hndr hq
      have hJ3 := hJ _ w2 (w2.alloc (.cells #[.string q.2.b, .int .i64 q.2.k] 89)) none hJ2 (World.grownBy_alloc _ _ _) (fun r e => by cases e)
      obtain ⟨fn, tmps, assign, body, hy, hR⟩ := hY (ps.map (·.2)) q.2 _ hJ3 (by simp; omega)
      have hrg2' : RawRg w2 b W.heap.size Value.string (enm F.val L) (enm F.val (rem.filter fun x => x.1 ≠ q.1)) := by
        have e : enm F.val (rem.filter fun x => x.1 ≠ q.1) = (enm F.val rem).filter fun x => x.1 ≠ q.1 := by
          unfold enm
          rw [List.filter_map]
          rfl
        rw [e]
        simp only [ne_eq, decide_not]
        exact hrg2
      have hlt : (enm F.val (rem.filter fun x => x.1 ≠ q.1)).length < (enm F.val rem).length := by
        rw [enm_length, enm_length, hpf.length_eq]
        simp
      have hp2 : (ps ++ [q] ++ rem.filter fun x => x.1 ≠ q.1).Perm L := by
        refine List.Perm.trans ?_ hp
        rw [List.append_assoc]
        exact (hpf.symm).append_left ps
      clear hs2 hrg2 hmem hpf hndr hlen hnd hqe hJ2 hJ3
      unfold F.val at hy hen
      gi_wp2
      refine hR.mono ?_
      rintro e W3 (⟨rfl, hJ3, hk3⟩ | ⟨rfl, hJx3⟩)
      · gi_wp2
        have hrg3 := hrg2'.of_walks ((KeepsWalks.alloc _ _).trans hk3)
        go_roundw
        case rel => exact ⟨_, ps ++ [q], hrg3, hp2, by simpa using hJ3⟩
        case measure => rw [hrg3.left_eq, hrg.left_eq]; exact hlt
      · gi_wp2
        refine bodyPost_ret (results_none rfl _ _ _) rfl ?_
        exact ⟨⟨_, rfl⟩, .inr ⟨_, hJx3⟩⟩

theorem values_stops (n : Nat) (hn : 1 ≤ n) (Bm b : Nat) (L : List (ByteArray × F)) (w : World) (hBm : Bm < w.heap.size) (hm : w.cell? ⟨Bm, 0, none⟩ = some (.map (some b))) (hown : RawMap w b Value.string (enm F.val L)) :
    SeqStopsK Fence.wide n Tryz.prog 87 #[.pointer (some ⟨Bm, 0, none⟩)] (fun x : F => #[F.val x]) KeepsWalks (fun xs => xs.Perm (L.map (·.2))) (fun _ => True) L.length w := fun l J Jx W hW hJ _ hY h0 =>
  (values1_calls n hn l Bm b L J Jx hY W hJ ((hW.cell (p := ⟨Bm, 0, none⟩) hBm).trans hm) (hown.below hW hown.lt) h0).mono fun _ _ ⟨h1, h2⟩ => ⟨h1, h2.imp id fun ⟨pre, h⟩ => ⟨pre, trivial, h⟩⟩

def sumW : List F → Int := List.foldl (fun s x => wrap64 (s + (x.b.size : Int))) 0
theorem sumW_snoc (pre : List F) (x : F) : sumW (pre ++ [x]) = wrap64 (sumW pre + (x.b.size : Int)) := by simp [sumW]
theorem wrap_small {a : Int} (h0 : 0 ≤ a) (h1 : a ≤ 4611686018427387904) : wrap64 a = a := by
  unfold wrap64
  omega
theorem sumW_eq : ∀ (xs : List F), (xs.map fun x => x.b.size).sum ≤ 4611686018427387904 → sumW xs = ((xs.map fun x => x.b.size).sum : Nat) := by
  intro xs
  suffices h : ∀ (l pre : List F), ((pre ++ l).map fun x => x.b.size).sum ≤ 4611686018427387904 → sumW pre = ((pre.map fun x => x.b.size).sum : Nat) → sumW (pre ++ l) = (((pre ++ l).map fun x => x.b.size).sum : Nat) by
    intro hb
    have := h xs [] (by simpa using hb) (by simp [sumW])
    simpa using this
  intro l
  induction l with
  | nil => intro pre _ h; simpa using h
  | cons x l ih =>
    intro pre hb h
    have e : pre ++ x :: l = (pre ++ [x]) ++ l := by simp
    rw [e] at hb ⊢
    refine ih (pre ++ [x]) hb ?_
    rw [sumW_snoc, h]
    have hb' : ((pre ++ [x]).map fun x => x.b.size).sum ≤ 4611686018427387904 := by
      rw [List.map_append, List.sum_append] at hb
      omega
    simp only [List.map_append, List.map_cons, List.map_nil, List.sum_append, List.sum_cons, List.sum_nil, Nat.add_zero] at hb' ⊢
    rw [wrap_small (by omega) (by omega)]
    omega

set_option maxRecDepth 100000 in
set_option maxHeartbeats 2000000 in
theorem used_calls (D M : Nat) (s : DS) (hu : used s.l ≤ 4611686018427387904) (w : World) (h : DiskAt w D M s) :
    Calls Tryz.prog 64 #[.pointer (some ⟨D, 0, none⟩)] w fun e w' => e = .returned (.int .i64 (used s.l : Int)) ∧ Below w.heap.size w w' := by
  have hU : ∀ xs : List F, xs.Perm (s.l.map (·.2)) → sumW xs = (used s.l : Int) := by
    intro xs hp
    have e1 : (xs.map fun x => x.b.size).sum = used s.l := by
      rw [(hp.map fun x => x.b.size).sum_nat]
      simp [used, Function.comp_def]
    rw [sumW_eq xs (by rw [e1]; exact hu), e1]
  have hD := h.blk.lt
  have d1 : ∀ o, (w.alloc o).cell? ⟨D, 1, none⟩ = some (.map (some M)) := fun o => (World.cell?_alloc_lt w o ⟨D, 1, none⟩ hD).trans (h.blk.cell 1)
  refine (callsIn_wide (n := 4)).1 ?_
  refine callsIn_of_wp_marks Tryz.func64 rfl trivial ?_ rfl
  simp only [Tryz.ntmps64, List.size_toArray, List.length_cons, List.length_nil, Nat.reduceAdd, Nat.reduceSub, Array.replicate_succ, Array.replicate_zero, List.push_toArray, List.append_toArray, List.nil_append, List.cons_append]
  gi_wp2_with (refine ⟨trivial, ?_⟩; gi_at_call 78; refine (callsIn_wide.2 (values_calls M _)).mono ?_; rintro e w' ⟨rfl, rfl⟩)
  have bN := Boxed.new w 3 (.int .i64 0)
  have bM := Boxed.new (w.alloc (.cells #[.int .i64 0] 3)) 64 (.map (some M))
  simp only [World.size_alloc] at bM
  have hB0 : Below w.heap.size w ((w.alloc (.cells #[.int .i64 0] 3)).alloc (.cells #[.map (some M)] 64)) := ((Below.refl _ w).alloc (Nat.le_refl _) _).alloc (by simp) _
  refine wpIn_rangeFunc_ownH rfl (by omega) (gf := 87) (lb := #[.pointer (some ⟨w.heap.size + 1, 0, none⟩)]) rfl trivial (enters_of Tryz.func87 (by kernel_rfl) rfl)
    (values_stops 3 (by omega) (w.heap.size + 1) M s.l _ (by simp) bM.cell ((h.map.alloc _).alloc _))
    walksK_t walksK_b (Below.refl _ _) (fun _ => rfl)
    (fun pre W => Boxed W w.heap.size 3 (.int .i64 (sumW pre)) ∧ Below w.heap.size w W)
    (fun _ _ _ => False)
    (OwnFrom.and (Own.from (boxed_own _ _ _) _) (ownFrom_below (Nat.le_refl _) (by simp; omega)))
    (fun _ _ _ _ _ hs _ _ => hs)
    ⟨bN.alloc _, hB0⟩
    (fun x a' W => ∃ Bx, w.heap.size < Bx ∧ Blk W Bx 89 #[.string x.b, .int .i64 x.k] ∧ a' = { tmps := #[.pointer (some ⟨D, 0, none⟩), undef, .int .i64 0, .pointer (some ⟨w.heap.size, 0, none⟩), .pointer (some ⟨Bx, 0, none⟩), .pointer (some ⟨D, 0, none⟩), .pointer (some ⟨D, 0, none⟩), .pointer (some ⟨D, 1, none⟩), .map (some M), .func (.func 87) #[] #[.pointer (some ⟨w.heap.size + 1, 0, none⟩)], .agg #[.string x.b, .int .i64 x.k], undef, undef, undef, undef, undef, undef], defers := [] }) ?hax ?assign ?body ?done ?stop
  case hax =>
    rintro x a' _ A B row ⟨Bx, h1, h2, h3⟩ hg hr
    exact ⟨Bx, h1, (blk_own Bx 89 (fun (_ : Unit) => #[.string x.b, .int .i64 x.k])) () A B row h2 hg (fun r e => (hr r e).2), h3⟩
  case assign =>
    intro l pre x W K hI hK
    unfold F.val
    gi_wp2
    obtain ⟨h1, h4⟩ := hI
    refine hK _ _ ((KeepsOthers.alloc _ _).from _) (KeepsWalks.alloc _ _) ?_ ⟨W.heap.size, ?_, Blk.new _ _ _, rfl⟩
    · exact ⟨h1.alloc _, h4.alloc h4.size _⟩
    · exact h1.lt
  case body =>
    rintro l pre x a' W hl _ ⟨hb, hB⟩ ⟨Bx, hBx, bX, rfl⟩ hlt
    have hc0 := hb.cell
    have hf0 := hb.frozen
    have x0 := bX.cell 0
    simp only [List.getElem?_toArray, List.getElem?_cons_zero] at x0
    gi_wp2
    exact ⟨(KeepsOthers.setCell _ _ _).from _, KeepsWalks.setCell _ _ _, by rw [sumW_snoc]; exact hb.set _, hB.setCell (p := ⟨w.heap.size, 0, none⟩) (Nat.le_refl _) _⟩
  case done =>
    rintro Df ys W hD hp ⟨hb, hB⟩ hK
    have hc0 := hb.cell
    gi_wp2
    refine ⟨by simp, .inl ⟨_, _, rfl, run_takeDeferred hK, ?_⟩⟩
    exact ⟨_, results_tmp rfl _ _ _, by rw [← hU ys hp]; rfl, hB.trans (belowK_b (w := w) (Nat.le_refl _) W Df _ _ (by simp at hD; omega) hK rfl rfl)⟩
  case stop =>
    rintro Df c pre W _ _ h _
    exact h.elim
end Go.Proofs.YtoaegleieacokaaGreat
