/- maps.Keys, names. -/
import Derived.Test.YtoaegleieacokaaGreatDiskUsed
import Derived.Test.YtoaegleieacokaaGreatLays
namespace Go.Proofs.YtoaegleieacokaaGreat
open Go.RowKit Go.Shelf Go.Sort
attribute [local go_sem] Oper.semAt_some

theorem keys_calls (m : Nat) (w : World) :
    Calls Tryz.prog 73 #[.map (some m)] w fun e w' => e = .returned (.func (.func 84) #[] #[.pointer (some ⟨w.heap.size, 0, none⟩)]) ∧ w.alloc (.cells #[.map (some m)] 64) = w' := by
  go_enter Tryz.func73, Tryz.ntmps73
  go_wp2
  go_ret
  exact ⟨rfl, rfl⟩

/-- The keys' bytes. -/
def keyBytes {β : Type} (l : List (ByteArray × β)) : List (List UInt8) := l.map fun p => p.1.data.toList
theorem enc_key (b : ByteArray) : encStr b.data.toList = .string b := by simp [encStr]

set_option maxRecDepth 100000 in
set_option maxHeartbeats 2000000 in
theorem keys1_calls (n : Nat) (hn : 1 ≤ n) (l Bm b : Nat) (L : List (ByteArray × F)) (J : List (List UInt8) → World → Prop)
    (hY : ∀ pre x W, J pre W → pre.length < L.length → YieldAt Fence.wide (n - 1) Tryz.prog l #[encStr x] W fun e W' => e = .returned (.bool true) ∧ J (pre ++ [x]) W' ∧ KeepsWalks W W')
    (W : World) (hJ : AbidesFrom W.heap.size J) (hm : W.cell? ⟨Bm, 0, none⟩ = some (.map (some b))) (hown : RawMap W b Value.string (enm F.val L)) (h0 : J [] W) :
    CallsIn Fence.wide n Tryz.prog 84 #[.func (.yield l) #[] #[], .pointer (some ⟨Bm, 0, none⟩)] W fun e W' => (∃ v, e = .returned v) ∧
      ∃ xs : List (List UInt8), xs.Perm (keyBytes L) ∧ J xs W' := by
  have hnd : (L.map (·.1)).Nodup := by have := hown.nodup; rwa [enm_keys] at this
  refine callsIn_of_wp Tryz.func84 rfl trivial ?_ rfl
  simp only [Tryz.ntmps84, List.size_toArray, List.length_cons, List.length_nil, Nat.reduceAdd, Nat.reduceSub, Array.replicate_succ, Array.replicate_zero, List.push_toArray, List.append_toArray, List.nil_append, List.cons_append]
  gi_wp2_with (first
    | (gi_at_range; refine wpListIn_range_raw rfl _ _ _ _ rfl Tryz.underlying64 rfl hown ?_; intro w0 hrg0 hg0 hs0)
    | gi_in)
  go_frame
  gi_loopw [3] (fun _ wr => ∃ (rem ps : List (ByteArray × F)), RawRg wr b W.heap.size Value.string (enm F.val L) (enm F.val rem) ∧ (ps ++ rem).Perm L ∧ J (keyBytes ps) wr)
    (fun _ wr => wr.rangeLeft b W.heap.size)
  case atStart =>
    exact ⟨L, [], hrg0, by simp, hJ [] W w0 none h0 hg0 (fun r e => by cases e)⟩
  case round =>
    obtain ⟨rem, ps, hrg, hp, hJs⟩ := hrel
    gi_wp2_with (first
      | (gi_at_next; refine wpListIn_next_raw rfl _ rfl (fun a b e => by simpa using e) rfl hrg ?_ ?_)
      | gi_in)
    · intro hr0
      have : rem = [] := by simpa [enm] using hr0
      subst this
      gi_wp2
      go_end0
      exact ⟨⟨_, rfl⟩, _, by rw [List.append_nil] at hp; exact hp.map _, hJs⟩
    · intro k v w2 hmem hrg2 hg2 hs2 hen
      obtain ⟨q, hq, hqe⟩ := List.mem_map.1 hmem
      obtain ⟨rfl, rfl⟩ : q.1 = k ∧ F.val q.2 = v := by simpa using hqe
      have hJ2 : J (keyBytes ps) w2 := hJ _ wr w2 (some W.heap.size) hJs hg2 (fun r e => by cases e; exact ⟨Nat.le_refl _, hrg.iter_walk⟩)
      have hlen := hp.length_eq
      rw [List.length_append] at hlen
      have hrl : 0 < rem.length := List.length_pos_of_mem hq
      have hndr : (rem.map (·.1)).Nodup := by
        have := (hp.map (·.1)).nodup_iff.2 hnd
        rw [List.map_append] at this
        exact (List.nodup_append.1 this).2.1
      have hpf := perm_filter_key hndr hq
      obtain ⟨fn, tmps, assign, body, hy, hR⟩ := hY (keyBytes ps) q.1.data.toList _ hJ2 (by simp [keyBytes]; omega)
      rw [enc_key] at hy
      have hrg2' : RawRg w2 b W.heap.size Value.string (enm F.val L) (enm F.val (rem.filter fun x => x.1 ≠ q.1)) := by
        have e : enm F.val (rem.filter fun x => x.1 ≠ q.1) = (enm F.val rem).filter fun x => x.1 ≠ q.1 := by
          unfold enm
          rw [List.filter_map]
          rfl
        rw [e]
        simp only [ne_eq, decide_not]
        exact hrg2
      have hlt : (enm F.val (rem.filter fun x => x.1 ≠ q.1)).length < (enm F.val rem).length := by
        rw [enm_length, enm_length, hpf.length_eq]
        simp
      have hp2 : (ps ++ [q] ++ rem.filter fun x => x.1 ≠ q.1).Perm L := by
        refine List.Perm.trans ?_ hp
        rw [List.append_assoc]
        exact (hpf.symm).append_left ps
      clear hs2 hrg2 hmem hpf hndr hlen hnd hqe hJ2
      unfold F.val at hen
      gi_wp2
      refine hR.mono ?_
      rintro e W3 ⟨rfl, hJ3, hk3⟩
      gi_wp2
      have hrg3 := hrg2'.of_walks hk3
      go_roundw
      case rel => exact ⟨_, ps ++ [q], hrg3, hp2, by simpa [keyBytes] using hJ3⟩
      case measure => rw [hrg3.left_eq, hrg.left_eq]; exact hlt

theorem keys_gives (n : Nat) (hn : 1 ≤ n) (Bm b : Nat) (L : List (ByteArray × F)) (w : World) (hBm : Bm < w.heap.size) (hm : w.cell? ⟨Bm, 0, none⟩ = some (.map (some b))) (hown : RawMap w b Value.string (enm F.val L)) :
    SeqGives Fence.wide n Tryz.prog 84 #[.pointer (some ⟨Bm, 0, none⟩)] encStr (fun xs => xs.Perm (keyBytes L)) L.length w := fun l J W hW hJ hY h0 =>
  keys1_calls n hn l Bm b L J hY W hJ ((hW.cell (p := ⟨Bm, 0, none⟩) hBm).trans hm) (hown.below hW hown.lt) h0

/-- The names, rising. -/
def names {β : Type} (L : List (ByteArray × β)) : List ByteArray := ((keyBytes L).mergeSort fun x y => decide (x ≤ y)).map fun x => ⟨x.toArray⟩
theorem names_enc {β : Type} (L : List (ByteArray × β)) : ((keyBytes L).mergeSort fun x y => decide (x ≤ y)).map encStr = (names L).map Value.string := by
  unfold names
  rw [List.map_map]
  rfl
theorem names_length {β : Type} (L : List (ByteArray × β)) : (names L).length = L.length := by
  simp [names, keyBytes]
theorem sort_unique {xs ys : List (List UInt8)} (h : xs.Perm ys) : xs.mergeSort (fun x y => decide (x ≤ y)) = ys.mergeSort (fun x y => decide (x ≤ y)) := by
  have tr : ∀ a b c : List UInt8, decide (a ≤ b) = true → decide (b ≤ c) = true → decide (a ≤ c) = true := fun a b c h1 h2 => by simp only [decide_eq_true_eq] at *; exact List.le_trans h1 h2
  have to : ∀ a b : List UInt8, (decide (a ≤ b) || decide (b ≤ a)) = true := fun a b => by simp only [Bool.or_eq_true, decide_eq_true_eq]; exact List.le_total a b
  refine List.Perm.eq_of_pairwise (le := fun a b => decide (a ≤ b) = true) (fun a b _ _ h1 h2 => ?_) (List.pairwise_mergeSort tr to xs) (List.pairwise_mergeSort tr to ys) (((List.mergeSort_perm _ _).trans h).trans (List.mergeSort_perm _ _).symm)
  simp only [decide_eq_true_eq] at h1 h2
  exact List.le_antisymm h1 h2

theorem sall_calls (a : Option Addr) (n c : Nat) (w : World) :
    Calls Tryz.prog 71 #[.slice a n c] w fun e w' => e = .returned (.func (.func 81) #[] #[.pointer (some ⟨w.heap.size, 0, none⟩)]) ∧ w.alloc (.cells #[.slice a n c] 34) = w' := by
  go_enter Tryz.func71, Tryz.ntmps71
  go_wp2
  go_ret
  exact ⟨rfl, rfl⟩

set_option maxRecDepth 100000 in
set_option maxHeartbeats 2000000 in
theorem names_calls (D M : Nat) (s : DS) (hlen : s.l.length ≤ 1000000) (w : World) (h : DiskAt w D M s) :
    Calls Tryz.prog 43 #[.pointer (some ⟨D, 0, none⟩)] w fun e w' => ∃ Bx, e = .returned (.func (.func 81) #[] #[.pointer (some ⟨Bx, 0, none⟩)]) ∧ w.heap.size ≤ Bx ∧
      ∃ v, Boxed w' Bx 34 v ∧ w'.ownsRow w.heap.size 9 1 v (names s.l).length ((names s.l).map Value.string) ∧ Below w.heap.size w w' := by
  have d1 : w.cell? ⟨D, 1, none⟩ = some (.map (some M)) := h.blk.cell 1
  have bK := Boxed.new w 64 (.map (some M))
  have hG := keys_gives 3 (by omega) w.heap.size M s.l (w.alloc (.cells #[.map (some M)] 64)) (by simp) bK.cell (h.map.alloc _)
  refine (callsIn_wide (n := 7)).1 ?_
  refine callsIn_of_wp Tryz.func43 rfl trivial ?_ rfl
  simp only [Tryz.ntmps43, List.size_toArray, List.length_cons, List.length_nil, Nat.reduceAdd, Nat.reduceSub, Array.replicate_succ, Array.replicate_zero, List.push_toArray, List.append_toArray, List.nil_append, List.cons_append]
  gi_wp2_with (first
    | (refine ⟨trivial, ?_⟩; gi_at_call 73; refine (callsIn_wide.2 (keys_calls M _)).mono ?_; rintro e w' ⟨rfl, rfl⟩)
    | (refine ⟨trivial, ?_⟩; gi_at_call 72; refine (AnyZ.sorted_in sortedL Fence.wide 6 trivial trivial trivial trivial rfl (by omega) (sortsL _) (enters_of Tryz.func83 (by kernel_rfl) rfl) 84 #[.pointer (some ⟨w.heap.size, 0, none⟩)] trivial (enters_of Tryz.func84 (by kernel_rfl) rfl) _ _ (by unfold maxLen; omega) (by omega) _ hG).mono ?_; rintro e w2 ⟨v, ss, rfl, hS, hrow, hnil, hb⟩; obtain ⟨a1, c1, rfl⟩ := Rd.val (Rd.of_owns hrow))
    | (refine ⟨trivial, ?_⟩; gi_at_call 71; refine (callsIn_wide.2 (sall_calls _ _ _ _)).mono ?_; rintro e w' ⟨rfl, rfl⟩))
  have hl : ss.length = (names s.l).length := by rw [names_length, hS.length_eq]; simp [keyBytes]
  rw [sort_unique hS, names_enc] at hrow
  have hb0 : Below w.heap.size w w2 := ((Below.refl _ w).alloc (Nat.le_refl _) (.cells #[.map (some M)] 64)).trans (hb.mono (by simp))
  have bx := Boxed.new w2 34 (.slice a1 ss.length c1)
  go_ret
  refine ⟨w2.heap.size, rfl, hb0.size, _, bx, ?_, hb0.alloc hb0.size _⟩
  rw [← hl]
  exact owns_base (hrow.alloc _) (by simp)
end Go.Proofs.YtoaegleieacokaaGreat
