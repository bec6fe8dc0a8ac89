/- The iterator of slices.All over names. -/
import Derived.Test.YtoaegleieacokaaGreatDiskNames
namespace Go.Proofs.YtoaegleieacokaaGreat
open Go.RowKit Go.Shelf Go.Sort
attribute [local go_sem] Oper.semAt_some

theorem fin_take (n k : Nat) (hk : k < n) : (List.finRange n).take (k + 1) = (List.finRange n).take k ++ [⟨k, hk⟩] := by
  rw [List.take_succ_eq_append_getElem (by simpa using hk)]
  simp
def nameEnc (ns : List ByteArray) (x : Fin ns.length) : Array Value := #[.int .i64 (x.val : Int), .string ns[x.val]]

set_option maxRecDepth 100000 in
set_option maxHeartbeats 2000000 in
theorem all1_calls (n : Nat) (hn : 1 ≤ n) (l Bs bs c : Nat) (a : Option Addr) (ns : List ByteArray) (hreach : ns.length ≤ 1000000) (J Jx : List (Fin ns.length) → World → Prop)
    (hY : ∀ pre x W, J pre W → pre.length < ns.length → YieldAt Fence.wide (n - 1) Tryz.prog l (nameEnc ns x) W fun e W' =>
      (e = .returned (.bool true) ∧ J (pre ++ [x]) W' ∧ Keep 0 [Bs, bs] W W') ∨ (e = .returned (.bool false) ∧ Jx (pre ++ [x]) W'))
    (W : World) (hm : W.cell? ⟨Bs, 0, none⟩ = some (.slice a ns.length c)) (hs : 0 < ns.length → a = some ⟨bs, 0, none⟩ ∧ ∀ k (hk : k < ns.length), W.cell? ⟨bs, k, none⟩ = some (.string ns[k])) (h0 : J [] W) :
    CallsIn Fence.wide n Tryz.prog 81 #[.func (.yield l) #[] #[], .pointer (some ⟨Bs, 0, none⟩)] W fun e W' => (∃ v, e = .returned v) ∧
      ((∃ xs, xs = List.finRange ns.length ∧ J xs W') ∨ (∃ pre, Jx pre W')) := by
  refine callsIn_of_wp Tryz.func81 rfl trivial ?_ rfl
  simp only [Tryz.ntmps81, List.size_toArray, List.length_cons, List.length_nil, Nat.reduceAdd, Nat.reduceSub, Array.replicate_succ, Array.replicate_zero, List.push_toArray, List.append_toArray, List.nil_append, List.cons_append]
  gi_wp2
  gi_loopw [7] (fun i wr => ∃ k : Nat, k ≤ ns.length ∧ i = .int .i64 k ∧ J ((List.finRange ns.length).take k) wr ∧ Keep 0 [Bs, bs] W wr)
    (fun i _ => ns.length - (intOf i).toNat)
  case atStart => exact ⟨0, Nat.zero_le _, rfl, h0, Keep.refl _ _ _⟩
  case round =>
    obtain ⟨k, hk, rfl, hJs, hnx⟩ := hrel
    by_cases hlt : k < ns.length
    · obtain ⟨rfl, hcs⟩ := hs (by omega)
      have d0 := (hnx.cell (p := ⟨bs, k, none⟩) (by simp)).trans (hcs k hlt)
      obtain ⟨fn, tmps, assign, body, hy, hR⟩ := hY _ ⟨k, hlt⟩ _ hJs (by simp; omega)
      have Hk := Lib.hid (fin_take ns.length k hlt)
      unfold nameEnc at hy
      simp only at hy
      clear hJs h0 hcs hs
      generalize ns[k] = x at *
      gi_wp2
      refine hR.mono ?_
      rintro e W3 (⟨rfl, hJ3, hk3⟩ | ⟨rfl, hJx3⟩)
      · gi_wp2
        go_roundw
        case rel => exact ⟨k + 1, by omega, by simp, by rw [Hk.out]; exact hJ3, hnx.trans hk3⟩
        case measure => simp [intOf]; omega
      · gi_wp2
        refine bodyPost_ret (results_none rfl _ _ _) rfl ?_
        exact ⟨⟨_, rfl⟩, .inr ⟨_, hJx3⟩⟩
    · obtain rfl : k = ns.length := by omega
      gi_wp2
      go_end0
      exact ⟨⟨_, rfl⟩, .inl ⟨_, by rw [List.take_of_length_le (by simp)], hJs⟩⟩

/-- What names hands back gives the names, each with its place. -/
theorem all1_stops (n : Nat) (hn : 1 ≤ n) (Bs base : Nat) (v : Value) (ns : List ByteArray) (hreach : ns.length ≤ 1000000) (w : World) (hb : Boxed w Bs 34 v) (hrow : w.ownsRow base 9 1 v ns.length (ns.map Value.string)) :
    ∃ bs, bs < w.heap.size ∧ (v.ownBlock = some bs ∨ v.ownBlock = none ∧ bs = Bs) ∧ SeqStopsK Fence.wide n Tryz.prog 81 #[.pointer (some ⟨Bs, 0, none⟩)] (nameEnc ns) (Keep 0 [Bs, bs]) (fun xs => xs = List.finRange ns.length) (fun _ => True) ns.length w := by
  rcases hrow.2 with ⟨rfl, hz⟩ | ⟨g, cap, cur, rfl, hg, hh, r⟩
  · obtain rfl : ns = [] := List.eq_nil_of_length_eq_zero hz
    refine ⟨Bs, hb.lt, .inr ⟨rfl, rfl⟩, fun l J Jx W hW hJ _ hY h0 => ?_⟩
    have hm := (hW.cell (p := ⟨Bs, 0, none⟩) hb.lt).trans hb.cell
    exact (all1_calls n hn l Bs Bs _ none [] hreach J Jx hY W hm (fun h => by simp at h) h0).mono fun e W' ⟨h1, h2⟩ => ⟨h1, h2.imp id fun ⟨pre, h⟩ => ⟨pre, trivial, h⟩⟩
  · refine ⟨g, (Array.getElem?_eq_some_iff.1 hh).1, .inl rfl, fun l J Jx W hW hJ _ hY h0 => ?_⟩
    have hm := (hW.cell (p := ⟨Bs, 0, none⟩) hb.lt).trans hb.cell
    have hcell : ∀ k (hk : k < ns.length), W.cell? ⟨g, k, none⟩ = some (.string ns[k]) := by
      intro k hk
      rw [hW.cell (p := ⟨g, k, none⟩) (Array.getElem?_eq_some_iff.1 hh).1]
      have h1 := World.ownsRow.cellAt (base := base) (e := 9) (size := 1) (n := ns.length) ⟨hrow.1, .inr ⟨g, cap, cur, rfl, hg, hh, r⟩⟩ k (by omega)
      rw [h1]
      simp [hk]
    exact (all1_calls n hn l Bs g cap _ ns hreach J Jx hY W hm (fun _ => ⟨rfl, hcell⟩) h0).mono fun e W' ⟨h1, h2⟩ => ⟨h1, h2.imp id fun ⟨pre, h⟩ => ⟨pre, trivial, h⟩⟩
end Go.Proofs.YtoaegleieacokaaGreat
