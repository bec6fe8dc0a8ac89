/- DiskCuts: the walk. -/
import Derived.Test.YtoaegleieacokaaKnown8
namespace Go.Proofs.Ytoaegleieacokaa
open Go.RowKit Go.Shelf

def cu0 : DS := ⟨1000, [(⟨#[102]⟩, ⟨⟨#[]⟩, 0⟩)], 1, -1⟩
def cu1 (a : ByteArray) : DS := ⟨1000, [(⟨#[102]⟩, ⟨a, 0⟩)], 2, -1⟩
def cu2 (a : ByteArray) (m : Nat) : DS := ⟨1000, [(⟨#[102]⟩, ⟨a.extract 0 m, m⟩)], 3, -1⟩
theorem cu_0 : (newDS 1000).create ⟨#[102]⟩ = (0, cu0) := by rfl
theorem cu_1 (a : ByteArray) (ha : a.size ≤ 100) : cu0.append ⟨#[102]⟩ a = (0, cu1 a) := by
  unfold DS.append
  rw [if_neg (by decide), if_neg (by rw [show used cu0.l = 0 from rfl]; simp [cu0]; omega)]
  have e : (⟨#[]⟩ : ByteArray) ++ a = a := ByteArray.empty_append
  have : cu0.step ⟨#[102]⟩ ⟨(⟨#[]⟩ : ByteArray) ++ a, 0⟩ = cu1 a := by rw [e]; rfl
  exact congrArg (Prod.mk (0 : Int)) this
theorem cu_2 (a : ByteArray) (n : Int) : (cu1 a).cut ⟨#[102]⟩ n = (0, cu2 a (min (max n 0) (a.size : Int)).toNat) := by
  have e : (((min (max n 0) (a.size : Int)).toNat : Nat) : Int) = min (max n 0) (a.size : Int) := by omega
  unfold cu2
  rw [e]
  rfl
theorem cu_3 (a : ByteArray) (m : Nat) (hm : m ≤ a.size) (keep : Int) (hk0 : 0 ≤ keep) (hk1 : keep < 18446744073709551616) : (cu2 a m).crash keep = cu2 a m := by
  have hs : (a.extract 0 m).size = m := by simp; omega
  have h := crashF_whole keep hk0 hk1 0 (a.extract 0 m)
  rw [hs] at h
  unfold DS.crash crashed cu2
  simp only [names_one, List.map_cons, List.map_nil]
  rw [show place [(⟨#[102]⟩ : ByteArray)] ⟨#[102]⟩ = 0 from rfl, h]
theorem cu_r (a : ByteArray) (m : Nat) : readOf (cu2 a m) ⟨#[102]⟩ = (a.extract 0 m, 0) := by rfl
theorem fok_cu2 {a : ByteArray} (ha : a.size ≤ 100) {m : Nat} (hm : m ≤ a.size) : ∀ p ∈ (cu2 a m).l, FOk p.2 := by
  intro p hp
  simp only [cu2, List.mem_singleton] at hp
  subst hp
  exact ⟨by simp, by simp; omega, by simp; omega⟩
theorem cu_g1 (a : ByteArray) (m : Nat) : (cu2 a m).cut ⟨#[103]⟩ 0 = (19, cu2 a m) := by rfl
theorem cu_g2 (a : ByteArray) (m : Nat) : (cu2 a m).remove ⟨#[103]⟩ = (19, cu2 a m) := by rfl
theorem cu_g3 (a : ByteArray) (m : Nat) : (cu2 a m).rename ⟨#[103]⟩ ⟨#[104]⟩ = (19, cu2 a m) := by rfl
theorem cu_g4 (a : ByteArray) (m : Nat) : (cu2 a m).sync ⟨#[103]⟩ = (19, cu2 a m) := by rfl
theorem ok_cu0 : cu0.Ok := ⟨by decide, by decide, by decide, by decide, by decide, by decide⟩
theorem ok_cu1 {a : ByteArray} (ha : a.size ≤ 100) : (cu1 a).Ok := ⟨by simp [cu1], by simp [cu1], by simp [cu1], by simp [cu1], by simp [cu1], by simp [cu1, used]; omega⟩
theorem ok_cu2 {a : ByteArray} (ha : a.size ≤ 100) (m : Nat) : (cu2 a m).Ok := ⟨by simp [cu2], by simp [cu2], by simp [cu2], by simp [cu2], by simp [cu2], by simp [cu2, used]; omega⟩

set_option maxRecDepth 100000 in
set_option maxHeartbeats 2000000 in
theorem walk_DiskCuts {W : World} (a0 : ByteArray) (w0 : a0.size ≤ maxLen) (a1 : Int) (w1 : (Lit.int .i8 a1).wf = true) (a2 : Int) (w2 : (Lit.int .u64 a2).wf = true) :
    Calls Try.prog 14 #[.string a0, .int .i8 a1, .int .u64 a2] W fun e w' => e = .returned (.bool true) ∧ Below W.heap.size W w' := by
  have hwr : wrap64 a1 = a1 := by have := wf_i8 w1; unfold wrap64; omega
  have hk : 0 ≤ a2 ∧ a2 < 18446744073709551616 := wf_u64 w2
  obtain ⟨hk0, hk1⟩ := hk
  go_enter Try.func14, Try.ntmps14
  go_wp2_with fail
  refine (known8_calls W).mono ?_
  rintro e w3 ⟨rfl, hB1⟩
  by_cases hlen : 100 < a0.size
  · go_wp2
    go_ret
    exact ⟨rfl, hB1⟩
  · have hl : a0.size ≤ 100 := by omega
    go_wp2_with fail
    refine (new_dk 1000 hB1 hB1.size).mono ?_
    rintro e w4 ⟨D, rfl, M, h⟩
    clear hB1
    go_wp2_with fail
    refine (create_dk cu_0 ok_cu0 h).mono ?_
    clear h
    rintro e w4 ⟨rfl, h⟩
    go_wp2_with fail
    refine (append_dk (cu_1 a0 hl) (ok_cu1 hl) h).mono ?_
    clear h
    rintro e w4 ⟨rfl, h⟩
    go_wp2_with fail
    rw [hwr]
    refine (cut_dk (cu_2 a0 a1) (ok_cu2 hl _) h).mono ?_
    clear h
    rintro e w4 ⟨rfl, h⟩
    go_wp2_with fail
    have hm : (min (max a1 0) (a0.size : Int)).toNat ≤ a0.size := by omega
    refine (crash_dk hk0 hk1 (by simp [cu2]) (fok_cu2 hl hm) (cu_3 a0 _ hm a2 hk0 hk1) (ok_cu2 hl _) h).mono ?_
    clear h
    rintro e w4 ⟨⟨v, rfl⟩, h⟩
    go_wp2_with fail
    refine (read_dk (cu_r a0 _) h).mono ?_
    clear h
    rintro e w4 ⟨rfl, h⟩
    rw [show (min (max a1 0) (a0.size : Int)).toNat = (max 0 (min a1 (a0.size : Int))).toNat from by omega] at h ⊢
    go_wp2_with (first | (go_at_call 53; refine (cut_dk (cu_g1 a0 _) (ok_cu2 hl _) h).mono ?_; rintro e w5 ⟨rfl, h5⟩) | (go_at_call 54; refine (remove_dk (cu_g2 a0 _) (ok_cu2 hl _) h5).mono ?_; rintro e w6 ⟨rfl, h6⟩) | (go_at_call 52; refine (rename_dk (cu_g3 a0 _) (ok_cu2 hl _) h6).mono ?_; rintro e w7 ⟨rfl, h7⟩) | (go_at_call 26; refine (sync_dk (cu_g4 a0 _) (ok_cu2 hl _) h7).mono ?_; rintro e w8 ⟨rfl, h8⟩))
    go_ret
    exact ⟨rfl, h8.below⟩
end Go.Proofs.Ytoaegleieacokaa
