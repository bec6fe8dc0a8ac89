/- DiskRenames: the walk. -/
import Derived.Test.YtoaegleieacokaaKnown8
namespace Go.Proofs.Ytoaegleieacokaa
open Go.RowKit Go.Shelf

def nOld : ByteArray := ⟨#[111, 108, 100]⟩
def nNew : ByteArray := ⟨#[110, 101, 119]⟩
def re1 (a : ByteArray) (st : Int) : DS := ⟨1000, [(nOld, ⟨a, 0⟩)], st, -1⟩
def re2 (a : ByteArray) (st l : Int) : DS := ⟨1000, [(nOld, ⟨a, a.size⟩)], st, l⟩
def re3 (a b : ByteArray) (st : Int) : DS := ⟨1000, [(nOld, ⟨a, a.size⟩), (nNew, ⟨b, 0⟩)], st, -1⟩
def re4 (a b : ByteArray) (l : Int) : DS := ⟨1000, [(nOld, ⟨a, a.size⟩), (nNew, ⟨b, b.size⟩)], 6, l⟩
theorem re_0 : (newDS 1000).create nOld = (0, re1 ⟨#[]⟩ 1) := by rfl
theorem re_1 (a : ByteArray) (ha : a.size ≤ 100) : (re1 ⟨#[]⟩ 1).append nOld a = (0, re1 a 2) := by
  unfold DS.append
  rw [if_neg (by decide), if_neg (by rw [show used (re1 ⟨#[]⟩ 1).l = 0 from rfl]; simp [re1]; omega)]
  have e : (⟨#[]⟩ : ByteArray) ++ a = a := ByteArray.empty_append
  have : (re1 ⟨#[]⟩ 1).step nOld ⟨(⟨#[]⟩ : ByteArray) ++ a, 0⟩ = re1 a 2 := by rw [e]; rfl
  exact congrArg (Prod.mk (0 : Int)) this
theorem re_2 (a : ByteArray) : (re1 a 2).sync nOld = (0, re2 a 3 (-1)) := by rfl
theorem re_3 (a : ByteArray) : (re2 a 3 (-1)).create nNew = (0, re3 a ⟨#[]⟩ 4) := by rfl
theorem re_4 (a b : ByteArray) (ha : a.size ≤ 100) (hb : b.size ≤ 100) : (re3 a ⟨#[]⟩ 4).append nNew b = (0, re3 a b 5) := by
  unfold DS.append
  rw [if_neg (by rw [show onOf (re3 a ⟨#[]⟩ 4) nNew true = 0 from rfl]; decide), if_neg (by rw [show used (re3 a ⟨#[]⟩ 4).l = a.size from rfl]; simp [re3]; omega)]
  have e : (⟨#[]⟩ : ByteArray) ++ b = b := ByteArray.empty_append
  have : (re3 a ⟨#[]⟩ 4).step nNew ⟨(⟨#[]⟩ : ByteArray) ++ b, 0⟩ = re3 a b 5 := by rw [e]; rfl
  exact congrArg (Prod.mk (0 : Int)) this
theorem re_5 (a b : ByteArray) : (re3 a b 5).sync nNew = (0, re4 a b (-1)) := by rfl
theorem re_6 (a b : ByteArray) : ({ re4 a b (-1) with left := max 0 0 } : DS) = re4 a b 0 := by rfl
theorem re_7 (a b : ByteArray) : (re4 a b 0).rename nNew nOld = (18, re4 a b 0) := by rfl
theorem re_7' (a b : ByteArray) : (re4 a b (-1)).rename nNew nOld = (0, re2 b 7 (-1)) := by rfl
theorem re_8 (a b : ByteArray) (keep : Int) (hk0 : 0 ≤ keep) (hk1 : keep < 18446744073709551616) : (re4 a b 0).crash keep = re4 a b (-1) :=
  crash_whole _ _ hk0 hk1 (by simp [re4])
theorem re_8' (b : ByteArray) (keep : Int) (hk0 : 0 ≤ keep) (hk1 : keep < 18446744073709551616) : (re2 b 7 (-1)).crash keep = re2 b 7 (-1) :=
  crash_whole _ _ hk0 hk1 (by simp [re2])
theorem re_r (a b : ByteArray) : readOf (re4 a b (-1)) nOld = (a, 0) := by rfl
theorem re_s (a b : ByteArray) : readOf (re4 a b (-1)) nNew = (b, 0) := by rfl
theorem re_r' (b : ByteArray) : readOf (re2 b 7 (-1)) nOld = (b, 0) := by rfl
theorem re_s' (b : ByteArray) : readOf (re2 b 7 (-1)) nNew = (⟨#[]⟩, 19) := by rfl
theorem ok_re1 {a : ByteArray} (ha : a.size ≤ 100) (st : Int) (h0 : 0 ≤ st) (h1 : st ≤ 9) : (re1 a st).Ok := ⟨by simp [re1]; omega, by simp [re1]; omega, by simp [re1], by simp [re1], by simp [re1], by simp [re1, used]; omega⟩
theorem ok_re2 {a : ByteArray} (ha : a.size ≤ 100) (st l : Int) (h0 : 0 ≤ st) (h1 : st ≤ 9) (hl : l ≤ 0) : (re2 a st l).Ok := ⟨by simp [re2]; omega, by simp [re2]; omega, by simp [re2]; omega, by simp [re2], by simp [re2], by simp [re2, used]; omega⟩
theorem ok_re3 {a b : ByteArray} (ha : a.size ≤ 100) (hb : b.size ≤ 100) (st : Int) (h0 : 0 ≤ st) (h1 : st ≤ 9) : (re3 a b st).Ok := ⟨by simp [re3]; omega, by simp [re3]; omega, by simp [re3], by simp [re3], by simp [re3], by simp [re3, used]; omega⟩
theorem ok_re4 {a b : ByteArray} (ha : a.size ≤ 100) (hb : b.size ≤ 100) (l : Int) (hl : l ≤ 0) : (re4 a b l).Ok := ⟨by simp [re4], by simp [re4], by simp [re4]; omega, by simp [re4], by simp [re4], by simp [re4, used]; omega⟩

set_option maxRecDepth 100000 in
set_option maxHeartbeats 2000000 in
theorem walk_DiskRenames {W : World} (a0 : ByteArray) (_ : a0.size ≤ maxLen) (a1 : ByteArray) (_ : a1.size ≤ maxLen) (a2 : Int) (w2 : (Lit.int .u64 a2).wf = true) (a3 : Bool) :
    Calls Try.prog 13 #[.string a0, .string a1, .int .u64 a2, .bool a3] W fun e w' => e = .returned (.bool true) ∧ Below W.heap.size W w' := by
  obtain ⟨hk0, hk1⟩ := wf_u64 w2
  go_enter Try.func13, Try.ntmps13
  go_wp2_with fail
  refine (known8_calls W).mono ?_
  rintro e w3 ⟨rfl, hB1⟩
  by_cases hlen : 100 < a0.size
  · go_wp2
    go_ret
    exact ⟨rfl, hB1⟩
  by_cases hlen2 : 100 < a1.size
  · go_wp2
    go_ret
    exact ⟨rfl, hB1⟩
  have ha : a0.size ≤ 100 := by omega
  have hb : a1.size ≤ 100 := by omega
  go_wp2_with fail
  refine (new_dk 1000 hB1 hB1.size).mono ?_
  rintro e w4 ⟨D, rfl, M, h⟩
  clear hB1
  cases a3
  · go_wp2_with (first
      | (go_at_call 24; refine (create_dk re_0 (ok_re1 (by decide) 1 (by decide) (by decide)) h).mono ?_; clear h; rintro e w4 ⟨rfl, h1, _⟩)
      | (go_at_call 25; refine (append_dk (re_1 a0 ha) (ok_re1 ha 2 (by decide) (by decide)) h1).mono ?_; clear h1; rintro e w4 ⟨rfl, h2, _⟩)
      | (go_at_call 26; refine (sync_dk (re_2 a0) (ok_re2 ha 3 (-1) (by decide) (by decide) (by decide)) h2).mono ?_; clear h2; rintro e w4 ⟨rfl, h3, _⟩)
      | (go_at_call 24; refine (create_dk (re_3 a0) (ok_re3 ha (by decide) 4 (by decide) (by decide)) h3).mono ?_; clear h3; rintro e w4 ⟨rfl, h4, _⟩)
      | (go_at_call 25; refine (append_dk (re_4 a0 a1 ha hb) (ok_re3 ha hb 5 (by decide) (by decide)) h4).mono ?_; clear h4; rintro e w4 ⟨rfl, h5, _⟩)
      | (go_at_call 26; refine (sync_dk (re_5 a0 a1) (ok_re4 ha hb (-1) (by decide)) h5).mono ?_; clear h5; rintro e w4 ⟨rfl, h6, _⟩)
      | (go_at_call 52; refine (rename_dk (re_7' a0 a1) (ok_re2 hb 7 (-1) (by decide) (by decide) (by decide)) h6).mono ?_; clear h6; rintro e w4 ⟨rfl, h7, _⟩)
      | (go_at_call 46; refine (crash_dk hk0 hk1 (by simp [re2]) (by intro p hp; simp [re2] at hp; subst hp; exact ⟨by simp, by simp, by simp; omega⟩) (re_8' a1 a2 hk0 hk1) (ok_re2 hb 7 (-1) (by decide) (by decide) (by decide)) h7).mono ?_; clear h7; rintro e w4 ⟨⟨v, rfl⟩, h8, _⟩)
      | (go_at_call 35; refine (read_dk (re_r' a1) h8).mono ?_; clear h8; rintro e w4 ⟨rfl, h9, _⟩)
      | (go_at_call 35; refine (read_dk (re_s' a1) h9).mono ?_; clear h9; rintro e w4 ⟨rfl, h10, _⟩)
      | (go_at_call 50; refine (all_dk (files_one nOld ⟨a1, a1.size⟩) (by simp [re2]) h10).mono ?_; clear h10; rintro e w5 ⟨v5, rfl, hrow, h11, _⟩; obtain ⟨g5, c5, rfl⟩ := ownsRow_succ hrow; clear hrow))
    go_ret
    exact ⟨rfl, h11.below⟩
  · go_wp2_with (first
      | (go_at_call 24; refine (create_dk re_0 (ok_re1 (by decide) 1 (by decide) (by decide)) h).mono ?_; clear h; rintro e w4 ⟨rfl, h1, _⟩)
      | (go_at_call 25; refine (append_dk (re_1 a0 ha) (ok_re1 ha 2 (by decide) (by decide)) h1).mono ?_; clear h1; rintro e w4 ⟨rfl, h2, _⟩)
      | (go_at_call 26; refine (sync_dk (re_2 a0) (ok_re2 ha 3 (-1) (by decide) (by decide) (by decide)) h2).mono ?_; clear h2; rintro e w4 ⟨rfl, h3, _⟩)
      | (go_at_call 24; refine (create_dk (re_3 a0) (ok_re3 ha (by decide) 4 (by decide) (by decide)) h3).mono ?_; clear h3; rintro e w4 ⟨rfl, h4, _⟩)
      | (go_at_call 25; refine (append_dk (re_4 a0 a1 ha hb) (ok_re3 ha hb 5 (by decide) (by decide)) h4).mono ?_; clear h4; rintro e w4 ⟨rfl, h5, _⟩)
      | (go_at_call 26; refine (sync_dk (re_5 a0 a1) (ok_re4 ha hb (-1) (by decide)) h5).mono ?_; clear h5; rintro e w4 ⟨rfl, h6, _⟩)
      | (go_at_call 51; refine (limit_dk (re_6 a0 a1) (ok_re4 ha hb 0 (by decide)) h6).mono ?_; clear h6; rintro e w4 ⟨⟨v0, rfl⟩, h7, _⟩)
      | (go_at_call 52; refine (rename_dk (re_7 a0 a1) (ok_re4 ha hb 0 (by decide)) h7).mono ?_; clear h7; rintro e w4 ⟨rfl, h8, _⟩)
      | (go_at_call 46; refine (crash_dk hk0 hk1 (by simp [re4]) (by intro p hp; simp [re4] at hp; rcases hp with rfl | rfl <;> exact ⟨by simp, by simp, by simp; omega⟩) (re_8 a0 a1 a2 hk0 hk1) (ok_re4 ha hb (-1) (by decide)) h8).mono ?_; clear h8; rintro e w4 ⟨⟨v, rfl⟩, h9, _⟩)
      | (go_at_call 35; refine (read_dk (re_r a0 a1) h9).mono ?_; clear h9; rintro e w4 ⟨rfl, h10, _⟩)
      | (go_at_call 35; refine (read_dk (re_s a0 a1) h10).mono ?_; clear h10; rintro e w4 ⟨rfl, h11, _⟩))
    go_ret
    exact ⟨rfl, h11.below⟩
end Go.Proofs.Ytoaegleieacokaa
