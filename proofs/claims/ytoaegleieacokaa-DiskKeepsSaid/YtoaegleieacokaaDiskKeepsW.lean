/- DiskKeeps: the walk. -/
import Derived.Test.YtoaegleieacokaaKnown8
namespace Go.Proofs.Ytoaegleieacokaa
open Go.RowKit Go.Shelf

def kp (b : ByteArray) (c st : Int) : DS := ⟨100000, [(⟨#[102]⟩, ⟨b, c⟩)], st, -1⟩
def cat (l : List ByteArray) : ByteArray := l.foldl (· ++ ·) ⟨#[]⟩
theorem cat_snoc (l : List ByteArray) (x : ByteArray) : cat (l ++ [x]) = cat l ++ x := by simp [cat]
theorem cat_take (l : List ByteArray) (k : Nat) (hk : k < l.length) : cat (l.take (k + 1)) = cat (l.take k) ++ l[k] := by
  rw [List.take_succ_eq_append_getElem hk, cat_snoc]
theorem kp_0 : (newDS 100000).create ⟨#[102]⟩ = (0, kp ⟨#[]⟩ 0 1) := by rfl
theorem kp_on (b : ByteArray) (c st : Int) : onOf (kp b c st) ⟨#[102]⟩ true = 0 := by rfl
theorem kp_add (b x : ByteArray) (c st : Int) (hb : b.size + x.size ≤ 100000) : (kp b c st).append ⟨#[102]⟩ x = (0, kp (b ++ x) c (st + 1)) := by
  unfold DS.append
  rw [if_neg (by rw [kp_on]; decide), if_neg (by rw [show used (kp b c st).l = b.size from rfl]; simp [kp]; omega)]
  rfl
theorem kp_sync (b : ByteArray) (c st : Int) : (kp b c st).sync ⟨#[102]⟩ = (0, kp b b.size (st + 1)) := by rfl
theorem kp_r (b : ByteArray) (c st : Int) : readOf (kp b c st) ⟨#[102]⟩ = (b, 0) := by rfl
theorem ok_kp {b : ByteArray} (hb : b.size ≤ 100000) {c st : Int} (h0 : 0 ≤ st) (h1 : st ≤ 1000) : (kp b c st).Ok := ⟨by simpa [kp] using h0, by simp [kp]; omega, by simp [kp], by simp [kp], by simp [kp], by simp [kp, used]; omega⟩
theorem kp_crash (a b : ByteArray) (st keep : Int) (hk0 : 0 ≤ keep) (hk1 : keep < 18446744073709551616) : ∃ s c', (kp (a ++ b) a.size st).crash keep = kp s c' st ∧
    a.size ≤ s.size ∧ s.size ≤ a.size + b.size ∧ (a ++ b).extract 0 s.size = s ∧ (bits .and .u64 keep 255 = 255 → s = a ++ b) ∧ (bits .and .u64 keep 255 = 0 → s = a) := by
  have hK : crashK keep 0 = bits .and .u64 keep 255 := by unfold crashK; simp
  obtain ⟨q0, q1⟩ := crashK_le keep hk0 hk1 0
  rw [hK] at q0 q1
  obtain ⟨s0, s1⟩ : (a.size : Int) ≤ crashSize keep 0 ⟨a ++ b, a.size⟩ ∧ crashSize keep 0 ⟨a ++ b, a.size⟩ ≤ a.size + b.size := by
    unfold crashSize
    rw [hK]
    simp only [ByteArray.size_append]
    generalize bits .and .u64 keep 255 = q at *
    rw [show (((a.size + b.size : Nat) : Int) - (a.size : Int)) = (b.size : Int) from by omega]
    have h1 : 0 ≤ ((b.size : Int) * q) := Int.mul_nonneg (by omega) q0
    have h2 : ((b.size : Int) * q) ≤ (b.size : Int) * 255 := Int.mul_le_mul_of_nonneg_left q1 (by omega)
    rw [Int.tdiv_eq_ediv_of_nonneg h1]
    omega
  have e1 : bits .and .u64 keep 255 = 255 → crashSize keep 0 ⟨a ++ b, a.size⟩ = a.size + b.size := by
    intro e
    unfold crashSize
    rw [hK, e]
    simp only [ByteArray.size_append]
    rw [show (((a.size + b.size : Nat) : Int) - (a.size : Int)) = (b.size : Int) from by omega, Int.mul_tdiv_cancel _ (by decide)]
  have e2 : bits .and .u64 keep 255 = 0 → crashSize keep 0 ⟨a ++ b, a.size⟩ = a.size := by
    intro e
    unfold crashSize
    rw [hK, e]
    simp
  refine ⟨(crashF keep 0 ⟨a ++ b, a.size⟩).b, (crashF keep 0 ⟨a ++ b, a.size⟩).k, ?_, ?_⟩
  · unfold DS.crash crashed kp
    simp only [names_one, List.map_cons, List.map_nil]
    rw [show place [(⟨#[102]⟩ : ByteArray)] ⟨#[102]⟩ = 0 from rfl]
  · unfold crashF
    simp only
    have hz : ((a ++ b).extract 0 (crashSize keep 0 ⟨a ++ b, a.size⟩).toNat).size = (crashSize keep 0 ⟨a ++ b, a.size⟩).toNat := by
      simp only [ByteArray.size_extract, ByteArray.size_append]
      omega
    rw [hz]
    refine ⟨by omega, by omega, rfl, fun e => ?_, fun e => ?_⟩
    · rw [e1 e]
      have : ((a.size : Int) + b.size).toNat = (a ++ b).size := by rw [ByteArray.size_append]; omega
      rw [this]
      exact ByteArray.extract_zero_size
    · rw [e2 e]
      exact ByteArray.extract_append_eq_left (by simp)

theorem fold_size : ∀ (l : List ByteArray) (a : ByteArray), (∀ x ∈ l, x.size ≤ 100) → (l.foldl (· ++ ·) a).size ≤ a.size + 100 * l.length
  | [], _, _ => by simp
  | x :: l, a, h => by
    have h1 := fold_size l (a ++ x) (fun y hy => h y (by simp [hy]))
    have h2 := h x (by simp)
    rw [ByteArray.size_append] at h1
    simp only [List.foldl_cons, List.length_cons]
    omega
theorem cat_size (l : List ByteArray) (h : ∀ x ∈ l, x.size ≤ 100) : (cat l).size ≤ 100 * l.length := by
  have := fold_size l ⟨#[]⟩ h
  rw [show (⟨#[]⟩ : ByteArray).size = 0 from rfl, Nat.zero_add] at this
  exact this
/-- What the first k are, no longer than may be. -/
def Few (l : List ByteArray) (k : Nat) : Prop := ∀ x ∈ l.take k, x.size ≤ 100
theorem Few.size {l : List ByteArray} {k : Nat} (h : Few l k) (hl : l.length ≤ 20) : (cat (l.take k)).size ≤ 2000 := by
  have h1 := cat_size _ h
  have h2 : (l.take k).length ≤ l.length := List.length_take_le' _ _
  omega
theorem Few.succ {l : List ByteArray} {k : Nat} (h : Few l k) (hk : k < l.length) (hx : l[k].size ≤ 100) : Few l (k + 1) := by
  intro x hx'
  rw [List.take_succ_eq_append_getElem hk] at hx'
  rcases List.mem_append.1 hx' with h1 | h1
  · exact h x h1
  · rw [List.mem_singleton] at h1
    rw [h1]
    exact hx

set_option maxRecDepth 100000 in
set_option maxHeartbeats 2000000 in
theorem walk_DiskKeeps {W : World} (a0 : Option Addr) (c0 : Nat) (l0 : List ByteArray) (r0 : Rd W W.heap.size 1 (.slice a0 l0.length c0) l0.length (l0.map Value.string)) (_ : c0 ≤ maxLen) (_ : ∀ x ∈ l0, x.size ≤ maxLen)
    (a1 : Option Addr) (c1 : Nat) (l1 : List ByteArray) (r1 : Rd W W.heap.size 1 (.slice a1 l1.length c1) l1.length (l1.map Value.string)) (_ : c1 ≤ maxLen) (_ : ∀ x ∈ l1, x.size ≤ maxLen) (a2 : Int) (w2 : (Lit.int .u64 a2).wf = true) :
    Calls Try.prog 11 #[.slice a0 l0.length c0, .slice a1 l1.length c1, .int .u64 a2] W fun e w' => e = .returned (.bool true) ∧ Below W.heap.size W w' := by
  obtain ⟨hk0, hk1⟩ := wf_u64 w2
  go_enter Try.func11, Try.ntmps11
  go_wp2_with fail
  refine (known8_calls W).mono ?_
  rintro e w3 ⟨rfl, hB1⟩
  by_cases hlen : 20 < l0.length
  · go_wp2
    go_ret
    exact ⟨rfl, hB1⟩
  by_cases hlen2 : 20 < l1.length
  · go_wp2
    go_ret
    exact ⟨rfl, hB1⟩
  go_wp2_with fail
  refine (new_dk 100000 hB1 hB1.size).mono ?_
  rintro e w4 ⟨D, rfl, M, h⟩
  clear hB1
  go_wp2_with (first
    | (go_at_call 24; refine (create_dk kp_0 (ok_kp (by decide) (by decide) (by decide)) h).mono ?_; clear h; rintro e w4 ⟨rfl, h1, _⟩))
  go_loopw [8, 10] (fun s i wr => ∃ k : Nat, k ≤ l0.length ∧ i = .int .i64 k ∧ s = .string (cat (l0.take k)) ∧ Few l0 k ∧ Dk W.heap.size W D M (kp (cat (l0.take k)) 0 (1 + (k : Int))) wr) (fun _ i _ => l0.length - (intOf i).toNat)
  case atStart => exact ⟨0, Nat.zero_le _, rfl, rfl, fun x hx => by simp at hx, h1⟩
  case round =>
    obtain ⟨k, hk, rfl, rfl, hfew, h2⟩ := hrel
    have hsz := hfew.size (by omega)
    by_cases hlt : k < l0.length
    · obtain ⟨b3, o3, rfl, hb3, _, hc3⟩ := (r0.below h2.below (Nat.le_refl _)).at (by omega)
      have q3 : wr.cell? ⟨b3, o3 + k, none⟩ = some (.string l0[k]) := by rw [hc3 k (by omega)]; simp [hlt]
      have hct := Lib.hid (cat_take l0 k hlt)
      clear hc3
      have hfs : l0[k].size ≤ 100 → Few l0 (k + 1) := fun hx => hfew.succ hlt hx
      generalize l0[k] = x at *
      by_cases hx : 100 < x.size
      · go_wp2
        go_ret
        exact ⟨rfl, h2.below⟩
      · have hx' : x.size ≤ 100 := by omega
        have hfw := Lib.hid (hfs hx')
        clear hfs
        go_wp2_with (first
          | (go_at_call 25; refine (append_dk (kp_add _ x _ _ (by omega)) (ok_kp (by rw [ByteArray.size_append]; omega) (by omega) (by omega)) h2).mono ?_; have hb2 := h2.below; have hs2 := h2.size; rintro e w6 ⟨rfl, h3, hC⟩; have q4 := hC.cell (by have := h2.hD; have := h2.hM; simp; omega) (by omega) q3; clear h2 hC))
        go_roundw
        case rel => exact ⟨k + 1, by omega, by simp, by rw [hct.out], hfw.out, by rw [hct.out]; exact (show ((1 : Int) + (k : Int) + 1) = 1 + ((k + 1 : Nat) : Int) from by omega) ▸ h3⟩
        case measure => simp [intOf]; omega
    · obtain rfl : k = l0.length := by omega
      rw [List.take_length] at hsz h2 ⊢
      generalize cat l0 = A at *
      go_wp2_with (first
        | (go_at_call 26; refine (sync_dk (kp_sync _ _ _) (ok_kp (by omega) (by omega) (by omega)) h2).mono ?_; clear h2; rintro e w7 ⟨rfl, h3, _⟩))
      go_loopw [9, 11] (fun s i wr => ∃ k : Nat, k ≤ l1.length ∧ i = .int .i64 k ∧ s = .string (cat (l1.take k)) ∧ Few l1 k ∧ Dk W.heap.size W D M (kp (A ++ cat (l1.take k)) A.size (1 + (l0.length : Int) + 1 + (k : Int))) wr) (fun _ i _ => l1.length - (intOf i).toNat)
      case atStart => exact ⟨0, Nat.zero_le _, rfl, rfl, fun x hx => by simp at hx, by rw [show A ++ cat (l1.take 0) = A from ByteArray.append_empty]; exact (show (1 + (l0.length : Int) + 1) = 1 + (l0.length : Int) + 1 + ((0 : Nat) : Int) from by omega) ▸ h3⟩
      case round =>
        obtain ⟨k, hk, rfl, rfl, hfew, h4⟩ := hrel
        have hsz2 := hfew.size (by omega)
        by_cases hlt : k < l1.length
        · obtain ⟨b3, o3, rfl, hb3, _, hc3⟩ := (r1.below h4.below (Nat.le_refl _)).at (by omega)
          have q3 : wr.cell? ⟨b3, o3 + k, none⟩ = some (.string l1[k]) := by rw [hc3 k (by omega)]; simp [hlt]
          have hct := Lib.hid (cat_take l1 k hlt)
          clear hc3
          have hfs : l1[k].size ≤ 100 → Few l1 (k + 1) := fun hx => hfew.succ hlt hx
          generalize l1[k] = x at *
          by_cases hx : 100 < x.size
          · go_wp2
            go_ret
            exact ⟨rfl, h4.below⟩
          · have hx' : x.size ≤ 100 := by omega
            have hfw := Lib.hid (hfs hx')
            clear hfs
            go_wp2_with (first
              | (go_at_call 25; refine (append_dk (kp_add _ x _ _ (by rw [ByteArray.size_append]; omega)) (ok_kp (by rw [ByteArray.size_append, ByteArray.size_append]; omega) (by omega) (by omega)) h4).mono ?_; have hb2 := h4.below; have hs2 := h4.size; rintro e w6 ⟨rfl, h5, hC⟩; have q4 := hC.cell (by have := h4.hD; have := h4.hM; simp; omega) (by omega) q3; clear h4 hC))
            go_roundw
            case rel => exact ⟨k + 1, by omega, by simp, by rw [hct.out], hfw.out, by rw [hct.out, ← ByteArray.append_assoc]; exact (show ((1 : Int) + (l0.length : Int) + 1 + (k : Int) + 1) = 1 + (l0.length : Int) + 1 + ((k + 1 : Nat) : Int) from by omega) ▸ h5⟩
            case measure => simp [intOf]; omega
        · obtain rfl : k = l1.length := by omega
          rw [List.take_length] at hsz2 h4 ⊢
          generalize cat l1 = B at *
          obtain ⟨s, c', hcr, hs1, hs2, hs3, hs4, hs5⟩ := kp_crash A B (1 + (l0.length : Int) + 1 + (l1.length : Int)) a2 hk0 hk1
          have H4 := Lib.hid hs4
          have H5 := Lib.hid hs5
          clear hs4 hs5
          go_wp2_with (first
            | (go_at_call 46; refine (crash_dk hk0 hk1 (by simp [kp]) (by intro p hp; simp only [kp, List.mem_singleton] at hp; subst hp; exact ⟨by simp, by simp only [ByteArray.size_append]; omega, by simp only [ByteArray.size_append]; omega⟩) hcr (ok_kp (by omega) (by omega) (by omega)) h4).mono ?_; clear h4; rintro e w9 ⟨⟨v9, rfl⟩, h7, _⟩)
            | (go_at_call 35; refine (read_dk (kp_r _ _ _) h7).mono ?_; clear h7; rintro e w6 ⟨rfl, h8, _⟩))
          all_goals first
            | (exfalso; rename_i g1 g2; exact g2 (by rw [H4.out g1]))
            | (exfalso; rename_i g1 g2; exact g2 (by rw [H5.out g1]))
            | (go_ret; exact ⟨rfl, h8.below⟩)
            | (rename_i g1; go_ret; refine ⟨?_, h8.below⟩; rw [H5.out g1]; simp)
end Go.Proofs.Ytoaegleieacokaa
