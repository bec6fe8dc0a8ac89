/- The reference's disk: Of. -/
import Derived.Test.YtoaegleieacokaaBridge
namespace Go.Proofs.Ytoaegleieacokaa
open Go.RowKit Go.Shelf

theorem insL_len (p : ByteArray × F) : ∀ l : List (ByteArray × F), (insL p l).length = l.length + 1
  | [] => rfl
  | x :: l => by
    unfold insL
    split
    · simp
    · simp [insL_len p l]
theorem rof_len (L : List (ByteArray × F)) : (L.foldl rofStep []).length ≤ 1000 := by
  have : ∀ (L l : List (ByteArray × F)), l.length ≤ 1000 → (L.foldl rofStep l).length ≤ 1000 := by
    intro L
    induction L with
    | nil => intro l h; exact h
    | cons x L ih =>
      intro l h
      refine ih _ ?_
      unfold rofStep
      split
      · rename_i h2
        rw [insL_len]
        omega
      · exact h
  exact this L [] (by simp)
theorem rof_take (L : List (ByteArray × F)) (k : Nat) (hk : k < L.length) : (L.take (k + 1)).foldl rofStep [] = rofStep ((L.take k).foldl rofStep []) L[k] := by
  rw [List.take_succ_eq_append_getElem hk, List.foldl_append]
  rfl
theorem file_cells' {w : World} {a : Option Addr} {c n : Nat} {l : List (ByteArray × F)} (rd : Rd w n 3 (.slice a l.length c) l.length (filesCells l)) (k : Nat) (hk : k < l.length) : ∃ b off, a = some ⟨b, off, none⟩ ∧ b < n ∧ l.length ≤ c ∧
    w.cell? ⟨b, off + k * 3, none⟩ = some (.string l[k].1) ∧ w.cell? ⟨b, off + k * 3 + 1, none⟩ = some (.string l[k].2.b) ∧ w.cell? ⟨b, off + k * 3 + 2, none⟩ = some (.int .i64 l[k].2.k) := by
  have hcap := rd.cap
  obtain ⟨b, off, rfl, hb, hcp, hcs⟩ := rd.at (by omega)
  refine ⟨b, off, rfl, hb, hcap, ?_, ?_, ?_⟩
  · have := hcs (k * 3 + 0) (by omega)
    rw [filesCells_get l k 0 hk (by omega)] at this
    exact this
  · have := hcs (k * 3 + 1) (by omega)
    rw [filesCells_get l k 1 hk (by omega), ← Nat.add_assoc] at this
    exact this
  · have := hcs (k * 3 + 2) (by omega)
    rw [filesCells_get l k 2 hk (by omega), ← Nat.add_assoc] at this
    exact this
set_option maxRecDepth 100000 in
set_option maxHeartbeats 1000000 in
theorem rof_calls {n : Nat} {X : List Nat} (room : Int) (a : Option Addr) (c : Nat) (L : List (ByteArray × F)) (hreach : L.length ≤ 1000000) (w : World) (hn : n ≤ w.heap.size) (hX : ∀ b ∈ X, b < w.heap.size) (rd : Rd w n 3 (.slice a L.length c) L.length (filesCells L)) :
    Calls Try.prog 43 #[.int .i64 room, .slice a L.length c] w fun e w' => ∃ R, e = .returned (.pointer (some ⟨R, 0, none⟩)) ∧ ∃ v, RefAt n X w' R v (rofDS room L) ∧ Kp n X w w' := by
  go_enter Try.func43, Try.ntmps43
  go_wp2_with fail
  refine (rnew_calls (n := n) (X := X) room w hn hX).mono ?_
  rintro e w1 ⟨R, rfl, h1, hR, hB1⟩
  have hK1 : Kp n X w w1 := Kp.of_below hB1 hn (Nat.le_refl _)
  go_wp2_with fail
  go_loopw [6] (fun i wr => ∃ k : Nat, k ≤ L.length ∧ i = .int .i64 k ∧ (∃ v, RefAt n X wr R v { newDS room with l := (L.take k).foldl rofStep [] }) ∧ Kp n X w wr ∧ w.heap.size ≤ wr.heap.size) (fun i _ => L.length - (intOf i).toNat)
  case atStart => exact ⟨0, Nat.zero_le _, rfl, ⟨_, h1⟩, hK1, hB1.size⟩
  case round =>
    obtain ⟨k, hk, rfl, ⟨v, h2⟩, hK, hsz⟩ := hrel
    by_cases hlt : k < L.length
    · obtain ⟨b, off, rfl, hb, hcap, d0, d1, d2⟩ := file_cells' (rd.below hK.below (Nat.le_refl _)) k hlt
      have hlen := rof_len (L.take k)
      have hft := rof_take L k hlt
      have HF := Lib.hid hft
      clear hft
      generalize L[k] = x at *
      generalize (L.take k).foldl rofStep [] = T at *
      have hc1 : wr.cell? ⟨R, 1, none⟩ = some v := h2.blk.cell 1
      have hown := h2.own
      obtain ⟨a2, c2, rfl⟩ := Rd.val (Rd.of_owns h2.own)
      have hat := rat_calls (s := { newDS room with l := T }) (by simp only; omega) x.1 wr h2
      by_cases h0 : atI T x.1 < 0
      · by_cases h3 : T.length < 1000
        · have hst : rofStep T x = insL (x.1, ⟨x.2.b, max 0 (min x.2.k x.2.b.size)⟩) T := by unfold rofStep; rw [if_pos ⟨h0, h3⟩]
          rw [hst] at HF
          clear hst hown
          go_wp2_with fail
          refine hat.mono ?_
          clear hat
          rintro e w3 ⟨rfl, rfl⟩
          have hBa : Below w3.heap.size w3 (w3.alloc (.cells #[.string x.1, .string x.2.b, .int .i64 (max 0 (min x.2.k x.2.b.size))] 65)) := (Below.refl _ w3).alloc (Nat.le_refl _) _
          have hn3 : n ≤ w3.heap.size := Nat.le_trans hn hsz
          have hX3 : ∀ b ∈ X, b < (w3.alloc (.cells #[.string x.1, .string x.2.b, .int .i64 (max 0 (min x.2.k x.2.b.size))] 65)).heap.size := fun b hb => by have := hX b hb; have := hBa.size; omega
          have hadd := radd_calls (s := { newDS room with l := T }) (by simp only; omega) (x.1, ⟨x.2.b, max 0 (min x.2.k x.2.b.size)⟩) _ (Nat.le_trans hn3 hBa.size) hX3 (h2.next hBa)
          go_wp2_with fail
          refine hadd.mono ?_
          clear hadd
          rintro e w4 ⟨⟨u, rfl⟩, v4, h4, hK4⟩
          have hK5 := (hK.trans (Kp.of_below (X := X) hBa hn3 (Nat.le_refl _))).trans hK4
          have hsz5 : w.heap.size ≤ w4.heap.size := Nat.le_trans hsz (Nat.le_trans hBa.size hK4.below.size)
          clear h2 hc1 d0 d1 d2 hK hK4 hsz hX3
          go_wp2
          go_roundw
          case rel => exact ⟨k + 1, by omega, by simp, by rw [HF.out]; exact ⟨_, h4⟩, hK5, hsz5⟩
          case measure => simp [intOf]; omega
        · have hst : rofStep T x = T := by unfold rofStep; rw [if_neg (fun e => h3 e.2)]
          rw [hst] at HF
          clear hst hown
          go_wp2_with fail
          refine hat.mono ?_
          clear hat
          rintro e w3 ⟨rfl, rfl⟩
          go_wp2
          go_roundw
          case rel => exact ⟨k + 1, by omega, by simp, by rw [HF.out]; exact ⟨_, h2⟩, hK, hsz⟩
          case measure => simp [intOf]; omega
      · have hst : rofStep T x = T := by unfold rofStep; rw [if_neg (fun e => h0 e.1)]
        rw [hst] at HF
        clear hst hown
        go_wp2_with fail
        refine hat.mono ?_
        clear hat
        rintro e w3 ⟨rfl, rfl⟩
        go_wp2
        go_roundw
        case rel => exact ⟨k + 1, by omega, by simp, by rw [HF.out]; exact ⟨_, h2⟩, hK, hsz⟩
        case measure => simp [intOf]; omega
    · obtain rfl : k = L.length := by omega
      rw [List.take_length] at h2
      go_wp2
      go_ret
      exact ⟨R, rfl, ⟨v, h2⟩, hK⟩
end Go.Proofs.Ytoaegleieacokaa
