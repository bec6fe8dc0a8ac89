/- LiveAll: the plain law and the walk. -/
import Derived.Test.YtnbnkmpmkpillaaKnown15
import Derived.Test.YtnbnkmpmkpillaaRefRec
namespace Go.Proofs.Ytnbnkmpmkpillaa
open Go.RowKit Go.Shelf

/-! ### The plain law -/
def segsOf (l : List Spot) : List Int := nub (l.map Spot.s)
theorem nub_nodup' {α : Type} [DecidableEq α] : ∀ (l acc : List α), acc.Nodup → (l.foldl (fun acc x => if x ∈ acc then acc else acc ++ [x]) acc).Nodup
  | [], acc, h => by simpa using h
  | x :: l, acc, h => by
    rw [List.foldl_cons]
    apply nub_nodup' l
    split
    · exact h
    · rename_i hx
      rw [List.nodup_append]
      refine ⟨h, by simp, ?_⟩
      intro a ha b hb
      simp at hb
      subst hb
      exact fun e => hx (e ▸ ha)
theorem nub_nodup {α : Type} [DecidableEq α] (l : List α) : (nub l).Nodup := nub_nodup' l [] (by simp)
theorem sum_one {α : Type} [DecidableEq α] (x : α) : ∀ (S : List α), S.Nodup → x ∈ S → (S.map fun s => if x = s then 1 else 0).sum = 1
  | [], _, h => by simp at h
  | y :: S, hn, h => by
    rw [List.nodup_cons] at hn
    rw [List.map_cons, List.sum_cons]
    by_cases hxy : x = y
    · subst hxy
      have h0 : ∀ S : List α, x ∉ S → (S.map fun s => if x = s then 1 else 0).sum = 0 := by
        intro S
        induction S with
        | nil => simp
        | cons z S ih => intro hz; simp at hz; rw [List.map_cons, List.sum_cons, if_neg hz.1, ih hz.2]
      rw [if_pos rfl, h0 S hn.1]
    · rw [if_neg hxy, sum_one x S hn.2 (by simpa [hxy] using h)]
theorem sum_add {α : Type} (f g : α → Nat) : ∀ (S : List α), (S.map fun s => f s + g s).sum = (S.map f).sum + (S.map g).sum
  | [] => rfl
  | x :: S => by simp only [List.map_cons, List.sum_cons, sum_add f g S]; omega
theorem sum_flt (S : List Int) (hS : S.Nodup) : ∀ (l : List Spot), (∀ x ∈ l, x.s ∈ S) → (S.map fun s => (flt s l).length).sum = l.length
  | [], _ => by
    have : ∀ S : List Int, (S.map fun s => (flt s []).length).sum = 0 := by intro S; induction S <;> simp_all [flt]
    simpa using this S
  | x :: l, h => by
    have h1 : ∀ s, (flt s (x :: l)).length = (if x.s = s then 1 else 0) + (flt s l).length := by
      intro s
      unfold flt
      rw [List.filter_cons]
      by_cases hx : x.s = s
      · simp [hx]; omega
      · simp [hx]
    simp only [h1]
    rw [sum_add, sum_one x.s S hS (h x (by simp)), sum_flt S hS l (fun y hy => h y (by simp [hy]))]
    simp; omega
theorem sum_segs (l : List Spot) : ((segsOf l).map fun s => (flt s l).length).sum = l.length :=
  sum_flt _ (nub_nodup _) l (fun x hx => (mem_nub _ _).2 (List.mem_map.2 ⟨x, hx, rfl⟩))
theorem segs_le (l : List Spot) : (segsOf l).length ≤ l.length := Nat.le_trans (nub_le _) (by simp)
theorem sum_take_le (l : List Spot) (k : Nat) : (((segsOf l).take k).map fun s => (flt s l).length).sum ≤ l.length := by
  have h := sum_segs l
  rw [← List.take_append_drop k (segsOf l), List.map_append, List.sum_append] at h
  omega
theorem sum_take_succ (l : List Spot) (k : Nat) (hk : k < (segsOf l).length) : (((segsOf l).take (k + 1)).map fun s => (flt s l).length).sum = (((segsOf l).take k).map fun s => (flt s l).length).sum + (flt (segsOf l)[k] l).length := by
  rw [List.take_succ_eq_append_getElem hk, List.map_append, List.sum_append]
  simp
theorem recs_pos (l : List Spot) (s : Int) (h : s ∈ segsOf l) : 1 ≤ recs s l := by
  obtain ⟨x, hx, rfl⟩ := List.mem_map.1 ((mem_nub _ _).1 h)
  unfold recs
  have : x.pl ∈ nub ((flt x.s l).map Spot.pl) := (mem_nub _ _).2 (List.mem_map.2 ⟨x, by simp [flt, hx], rfl⟩)
  exact List.length_pos_of_mem this
theorem recs_le (l : List Spot) (s : Int) : recs s l ≤ (flt s l).length := Nat.le_trans (nub_le _) (by simp)
theorem segs_take (l : List Spot) (k : Nat) (hk : k < l.length) : segsOf (l.take (k + 1)) = if l[k].s ∈ segsOf (l.take k) then segsOf (l.take k) else segsOf (l.take k) ++ [l[k].s] := by
  unfold segsOf
  rw [List.take_succ_eq_append_getElem hk, List.map_append, List.map_cons, List.map_nil, nub_snoc]
def memAt (S : List Int) (s : Int) (j : Nat) : Bool := decide (s ∈ S.take j)
theorem memAt_succ (S : List Int) (s : Int) (j : Nat) (hj : j < S.length) : memAt S s (j + 1) = (memAt S s j || (S[j] == s)) := by
  unfold memAt
  rw [List.take_succ_eq_append_getElem hj]
  simp only [List.mem_append, List.mem_singleton]
  rw [Bool.decide_or]
  congr 1
  by_cases h : s = S[j] <;> simp [h]
  exact fun e => h e.symm

/-! ### The walk -/
set_option maxRecDepth 100000 in
set_option maxHeartbeats 8000000 in
theorem walk_LiveAll {W : World} (a0 : Option Addr) (c0 : Nat) (l0 : List Spot) (r0 : Rd W W.heap.size 4 (.slice a0 l0.length c0) l0.length (cellsOf l0)) (_ : c0 ≤ maxLen) (_ : ∀ x ∈ l0, True) :
    Calls Try.prog 4 #[.slice a0 l0.length c0] W fun e w' => e = .returned (.bool true) ∧ Below W.heap.size W w' := by
  obtain ⟨i0, hi, hz0, hz1, hz2⟩ := info_parts infoInt
  have hS : Spots W W.heap.size (.slice a0 l0.length c0) l0 := r0
  clear r0
  by_cases h1 : 40 < l0.length
  · go_enter Try.func4, Try.ntmps4
    go_wp2_with fail
    refine (known15_calls W).mono ?_
    rintro e w1 ⟨rfl, hB1⟩
    go_wp2
    go_ret
    exact ⟨rfl, hB1⟩
  · have h2 : l0.length ≤ 40 := by omega
    clear h1
    have e1 : decide (40 < (l0.length : Int)) = false := by simp; omega
    go_enter Try.func4, Try.ntmps4
    go_wp2_with fail
    refine (known15_calls W).mono ?_
    rintro e w1 ⟨rfl, hB1⟩
    have hS1 := (hS.below hB1 (Nat.le_refl _)).up hB1.size
    clear hS
    go_wp2_with fail
    go_loopw [3, 4] (fun v i wr => ∃ k : Nat, k ≤ l0.length ∧ i = .int .i64 k ∧ wr.ownsRow w1.heap.size 3 1 v (segsOf (l0.take k)).length ((segsOf (l0.take k)).map (Value.int .i64)) ∧ Below w1.heap.size w1 wr)
      (fun _ i _ => l0.length - (intOf i).toNat)
    case atStart => exact ⟨0, Nat.zero_le _, rfl, by simpa [segsOf, nub] using World.ownsRow_nil _ _ _ _, Below.refl _ _⟩
    case round =>
      obtain ⟨k, hk, rfl, hown, hB⟩ := hrel
      by_cases hlt : k < l0.length
      · have Hk := Lib.hid (segs_take l0 k hlt)
        have hle := segs_le (l0.take k)
        have hle2 : (l0.take k).length ≤ k := List.length_take_le _ _
        obtain ⟨b, off, rfl, hb, hcs⟩ := (hS1.below hB (Nat.le_refl _)).cell (by omega)
        obtain ⟨d0, d1, d2, d3⟩ := hcs k hlt
        clear d0 d1 d3 hcs
        generalize l0[k] = x at *
        generalize segsOf (l0.take k) = S at *
        have hR : Ints wr wr.heap.size _ S := Ints.of_owns hown
        obtain ⟨a3, c3, rfl⟩ := Rd.val hR
        obtain ⟨wo, rfl⟩ : ∃ wo : World, wo = wr := ⟨_, rfl⟩
        go_wp2
        go_loopw [5, 6] (fun f j wr => ∃ i : Nat, i ≤ S.length ∧ j = .int .i64 i ∧ f = .bool (memAt S x.s i) ∧ Below wo.heap.size wo wr)
          (fun _ j _ => S.length - (intOf j).toNat)
        case atStart => exact ⟨0, Nat.zero_le _, rfl, by simp [memAt], Below.refl _ _⟩
        case round =>
          obtain ⟨i, hi', rfl, rfl, hB2⟩ := hrel
          have hown2 := owns_below hown hB2
          by_cases hlt2 : i < S.length
          · have Hn := Lib.hid (memAt_succ S x.s i hlt2)
            obtain ⟨b3, o3, rfl, hb3, hc3⟩ := (hR.below hB2 (Nat.le_refl _)).cell (by omega)
            have q3 := hc3 i hlt2
            have q4 := (hB2.cell (p := ⟨b, off + k * 4 + 2, none⟩) (by have := hB.size; simp; omega)).trans d2
            clear hc3 d2
            generalize S[i] = y at *
            cases hf : memAt S x.s i with
            | true =>
              go_wp2
              go_quiet (fail)
              go_wp2
              go_roundw
              case rel => exact ⟨i + 1, by omega, by simp, by rw [Hn.out, hf]; simp, below_drewN hB2 _⟩
              case measure => simp [intOf]; omega
            | false =>
              go_wp2
              go_quiet (fail)
              go_wp2
              go_roundw
              case rel => exact ⟨i + 1, by omega, by simp, by rw [Hn.out, hf]; simp, below_drewN hB2 _⟩
              case measure => simp [intOf]; omega
          · obtain rfl : i = S.length := by omega
            have q4 := (hB2.cell (p := ⟨b, off + k * 4 + 2, none⟩) (by have := hB.size; simp; omega)).trans d2
            have hmem : Hid (memAt S x.s S.length = decide (x.s ∈ S)) := by show _ = _; simp [memAt]
            cases hf : memAt S x.s S.length with
            | true =>
              go_wp2
              go_roundw
              case rel => exact ⟨k + 1, by omega, by simp, by rw [Hk.out, if_pos (by rw [hmem.out] at hf; simpa using hf)]; exact hown2, hB.trans (hB2.mono hB.size)⟩
              case measure => simp [intOf]; omega
            | false =>
              go_wp2_with (at_builtin; refine wpList_append_own _ rfl _ _ 23 rfl w1.heap.size 3 i0 _ 1 8 Try.underlying23 hi hz0 hz1 hz2 rfl (by decide) _ _ _ rfl (hown2.alloc _) ⟨wr.heap.size, 0, none⟩ 1 1 [.int .i64 x.s] rfl rfl (cells_new _ _ _) (by simp [Value.oneCell']) (by unfold maxLen; omega) (by omega) (by have := hB.size; have := hB2.size; simp; omega) ?_; intro v' w5 hown' hgrow _)
              go_roundw
              case rel => exact ⟨k + 1, by omega, by simp, by rw [Hk.out, if_neg (by rw [hmem.out] at hf; simpa using hf)]; simpa using hown', below_append (hB.trans (hB2.mono hB.size)) (Nat.le_trans hB.size hB2.size) hown2 hgrow⟩
              case measure => simp [intOf]; omega
      · obtain rfl : k = l0.length := by omega
        rw [List.take_length] at hown
        have hR : Ints wr wr.heap.size _ (segsOf l0) := Ints.of_owns hown
        obtain ⟨a3, c3, rfl⟩ := Rd.val hR
        have hS2 := (hS1.below hB (Nat.le_refl _)).up hB.size
        have hle := segs_le l0
        have hBW := hB1.trans (hB.mono hB1.size)
        clear hS1 hB hown hB1
        obtain ⟨wo, rfl⟩ : ∃ wo : World, wo = wr := ⟨_, rfl⟩
        go_wp2_with fail
        go_loopw [7, 8] (fun n i wr => ∃ k : Nat, k ≤ (segsOf l0).length ∧ i = .int .i64 k ∧ n = .int .i64 ((((segsOf l0).take k).map fun s => (flt s l0).length).sum : Nat) ∧ Below wo.heap.size wo wr)
          (fun _ i _ => (segsOf l0).length - (intOf i).toNat)
        case atStart => exact ⟨0, Nat.zero_le _, rfl, rfl, Below.refl _ _⟩
        case round =>
          obtain ⟨k, hk, rfl, rfl, hBr⟩ := hrel
          have hst := sum_take_le l0 k
          by_cases hlt : k < (segsOf l0).length
          · have Hss := Lib.hid (sum_take_succ l0 k hlt)
            have hst2 := sum_take_le l0 (k + 1)
            rw [Hss.out] at hst2
            obtain ⟨b3, o3, rfl, hb3, hc3⟩ := (hR.below hBr (Nat.le_refl _)).cell (by omega)
            have q3 := hc3 k hlt
            have hp := recs_pos l0 (segsOf l0)[k] (List.getElem_mem _)
            have hq := recs_le l0 (segsOf l0)[k]
            have hS3 := (hS2.below hBr (Nat.le_refl _)).up hBr.size
            have hb3' := Nat.lt_of_lt_of_le hb3 hBr.size
            clear hc3
            generalize (segsOf l0)[k] = s at *
            generalize (((segsOf l0).take k).map fun s => (flt s l0).length).sum = N at *
            go_wp2_with fail
            refine (In_calls c0 a0 s l0 (by omega) wr hS3).mono ?_
            rintro e w4 ⟨v4, rfl, h4, hB4⟩
            have hT4 := Spots.of_owns h4
            obtain ⟨a4, c4, rfl⟩ := Rd.val hT4
            have hS4 := (hS3.below hB4 (Nat.le_refl _)).up hB4.size
            replace q3 := (hB4.cell (p := ⟨b3, o3 + k, none⟩) hb3').trans q3
            replace hb3' := Nat.lt_of_lt_of_le hb3' hB4.size
            clear h4 hT4 hS3
            go_wp2_with fail
            refine (records_calls c0 a0 s l0 (by omega) w4 hS4).mono ?_
            rintro e w5 ⟨rfl, hB5⟩
            have hS5 := (hS4.below hB5 (Nat.le_refl _)).up hB5.size
            replace q3 := (hB5.cell (p := ⟨b3, o3 + k, none⟩) hb3').trans q3
            replace hb3' := Nat.lt_of_lt_of_le hb3' hB5.size
            clear hS4
            go_wp2_with fail
            refine (count_calls c0 a0 s l0 (by omega) w5 hS5).mono ?_
            rintro e w6 ⟨rfl, hB6⟩
            have hz : (((flt s l0).length : Int) != ((flt s l0).length : Int)) = false := by simp
            have hz2' : decide (((flt s l0).length : Int) < (recs s l0 : Int)) = false := by simp; omega
            have hz3 : decide ((recs s l0 : Int) < 1) = false := by simp; omega
            clear hS5 q3
            go_wp2
            go_roundw
            case rel =>
              have k5 := hB5.trans (hB6.mono hB5.size)
              have k4 := hB4.trans (k5.mono hB4.size)
              exact ⟨k + 1, by omega, by simp, by rw [Hss.out]; simp, hBr.trans (k4.mono hBr.size)⟩
            case measure => simp [intOf]; omega
          · obtain rfl : k = (segsOf l0).length := by omega
            have hfin : (((segsOf l0).take (segsOf l0).length).map fun s => (flt s l0).length).sum = l0.length := by rw [List.take_length]; exact sum_segs l0
            rw [hfin]
            clear hfin hst
            go_wp2
            go_ret
            exact ⟨by simp, hBW.trans (hBr.mono hBW.size)⟩
end Go.Proofs.Ytnbnkmpmkpillaa
