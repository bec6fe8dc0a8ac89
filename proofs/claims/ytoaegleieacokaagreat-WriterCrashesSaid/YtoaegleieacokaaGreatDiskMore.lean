/- Create, Append, Sync, Rename, Remove, Cut. -/
import Derived.Test.YtoaegleieacokaaGreatDiskUsed
import Derived.Deep.RegionHeld3
namespace Go.Proofs.YtoaegleieacokaaGreat
open Go.RowKit Go.Shelf

/-- What the contracts ask of a state: nothing runs over. -/
structure DS.Ok (s : DS) : Prop where
  steps0 : 0 ≤ s.steps
  steps : s.steps < 4611686018427387904
  left : s.left ≤ 9223372036854775807
  room0 : 0 ≤ s.room
  room : s.room ≤ 1000000
  used : used s.l ≤ 4611686018427387904

theorem onOf_some {s : DS} {name : ByteArray} (h : onOf s name true = 0) : ∃ x, fk s.l name = some x := by
  unfold onOf at h
  cases hf : fk s.l name with
  | none => rw [hf] at h; by_cases h0 : s.left = 0 <;> simp [h0] at h
  | some x => exact ⟨x, rfl⟩

theorem fk_mem {κ β : Type} [DecidableEq κ] {l : List (κ × β)} {k : κ} {x : β} (h : fk l k = some x) : (k, x) ∈ l := by
  unfold fk at h
  cases hf : l.find? (fun p => p.1 = k) with
  | none => rw [hf] at h; cases h
  | some p =>
    rw [hf] at h
    have h1 := List.find?_some hf
    have h2 := List.mem_of_find?_eq_some hf
    obtain ⟨a, b⟩ := p
    simp at h1 h
    subst h1 h
    exact h2
theorem le_sum : ∀ {l : List Nat} {n : Nat}, n ∈ l → n ≤ l.sum
  | [], _, h => by simp at h
  | a :: l, n, h => by
    rw [List.sum_cons]
    rcases List.mem_cons.1 h with rfl | h
    · omega
    · have := le_sum h; omega
theorem fk_le {l : List (ByteArray × F)} {k : ByteArray} {x : F} (h : fk l k = some x) : x.b.size ≤ used l := le_sum (List.mem_map.2 ⟨(k, x), fk_mem h, rfl⟩)

def DS.create (s : DS) (name : ByteArray) : Int × DS :=
  if onOf s name false ≠ 0 then (onOf s name false, s) else if 1000 ≤ s.l.length then (17, s) else (0, s.step name ⟨⟨#[]⟩, 0⟩)
set_option maxRecDepth 100000 in
set_option maxHeartbeats 1000000 in
theorem create_calls (D M : Nat) (s : DS) (ok : s.Ok) (name : ByteArray) (w : World) (h : DiskAt w D M s) :
    Calls Tryz.prog 50 #[.pointer (some ⟨D, 0, none⟩), .string name] w fun e w' => e = .returned (.int .i64 (s.create name).1) ∧ DiskAt w' D M (s.create name).2 ∧ Chg [D, M] w w' := by
  have hR : s.create name = if onOf s name false ≠ 0 then (onOf s name false, s) else if 1000 ≤ s.l.length then (17, s) else (0, s.step name ⟨⟨#[]⟩, 0⟩) := rfl
  obtain ⟨o1, o2, o3, o4, o5, o6⟩ := ok
  go_enter Tryz.func50, Tryz.ntmps50
  go_wp2_with fail
  refine (on_calls D M s name false w h).mono ?_
  rintro e w1 ⟨rfl, hB1⟩
  replace h := h.now hB1
  have hC1 : Chg [D, M] w w1 := Chg.of_below hB1
  clear hB1
  by_cases h0 : onOf s name false ≠ 0
  · rw [if_pos h0] at hR
    have HR := Lib.hid hR
    clear hR
    go_wp2
    go_ret
    exact ⟨by rw [HR.out]; rfl, by rw [HR.out]; exact h, hC1⟩
  · rw [if_neg h0] at hR
    have h0' : onOf s name false = 0 := by omega
    rw [h0']
    clear h0 h0'
    have d1 : w1.cell? ⟨D, 1, none⟩ = some (.map (some M)) := h.blk.cell 1
    have hm := h.map
    by_cases h2 : 1000 ≤ s.l.length
    · rw [if_pos h2] at hR
      have HR := Lib.hid hR
      have h2' : (1000 : Int) ≤ (s.l.length : Int) := by omega
      clear hR h2
      go_wp2_with (at_len; refine wpList_len_raw rfl _ rfl Tryz.underlying64 rfl hm ?_; rw [enm_length])
      go_ret
      exact ⟨by rw [HR.out]; rfl, by rw [HR.out]; exact h, hC1⟩
    · rw [if_neg h2] at hR
      have HR := Lib.hid hR
      have h2' : (s.l.length : Int) < (1000 : Int) := by omega
      clear hR h2
      go_wp2_with (at_len; refine wpList_len_raw rfl _ rfl Tryz.underlying64 rfl hm ?_; rw [enm_length])
      refine (step_calls D M s name ⟨⟨#[]⟩, 0⟩ w1 h ⟨o1, o2⟩ o3).mono ?_
      rintro e w2 ⟨rfl, h3, hC3⟩
      go_wp2
      go_ret
      exact ⟨by rw [HR.out]; rfl, by rw [HR.out]; exact h3, hC1.trans hC3⟩

def DS.append (s : DS) (name b : ByteArray) : Int × DS :=
  if onOf s name true ≠ 0 then (onOf s name true, s) else if s.room - (used s.l : Int) < (b.size : Int) then (17, s) else
    (0, s.step name ⟨((fk s.l name).getD ⟨⟨#[]⟩, 0⟩).b ++ b, ((fk s.l name).getD ⟨⟨#[]⟩, 0⟩).k⟩)
set_option maxRecDepth 100000 in
set_option maxHeartbeats 1000000 in
theorem append_calls (D M : Nat) (s : DS) (ok : s.Ok) (name b : ByteArray) (w : World) (h : DiskAt w D M s) :
    Calls Tryz.prog 34 #[.pointer (some ⟨D, 0, none⟩), .string name, .string b] w fun e w' => e = .returned (.int .i64 (s.append name b).1) ∧ DiskAt w' D M (s.append name b).2 ∧ Chg [D, M] w w' := by
  have hR : s.append name b = if onOf s name true ≠ 0 then (onOf s name true, s) else if s.room - (used s.l : Int) < (b.size : Int) then (17, s) else
    (0, s.step name ⟨((fk s.l name).getD ⟨⟨#[]⟩, 0⟩).b ++ b, ((fk s.l name).getD ⟨⟨#[]⟩, 0⟩).k⟩) := rfl
  obtain ⟨o1, o2, o3, o4, o5, o6⟩ := ok
  go_enter Tryz.func34, Tryz.ntmps34
  go_wp2_with fail
  refine (on_calls D M s name true w h).mono ?_
  rintro e w1 ⟨rfl, hB1⟩
  replace h := h.now hB1
  have hC1 : Chg [D, M] w w1 := Chg.of_below hB1
  clear hB1
  by_cases h0 : onOf s name true ≠ 0
  · rw [if_pos h0] at hR
    have HR := Lib.hid hR
    clear hR
    go_wp2
    go_ret
    exact ⟨by rw [HR.out]; rfl, by rw [HR.out]; exact h, hC1⟩
  · rw [if_neg h0] at hR
    have h0' : onOf s name true = 0 := by omega
    obtain ⟨x, hx⟩ := onOf_some h0'
    have hl := lk_enm F.val s.l name
    rw [hx] at hR hl
    replace hl : lk (enm F.val s.l) name = some (.agg #[.string x.b, .int .i64 x.k]) := hl
    have hsz := Nat.le_trans (fk_le hx) o6
    rw [h0']
    clear h0 h0' hx
    have d0 : w1.cell? ⟨D, 0, none⟩ = some (.int .i64 s.room) := h.blk.cell 0
    have d1 : w1.cell? ⟨D, 1, none⟩ = some (.map (some M)) := h.blk.cell 1
    have hm := h.map
    go_wp2_with fail
    have hb := h.blk.lt
    have hd : DiskAt w1.drew D M s := h.same rfl rfl
    have hwr : IntKind.i64.wrap (s.room - (used s.l : Int)) = s.room - (used s.l : Int) := by rw [IntKind.wrap_i64]; omega
    by_cases h2 : s.room - (used s.l : Int) < (b.size : Int)
    · rw [if_pos h2] at hR
      have HR := Lib.hid hR
      clear hR
      go_region_held3 (fun w' => w'.cell? ⟨D, 0, none⟩ = some (.int .i64 s.room) ∧ Bx (Below w1.heap.size w1 w'))
        (first | exact ⟨d0, ⟨(Below.refl _ w1).drew⟩⟩ | exact ⟨kept_cell (w := w1.drew) hB5 ⟨(Below.refl _ w1).drew⟩ (Nat.le_refl _) hb d0, kept_below (w := w1.drew) hB5 ⟨(Below.refl _ w1).drew⟩ (Nat.le_refl _)⟩ | go_keep)
        (first | (go_at_call 64; refine (used_calls D M s o6 _ hd).mono ?_; rintro e w5 ⟨rfl, hB5⟩))
      have hB6 := (kept_below (w := w1.drew) hB5 ⟨(Below.refl _ w1).drew⟩ (Nat.le_refl _)).h
      replace hC1 := hC1.trans (Chg.of_below hB6)
      replace h := h.now hB6
      clear hB6 hB5 d0 d1 hm hd hb hwr
      go_wp2
      go_ret
      exact ⟨by rw [HR.out]; rfl, by rw [HR.out]; exact h, hC1⟩
    · rw [if_neg h2] at hR
      have HR := Lib.hid hR
      have hsb : b.size ≤ 1000000 := by omega
      have h2' : decide (s.room - (used s.l : Int) < (b.size : Int)) = false := decide_eq_false h2
      clear hR
      go_region_held3 (fun w' => w'.cell? ⟨D, 0, none⟩ = some (.int .i64 s.room) ∧ Bx (Below w1.heap.size w1 w'))
        (first | exact ⟨d0, ⟨(Below.refl _ w1).drew⟩⟩ | exact ⟨kept_cell (w := w1.drew) hB5 ⟨(Below.refl _ w1).drew⟩ (Nat.le_refl _) hb d0, kept_below (w := w1.drew) hB5 ⟨(Below.refl _ w1).drew⟩ (Nat.le_refl _)⟩ | go_keep)
        (first | (go_at_call 64; refine (used_calls D M s o6 _ hd).mono ?_; rintro e w5 ⟨rfl, hB5⟩))
      have hB6 := (kept_below (w := w1.drew) hB5 ⟨(Below.refl _ w1).drew⟩ (Nat.le_refl _)).h
      replace hC1 := hC1.trans (Chg.of_below hB6)
      replace h := h.now hB6
      clear hB6 hB5 d0 d1 hm hd hb hwr
      have d1 : w5.cell? ⟨D, 1, none⟩ = some (.map (some M)) := h.blk.cell 1
      have hm := h.map
      have fb := field_b
      have fkk := field_k
      go_wp2_with (at_lookup; refine wpList_lookup_raw rfl _ _ false rfl (keyOk_string Tryz.underlying9) Tryz.underlying64 _ zero_file rfl hm name rfl ?_)
      have hB6 : Below w5.heap.size w5 (w5.alloc (.cells #[.string (x.b ++ b), .int .i64 x.k] 89)) := (Below.refl _ _).alloc (Nat.le_refl _) _
      replace hC1 := hC1.trans (Chg.of_below hB6)
      replace h := h.now hB6
      refine (step_calls D M s name ⟨x.b ++ b, x.k⟩ _ h ⟨o1, o2⟩ o3).mono ?_
      rintro e w7 ⟨rfl, h3, hC3⟩
      go_wp2
      go_ret
      exact ⟨by rw [HR.out]; rfl, by rw [HR.out]; exact h3, hC1.trans hC3⟩


def DS.sync (s : DS) (name : ByteArray) : Int × DS := if onOf s name true ≠ 0 then (onOf s name true, s) else (0, s.step name ⟨((fk s.l name).getD ⟨⟨#[]⟩, 0⟩).b, ((fk s.l name).getD ⟨⟨#[]⟩, 0⟩).b.size⟩)
set_option maxRecDepth 100000 in
set_option maxHeartbeats 1000000 in
theorem sync_calls (D M : Nat) (s : DS) (ok : s.Ok) (name : ByteArray) (w : World) (h : DiskAt w D M s) :
    Calls Tryz.prog 37 #[.pointer (some ⟨D, 0, none⟩), .string name] w fun e w' => e = .returned (.int .i64 (s.sync name).1) ∧ DiskAt w' D M (s.sync name).2 ∧ Chg [D, M] w w' := by
  have hR : s.sync name = if onOf s name true ≠ 0 then (onOf s name true, s) else (0, s.step name ⟨((fk s.l name).getD ⟨⟨#[]⟩, 0⟩).b, ((fk s.l name).getD ⟨⟨#[]⟩, 0⟩).b.size⟩) := rfl
  obtain ⟨o1, o2, o3, o4, o5, o6⟩ := ok
  go_enter Tryz.func37, Tryz.ntmps37
  go_wp2_with fail
  refine (on_calls D M s name true w h).mono ?_
  rintro e w1 ⟨rfl, hB1⟩
  replace h := h.now hB1
  have hC1 : Chg [D, M] w w1 := Chg.of_below hB1
  clear hB1
  by_cases h0 : onOf s name true ≠ 0
  · rw [if_pos h0] at hR
    have HR := Lib.hid hR
    clear hR
    go_wp2
    go_ret
    exact ⟨by rw [HR.out]; rfl, by rw [HR.out]; exact h, hC1⟩
  · rw [if_neg h0] at hR
    have h0' : onOf s name true = 0 := by omega
    obtain ⟨x, hx⟩ := onOf_some h0'
    have hl := lk_enm F.val s.l name
    rw [hx] at hR hl
    replace hl : lk (enm F.val s.l) name = some (.agg #[.string x.b, .int .i64 x.k]) := hl
    have hsz := Nat.le_trans (fk_le hx) o6
    have HR := Lib.hid hR
    rw [h0']
    clear h0 h0' hx hR
    have d1 : w1.cell? ⟨D, 1, none⟩ = some (.map (some M)) := h.blk.cell 1
    have hm := h.map
    have fb := field_b
    have fkk := field_k
    go_wp2_with (at_lookup; refine wpList_lookup_raw rfl _ _ false rfl (keyOk_string Tryz.underlying9) Tryz.underlying64 _ zero_file rfl hm name rfl ?_)
    have hB6 : Below w1.heap.size w1 (w1.alloc (.cells #[.string x.b, .int .i64 (x.b.size : Int)] 89)) := (Below.refl _ _).alloc (Nat.le_refl _) _
    replace hC1 := hC1.trans (Chg.of_below hB6)
    replace h := h.now hB6
    refine (step_calls D M s name ⟨x.b, x.b.size⟩ _ h ⟨o1, o2⟩ o3).mono ?_
    rintro e w7 ⟨rfl, h3, hC3⟩
    go_wp2
    go_ret
    exact ⟨by rw [HR.out]; rfl, by rw [HR.out]; exact h3, hC1.trans hC3⟩

def DS.remove (s : DS) (name : ByteArray) : Int × DS := if onOf s name true ≠ 0 then (onOf s name true, s) else (0, { s with l := fdl s.l name }.counted)
set_option maxRecDepth 100000 in
set_option maxHeartbeats 1000000 in
theorem remove_calls (D M : Nat) (s : DS) (ok : s.Ok) (name : ByteArray) (w : World) (h : DiskAt w D M s) :
    Calls Tryz.prog 39 #[.pointer (some ⟨D, 0, none⟩), .string name] w fun e w' => e = .returned (.int .i64 (s.remove name).1) ∧ DiskAt w' D M (s.remove name).2 ∧ Chg [D, M] w w' := by
  have hR : s.remove name = if onOf s name true ≠ 0 then (onOf s name true, s) else (0, { s with l := fdl s.l name }.counted) := rfl
  obtain ⟨o1, o2, o3, o4, o5, o6⟩ := ok
  go_enter Tryz.func39, Tryz.ntmps39
  go_wp2_with fail
  refine (on_calls D M s name true w h).mono ?_
  rintro e w1 ⟨rfl, hB1⟩
  replace h := h.now hB1
  have hC1 : Chg [D, M] w w1 := Chg.of_below hB1
  clear hB1
  by_cases h0 : onOf s name true ≠ 0
  · rw [if_pos h0] at hR
    have HR := Lib.hid hR
    clear hR
    go_wp2
    go_ret
    exact ⟨by rw [HR.out]; rfl, by rw [HR.out]; exact h, hC1⟩
  · rw [if_neg h0] at hR
    have h0' : onOf s name true = 0 := by omega
    obtain ⟨x, hx⟩ := onOf_some h0'
    have HR := Lib.hid hR
    rw [h0']
    clear h0 h0' hx hR
    have d1 : w1.cell? ⟨D, 1, none⟩ = some (.map (some M)) := h.blk.cell 1
    have hm := h.map
    have fb := field_b
    have fkk := field_k
    go_wp2_with (at_delete; refine wpList_delete_raw rfl _ _ _ rfl (keyOk_string Tryz.underlying9) Tryz.underlying64 rfl hm name rfl ?_; intro w2 hm2 hg2)
    have h1 : DiskAt w2 D M { s with l := fdl s.l name } := ⟨h.blk.kept hg2 (fun e => h.ne (by simpa using e)), by rw [dl_enm] at hm2; exact hm2, h.ne⟩
    replace hC1 := hC1.trans (Chg.grown hg2 (fun r e => by cases e; simp))
    clear hm hm2 hg2 d1
    refine ((counted_calls D M _ w2 h1 ⟨o1, o2⟩ o3).mono ?_)
    rintro e w7 ⟨rfl, h3, hC3⟩
    go_wp2
    go_ret
    exact ⟨by rw [HR.out]; rfl, by rw [HR.out]; exact h3, hC1.trans (hC3.more (by simp))⟩

def DS.rename (s : DS) (name to : ByteArray) : Int × DS := if onOf s name true ≠ 0 then (onOf s name true, s) else (0, { s with l := fdl s.l name }.step to ⟨((fk s.l name).getD ⟨⟨#[]⟩, 0⟩).b, ((fk s.l name).getD ⟨⟨#[]⟩, 0⟩).b.size⟩)
set_option maxRecDepth 100000 in
set_option maxHeartbeats 1000000 in
theorem rename_calls (D M : Nat) (s : DS) (ok : s.Ok) (name to : ByteArray) (w : World) (h : DiskAt w D M s) :
    Calls Tryz.prog 61 #[.pointer (some ⟨D, 0, none⟩), .string name, .string to] w fun e w' => e = .returned (.int .i64 (s.rename name to).1) ∧ DiskAt w' D M (s.rename name to).2 ∧ Chg [D, M] w w' := by
  have hR : s.rename name to = if onOf s name true ≠ 0 then (onOf s name true, s) else (0, { s with l := fdl s.l name }.step to ⟨((fk s.l name).getD ⟨⟨#[]⟩, 0⟩).b, ((fk s.l name).getD ⟨⟨#[]⟩, 0⟩).b.size⟩) := rfl
  obtain ⟨o1, o2, o3, o4, o5, o6⟩ := ok
  go_enter Tryz.func61, Tryz.ntmps61
  go_wp2_with fail
  refine (on_calls D M s name true w h).mono ?_
  rintro e w1 ⟨rfl, hB1⟩
  replace h := h.now hB1
  have hC1 : Chg [D, M] w w1 := Chg.of_below hB1
  clear hB1
  by_cases h0 : onOf s name true ≠ 0
  · rw [if_pos h0] at hR
    have HR := Lib.hid hR
    clear hR
    go_wp2
    go_ret
    exact ⟨by rw [HR.out]; rfl, by rw [HR.out]; exact h, hC1⟩
  · rw [if_neg h0] at hR
    have h0' : onOf s name true = 0 := by omega
    obtain ⟨x, hx⟩ := onOf_some h0'
    have hl := lk_enm F.val s.l name
    rw [hx] at hR hl
    replace hl : lk (enm F.val s.l) name = some (.agg #[.string x.b, .int .i64 x.k]) := hl
    have hsz := Nat.le_trans (fk_le hx) o6
    have HR := Lib.hid hR
    rw [h0']
    clear h0 h0' hx hR
    have d1 : w1.cell? ⟨D, 1, none⟩ = some (.map (some M)) := h.blk.cell 1
    have d1' : ∀ o, (w1.alloc o).cell? ⟨D, 1, none⟩ = some (.map (some M)) := fun o => (World.cell?_alloc_lt w1 o ⟨D, 1, none⟩ h.blk.lt).trans d1
    have hm := h.map
    have hM := h.map.lt
    have dn := Blk.new w1 89 #[.string x.b, .int .i64 (x.b.size : Int)]
    have fb := field_b
    have fkk := field_k
    go_wp2_with (first | (at_lookup; refine wpList_lookup_raw rfl _ _ false rfl (keyOk_string Tryz.underlying9) Tryz.underlying64 _ zero_file rfl hm name rfl ?_) | (at_delete; refine wpList_delete_raw rfl _ _ _ rfl (keyOk_string Tryz.underlying9) Tryz.underlying64 rfl (hm.alloc _) name rfl ?_; intro w2 hm2 hg2; have dn2 := dn.kept hg2 (by simp; omega); have n0 : w2.cell? ⟨w1.heap.size, 0, none⟩ = some (.string x.b) := dn2.cell 0; have n1 : w2.cell? ⟨w1.heap.size, 1, none⟩ = some (.int .i64 (x.b.size : Int)) := dn2.cell 1; clear dn2))
    have hB6 : Below w1.heap.size w1 (w1.alloc (.cells #[.string x.b, .int .i64 (x.b.size : Int)] 89)) := (Below.refl _ _).alloc (Nat.le_refl _) _
    replace hC1 := hC1.trans (Chg.of_below hB6)
    replace h := h.now hB6
    have h1 : DiskAt w2 D M { s with l := fdl s.l name } := ⟨h.blk.kept hg2 (fun e => h.ne (by simpa using e)), by rw [dl_enm] at hm2; exact hm2, h.ne⟩
    replace hC1 := hC1.trans (Chg.grown hg2 (fun r e => by cases e; simp))
    refine (step_calls D M _ to ⟨x.b, x.b.size⟩ w2 h1 ⟨o1, o2⟩ o3).mono ?_
    rintro e w7 ⟨rfl, h3, hC3⟩
    go_wp2
    go_ret
    exact ⟨by rw [HR.out]; rfl, by rw [HR.out]; exact h3, hC1.trans hC3⟩

def cutF (x : F) (n : Int) : F := ⟨x.b.extract 0 (min (max n 0) (x.b.size : Int)).toNat, min (max n 0) (x.b.size : Int)⟩
theorem cutF_eq (x : F) (n : Int) : (n ≤ 0 → cutF x n = ⟨ByteArray.empty, 0⟩) ∧ (0 < n → (x.b.size : Int) ≤ n → cutF x n = ⟨x.b, x.b.size⟩) ∧ (0 < n → n < (x.b.size : Int) → cutF x n = ⟨x.b.extract 0 n.toNat, n⟩) := by
  unfold cutF
  refine ⟨fun h => ?_, fun h h2 => ?_, fun h h2 => ?_⟩
  · rw [show min (max n 0) (x.b.size : Int) = 0 from by omega]
    simp
  · rw [show min (max n 0) (x.b.size : Int) = x.b.size from by omega]
    simp
  · rw [show min (max n 0) (x.b.size : Int) = n from by omega]

def DS.cut (s : DS) (name : ByteArray) (n : Int) : Int × DS := if onOf s name true ≠ 0 then (onOf s name true, s) else (0, s.step name ⟨((fk s.l name).getD ⟨⟨#[]⟩, 0⟩).b.extract 0 (min (max n 0) (((fk s.l name).getD ⟨⟨#[]⟩, 0⟩).b.size : Int)).toNat, min (max n 0) (((fk s.l name).getD ⟨⟨#[]⟩, 0⟩).b.size : Int)⟩)
end Go.Proofs.YtoaegleieacokaaGreat
