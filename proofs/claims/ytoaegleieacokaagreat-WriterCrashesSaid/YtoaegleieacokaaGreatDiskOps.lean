/- disk.New, on, counted, step, Read, Limit, Steps. -/
import Derived.Test.YtoaegleieacokaaGreatDiskBaseM
import Derived.Test.YtoaegleieacokaaGreatProg
import Derived.StillTailTactics
import Derived.Deep.QuietTactic
import Derived.BigQuiet
namespace Go.Proofs.YtoaegleieacokaaGreat
open Go.RowKit Go.Shelf

def newDS (room : Int) : DS := ⟨min (max room 0) 1000000, [], 0, -1⟩
set_option maxRecDepth 100000 in
set_option maxHeartbeats 1000000 in
theorem new_calls (room : Int) (w : World) :
    Calls Tryz.prog 7 #[.int .i64 room] w fun e w' => ∃ D, e = .returned (.pointer (some ⟨D, 0, none⟩)) ∧ ∃ M, DiskAt w' D M (newDS room) ∧ w.heap.size ≤ D ∧ w.heap.size ≤ M ∧ Below w.heap.size w w' := by
  go_enter Tryz.func7, Tryz.ntmps7
  have hmm := fun w => @run_makeMap Tryz.prog 64 w
  go_wp2
  all_goals
    go_ret
    refine ⟨w.heap.size + 1, rfl, w.heap.size, ⟨?_, (RawMap.new w Value.string).alloc _, by omega⟩, by omega, by omega, ((Below.refl _ w).alloc (Nat.le_refl _) _).alloc (by simp) _⟩
    have e1 := Blk.new (w.alloc (.map #[] 0)) 66 #[.int .i64 (newDS room).room, .map (some w.heap.size), .int .i64 0, .int .i64 (-1)]
    rw [World.size_alloc] at e1
    have e2 : (newDS room).room = min (max room 0) 1000000 := rfl
    rw [e2] at e1
  · rw [show min (max room 0) (1000000 : Int) = 0 from by omega] at e1
    unfold newDS
    rw [show min (max room 0) (1000000 : Int) = 0 from by omega]
    exact e1
  · rw [show min (max room 0) (1000000 : Int) = 1000000 from by omega] at e1
    unfold newDS
    rw [show min (max room 0) (1000000 : Int) = 1000000 from by omega]
    exact e1
  · rw [show min (max room 0) (1000000 : Int) = room from by omega] at e1
    unfold newDS
    rw [show min (max room 0) (1000000 : Int) = room from by omega]
    exact e1

def onOf (s : DS) (name : ByteArray) (there : Bool) : Int :=
  if s.left = 0 then 18 else if there && !(fk s.l name).isSome then 19 else if !there && (fk s.l name).isSome then 20 else 0
theorem zero_file (w : World) : (zeroValue 89).run Tryz.prog w = .ok (.agg #[.string ⟨#[]⟩, .int .i64 0]) w := by
  go_simp
theorem field_b (b : ByteArray) (k : Int) (w : World) : (Instr.field 89 (.agg #[.string b, .int .i64 k]) 0).run Tryz.prog w = .ok (.string b) w := by kernel_rfl
theorem field_k (b : ByteArray) (k : Int) (w : World) : (Instr.field 89 (.agg #[.string b, .int .i64 k]) 1).run Tryz.prog w = .ok (.int .i64 k) w := by kernel_rfl
set_option maxRecDepth 100000 in
set_option maxHeartbeats 1000000 in
theorem on_calls (D M : Nat) (s : DS) (name : ByteArray) (there : Bool) (w : World) (h : DiskAt w D M s) :
    Calls Tryz.prog 44 #[.pointer (some ⟨D, 0, none⟩), .string name, .bool there] w fun e w' => e = .returned (.int .i64 (onOf s name there)) ∧ Below w.heap.size w w' := by
  have d1 : w.cell? ⟨D, 1, none⟩ = some (.map (some M)) := h.blk.cell 1
  have d3 : w.cell? ⟨D, 3, none⟩ = some (.int .i64 s.left) := h.blk.cell 3
  have hm := h.map
  have hD := h.blk.lt
  replace d3 : ∀ o, (w.alloc o).cell? ⟨D, 3, none⟩ = some (.int .i64 s.left) := fun o => (World.cell?_alloc_lt w o ⟨D, 3, none⟩ hD).trans d3
  have hl := lk_enm F.val s.l name
  unfold onOf
  cases hf : fk s.l name with
  | none =>
    rw [hf] at hl
    replace hl : lk (enm F.val s.l) name = none := hl
    clear hf h
    go_enter Tryz.func44, Tryz.ntmps44
    by_cases h0 : s.left = 0
    · rw [h0] at d3
      rw [if_pos h0]
      cases there
      all_goals
        go_wp2_with (at_lookup; refine wpList_lookup_raw rfl _ _ true rfl (keyOk_string Tryz.underlying9) Tryz.underlying64 _ zero_file rfl hm name rfl ?_)
        go_ret
        exact ⟨rfl, (Below.refl _ w).alloc (Nat.le_refl _) _⟩
    · rw [if_neg h0]
      cases there
      all_goals
        go_wp2_with (at_lookup; refine wpList_lookup_raw rfl _ _ true rfl (keyOk_string Tryz.underlying9) Tryz.underlying64 _ zero_file rfl hm name rfl ?_)
        go_ret
        exact ⟨rfl, (Below.refl _ w).alloc (Nat.le_refl _) _⟩
  | some x =>
    rw [hf] at hl
    replace hl : lk (enm F.val s.l) name = some (.agg #[.string x.b, .int .i64 x.k]) := hl
    clear hf h
    go_enter Tryz.func44, Tryz.ntmps44
    by_cases h0 : s.left = 0
    · rw [h0] at d3
      rw [if_pos h0]
      cases there
      all_goals
        go_wp2_with (at_lookup; refine wpList_lookup_raw rfl _ _ true rfl (keyOk_string Tryz.underlying9) Tryz.underlying64 _ zero_file rfl hm name rfl ?_)
        go_ret
        exact ⟨rfl, (Below.refl _ w).alloc (Nat.le_refl _) _⟩
    · rw [if_neg h0]
      cases there
      all_goals
        go_wp2_with (at_lookup; refine wpList_lookup_raw rfl _ _ true rfl (keyOk_string Tryz.underlying9) Tryz.underlying64 _ zero_file rfl hm name rfl ?_)
        go_ret
        exact ⟨rfl, (Below.refl _ w).alloc (Nat.le_refl _) _⟩

/-- What a step leaves: one step more, one fewer to come. -/
def DS.counted (s : DS) : DS := { s with steps := s.steps + 1, left := if 0 < s.left then s.left - 1 else s.left }
set_option maxRecDepth 100000 in
set_option maxHeartbeats 1000000 in
theorem counted_calls (D M : Nat) (s : DS) (w : World) (h : DiskAt w D M s) (hs : 0 ≤ s.steps ∧ s.steps < 4611686018427387904) (hl : s.left ≤ 9223372036854775807) :
    Calls Tryz.prog 68 #[.pointer (some ⟨D, 0, none⟩)] w fun e w' => e = .returned (.int .i64 0) ∧ DiskAt w' D M s.counted ∧ Chg [D] w w' := by
  have d2 : w.cell? ⟨D, 2, none⟩ = some (.int .i64 s.steps) := h.blk.cell 2
  have d3 : w.cell? ⟨D, 3, none⟩ = some (.int .i64 s.left) := h.blk.cell 3
  have f2 := h.blk.frozen 2
  have f3 := h.blk.frozen 3
  obtain ⟨h1, h2⟩ := hs
  go_enter Tryz.func68, Tryz.ntmps68
  by_cases h0 : 0 < s.left
  · go_wp2
    go_ret
    have hb := (h.blk.set 2 (.int .i64 (s.steps + 1))).set 3 (.int .i64 (s.left - 1))
    exact ⟨rfl, ⟨by unfold DS.counted; rw [if_pos h0]; exact hb, (h.map.setCell _ _).setCell _ _, h.ne⟩, (Chg.setCell (p := ⟨D, 2, none⟩) (by simp) _).trans (Chg.setCell (p := ⟨D, 3, none⟩) (by simp) _)⟩
  · go_wp2
    go_ret
    have hb := h.blk.set 2 (.int .i64 (s.steps + 1))
    exact ⟨rfl, ⟨by unfold DS.counted; rw [if_neg (by omega)]; exact hb, h.map.setCell _ _, h.ne⟩, Chg.setCell (p := ⟨D, 2, none⟩) (by simp) _⟩

def DS.step (s : DS) (name : ByteArray) (f : F) : DS := { s with l := fup s.l name f }.counted
set_option maxRecDepth 100000 in
set_option maxHeartbeats 1000000 in
theorem step_calls (D M : Nat) (s : DS) (name : ByteArray) (f : F) (w : World) (h : DiskAt w D M s) (hs : 0 ≤ s.steps ∧ s.steps < 4611686018427387904) (hl : s.left ≤ 9223372036854775807) :
    Calls Tryz.prog 65 #[.pointer (some ⟨D, 0, none⟩), .string name, .agg #[.string f.b, .int .i64 f.k]] w fun e w' => e = .returned (.int .i64 0) ∧ DiskAt w' D M (s.step name f) ∧ Chg [D, M] w w' := by
  have d1 : w.cell? ⟨D, 1, none⟩ = some (.map (some M)) := h.blk.cell 1
  have hm := h.map
  go_enter Tryz.func65, Tryz.ntmps65
  have hB0 : Below w.heap.size w (w.alloc (.cells #[.string f.b, .int .i64 f.k] 89)) := (Below.refl _ w).alloc (Nat.le_refl _) _
  have h0 := h.now hB0
  have dn := Blk.new w 89 #[.string f.b, .int .i64 f.k]
  go_wp2
  generalize w.alloc (.cells #[.string f.b, .int .i64 f.k] 89) = w0 at *
  have d1 : w0.drew.cell? ⟨D, 1, none⟩ = some (.map (some M)) := h0.blk.cell 1
  have n0 : w0.drew.cell? ⟨w.heap.size, 0, none⟩ = some (.string f.b) := dn.cell 0
  have n1 : w0.drew.cell? ⟨w.heap.size, 1, none⟩ = some (.int .i64 f.k) := dn.cell 1
  have hd : DiskAt w0.drew D M s := h0.same rfl rfl
  have hB : Below w.heap.size w w0.drew := ⟨hB0.os, hB0.tape, hB0.output, hB0.size, hB0.block⟩
  refine wp_region_still_tail 6 (by kernel_rfl) (by kernel_rfl) ?_
  clear hB0 h0 dn
  change wpStill Tryz.prog _ w0.drew (fun a' => wpList Tryz.prog _ _ _ a' w0.drew) _ _
  generalize w0.drew = w1 at *
  simp only [List.take_succ_cons, List.take_zero, List.drop_succ_cons, List.drop_zero]
  repeat still_step
  refine wpStill_nil ?_
  clear d1 n0 n1
  have hm := hd.map
  go_wp2_with (at_mapUpdate; refine wpList_mapUpdate_raw rfl _ _ _ rfl (keyOk_string Tryz.underlying9) Tryz.underlying64 rfl hm name (.agg #[.string f.b, .int .i64 f.k]) rfl rfl ?_; intro w2 hm1 hg1)
  have h1 : DiskAt w2 D M { s with l := fup s.l name f } := ⟨hd.blk.kept hg1 (fun e => h.ne (by simpa using e)), by rw [show Value.agg #[.string f.b, .int .i64 f.k] = F.val f from rfl, up_enm] at hm1; exact hm1, h.ne⟩
  have hC : Chg [D, M] w w2 := (Chg.of_below hB).trans (Chg.grown hg1 (fun r e => by cases e; simp))
  clear hm hm1 hg1 hd hB
  refine (counted_calls D M _ w2 h1 hs hl).mono ?_
  rintro e w3 ⟨rfl, h2, hC2⟩
  go_wp2
  go_ret
  exact ⟨rfl, h2, hC.trans (hC2.more (by simp))⟩
set_option maxRecDepth 100000 in
set_option maxHeartbeats 1000000 in
theorem limit_calls (D M : Nat) (s : DS) (n : Int) (w : World) (h : DiskAt w D M s) :
    Calls Tryz.prog 20 #[.pointer (some ⟨D, 0, none⟩), .int .i64 n] w fun e w' => (∃ v, e = .returned v) ∧ DiskAt w' D M { s with left := max n 0 } ∧ Chg [D] w w' := by
  have d3 : w.cell? ⟨D, 3, none⟩ = some (.int .i64 s.left) := h.blk.cell 3
  have f3 := h.blk.frozen 3
  go_enter Tryz.func20, Tryz.ntmps20
  have hd : ∀ v, max n 0 = v → DiskAt (w.setCell ⟨D, 3, none⟩ (.int .i64 v)) D M { s with left := max n 0 } := by
    intro v e
    rw [e]
    exact ⟨h.blk.set 3 (.int .i64 v), h.map.setCell _ _, h.ne⟩
  rcases Int.lt_or_le 0 n with h0 | h0
  all_goals
    go_wp2
    all_goals
      go_end0
      exact ⟨⟨_, rfl⟩, hd _ (by omega), Chg.setCell (p := ⟨D, 3, none⟩) (by simp) _⟩
/-- What Read tells. -/
def readOf (s : DS) (name : ByteArray) : ByteArray × Int := if onOf s name true ≠ 0 then (⟨#[]⟩, onOf s name true) else (((fk s.l name).map F.b).getD ⟨#[]⟩, 0)
set_option maxRecDepth 100000 in
set_option maxHeartbeats 1000000 in
theorem dread_calls (D M : Nat) (s : DS) (name : ByteArray) (w : World) (h : DiskAt w D M s) :
    Calls Tryz.prog 22 #[.pointer (some ⟨D, 0, none⟩), .string name] w fun e w' => e = .returned (.tuple #[.string (readOf s name).1, .int .i64 (readOf s name).2]) ∧ Below w.heap.size w w' := by
  have hfd := field_b
  have hR : readOf s name = if onOf s name true ≠ 0 then (⟨#[]⟩, onOf s name true) else (((fk s.l name).map F.b).getD ⟨#[]⟩, 0) := rfl
  go_enter Tryz.func22, Tryz.ntmps22
  go_wp2_with fail
  refine (on_calls D M s name true w h).mono ?_
  rintro e w1 ⟨rfl, hB1⟩
  replace h := h.now hB1
  have d1 : w1.cell? ⟨D, 1, none⟩ = some (.map (some M)) := h.blk.cell 1
  have hm := h.map
  have hl := lk_enm F.val s.l name
  by_cases h0 : onOf s name true ≠ 0
  · rw [if_pos h0] at hR
    have HR := Lib.hid hR
    clear hR h hm
    go_wp2
    go_ret2
    exact ⟨by rw [HR.out]; rfl, hB1⟩
  · rw [if_neg h0] at hR
    have h0' : onOf s name true = 0 := by omega
    have HR := Lib.hid hR
    rw [h0']
    cases hf : fk s.l name with
    | none =>
      rw [hf] at HR
      rw [hf] at hl
      replace hl : lk (enm F.val s.l) name = none := hl
      clear hf h h0 h0' hR
      go_wp2_with (at_lookup; refine wpList_lookup_raw rfl _ _ false rfl (keyOk_string Tryz.underlying9) Tryz.underlying64 _ zero_file rfl hm name rfl ?_)
      go_ret2
      exact ⟨by rw [HR.out]; rfl, hB1⟩
    | some x =>
      rw [hf] at HR
      rw [hf] at hl
      replace hl : lk (enm F.val s.l) name = some (.agg #[.string x.b, .int .i64 x.k]) := hl
      clear hf h h0 h0' hR
      go_wp2_with (at_lookup; refine wpList_lookup_raw rfl _ _ false rfl (keyOk_string Tryz.underlying9) Tryz.underlying64 _ zero_file rfl hm name rfl ?_)
      go_ret2
      exact ⟨by rw [HR.out]; rfl, hB1⟩
end Go.Proofs.YtoaegleieacokaaGreat
