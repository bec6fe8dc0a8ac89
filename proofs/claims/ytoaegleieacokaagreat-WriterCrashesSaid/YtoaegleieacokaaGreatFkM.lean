/- Rows of files, by name: what is found. Plain: no program. What made, Save, begins make of a disk, name by name. Plain: no program. -/
import Derived.Test.YtoaegleieacokaaGreatDiskFit
import Derived.Test.YtoaegleieacokaaGreatWrOn
namespace Go.Proofs.YtoaegleieacokaaGreat
open Go.RowKit Go.Shelf

section
variable {κ β : Type} [DecidableEq κ]
theorem fk_nil (k : κ) : fk ([] : List (κ × β)) k = none := rfl
theorem fk_cons (p : κ × β) (l : List (κ × β)) (k : κ) : fk (p :: l) k = if p.1 = k then some p.2 else fk l k := by
  unfold fk
  by_cases h : p.1 = k <;> simp [h]
theorem fk_append (l m : List (κ × β)) (k : κ) : fk (l ++ m) k = (fk l k).or (fk m k) := by
  induction l with
  | nil => rfl
  | cons p l ih =>
    rw [List.cons_append, fk_cons, fk_cons, ih]
    by_cases h : p.1 = k <;> simp [h]
theorem fk_fup (l : List (κ × β)) (k k' : κ) (v : β) : fk (fup l k v) k' = if k = k' then some v else fk l k' := by
  unfold fup
  by_cases hk : k ∈ l.map (·.1)
  · rw [if_pos hk]
    induction l with
    | nil => simp at hk
    | cons p l ih =>
      rw [List.map_cons, fk_cons, fk_cons]
      by_cases hp : p.1 = k
      · subst hp
        by_cases he : p.1 = k'
        · simp [he]
        · simp only [if_true, if_neg he]
          by_cases hk2 : p.1 ∈ l.map (·.1)
          · rw [ih hk2, if_neg he]
          · have : l.map (fun q => if q.1 = p.1 then (p.1, v) else q) = l := by
              conv => rhs; rw [← List.map_id l]
              refine List.map_congr_left fun q hq => ?_
              rw [if_neg (fun e => hk2 (List.mem_map.2 ⟨q, hq, e⟩))]
              rfl
            rw [this]
      · have hk2 : k ∈ l.map (·.1) := by
          rcases List.mem_cons.1 (by simpa using hk : k ∈ p.1 :: l.map (·.1)) with h | h
          · exact absurd h.symm hp
          · exact h
        rw [if_neg hp, ih hk2]
        by_cases he : k = k'
        · subst he
          simp [hp]
        · simp [he]
  · rw [if_neg hk, fk_append]
    have hn := fk_none.2 hk
    rw [fk_cons, fk_nil]
    by_cases he : k = k'
    · subst he
      simp [hn]
    · simp [he]
theorem fk_fdl (l : List (κ × β)) (k k' : κ) : fk (fdl l k) k' = if k = k' then none else fk l k' := by
  unfold fdl
  induction l with
  | nil => simp [fk_nil]
  | cons p l ih =>
    by_cases hp : p.1 = k
    · rw [List.filter_cons_of_neg (by simp [hp]), ih, fk_cons]
      by_cases he : k = k'
      · simp [he]
      · rw [if_neg he, if_neg he, if_neg (by rw [hp]; exact he)]
    · rw [List.filter_cons_of_pos (by simp [hp]), fk_cons, fk_cons, ih]
      by_cases he : k = k'
      · subst he
        simp [hp]
      · simp [he]
theorem fk_map (l : List (κ × β)) (g : κ → β → β) (k : κ) : fk (l.map fun p => (p.1, g p.1 p.2)) k = (fk l k).map (g k) := by
  induction l with
  | nil => rfl
  | cons p l ih =>
    rw [List.map_cons, fk_cons, fk_cons, ih]
    by_cases h : p.1 = k
    · subst h; simp
    · simp [h]
/-- Two lists that tell the same, each key once, have the same entries. -/
theorem perm_of_fk {l m : List (κ × β)} (hl : (l.map (·.1)).Nodup) (hm : (m.map (·.1)).Nodup) (h : ∀ k, fk l k = fk m k) : l.Perm m := by
  have nd : ∀ {x : List (κ × β)}, (x.map (·.1)).Nodup → x.Nodup := fun hx => by
    refine List.Pairwise.of_map (S := fun a b => a ≠ b) (·.1) (fun a b hab e => hab (by rw [e])) hx
  refine (List.perm_ext_iff_of_nodup (nd hl) (nd hm)).2 fun p => ?_
  have go : ∀ {x y : List (κ × β)}, (x.map (·.1)).Nodup → (∀ k, fk x k = fk y k) → p ∈ x → p ∈ y := fun hx hxy hp => by
    have := fk_of_mem (k := p.1) (v := p.2) hx hp
    rw [hxy] at this
    exact fk_mem this
  exact ⟨go hl h, go hm fun k => (h k).symm⟩
end
end Go.Proofs.YtoaegleieacokaaGreat
namespace Go.Proofs.YtoaegleieacokaaGreat
open Go.RowKit Go.Shelf

/-- A disk without a limit. -/
structure Uns (N : Int) (s : DS) : Prop where
  fit : s.Fit N
  left : s.left < 0
/-- s' is s, but for the file nm, which is f. -/
structure Upd (s s' : DS) (nm : ByteArray) (f : F) : Prop where
  room : s'.room = s.room
  fk : ∀ k, Go.Proofs.YtoaegleieacokaaGreat.fk s'.l k = if nm = k then some f else Go.Proofs.YtoaegleieacokaaGreat.fk s.l k
  used : used s'.l + sizeAt s.l nm = Go.Proofs.YtoaegleieacokaaGreat.used s.l + f.b.size
  len : s'.l.length ≤ s.l.length + 1
/-- s' is s, but that there is no file nm. -/
structure Del (s s' : DS) (nm : ByteArray) : Prop where
  room : s'.room = s.room
  fk : ∀ k, Go.Proofs.YtoaegleieacokaaGreat.fk s'.l k = if nm = k then none else Go.Proofs.YtoaegleieacokaaGreat.fk s.l k
  used : used s'.l + sizeAt s.l nm = Go.Proofs.YtoaegleieacokaaGreat.used s.l
  len : s'.l.length ≤ s.l.length
theorem Uns.up {N K : Int} {s : DS} (h : Uns N s) (hk : N ≤ K) : Uns K s := ⟨h.fit.up hk, h.left⟩
theorem left_counted {s : DS} (h : s.left < 0) : s.counted.left < 0 := by
  simp only [DS.counted]
  split <;> omega
theorem upd_step {N : Int} {s : DS} (h : Uns N s) (nm : ByteArray) (f : F) : Upd s (s.step nm f) nm f ∧ (s.step nm f).left < 0 :=
  ⟨⟨rfl, fun _ => fk_fup _ _ _ _, used_fup h.fit.keys, fup_len⟩, left_counted h.left⟩
theorem on_there {N : Int} {s : DS} (h : Uns N s) {nm : ByteArray} {f : F} (hf : fk s.l nm = some f) : onOf s nm true = 0 := by
  unfold onOf
  rw [if_neg (by have := h.left; omega), hf]
  rfl
theorem on_absent {N : Int} {s : DS} (h : Uns N s) {nm : ByteArray} (hf : fk s.l nm = none) : onOf s nm false = 0 ∧ onOf s nm true = 19 := by
  unfold onOf
  have h0 : ¬ s.left = 0 := by have := h.left; omega
  rw [if_neg h0, if_neg h0, hf]
  exact ⟨rfl, rfl⟩
theorem create_u {N : Int} {s : DS} (h : Uns N s) {nm : ByteArray} (hf : fk s.l nm = none) (hl : s.l.length < 1000) : (s.create nm).1 = 0 ∧ Uns (N + 1) (s.create nm).2 ∧ Upd s (s.create nm).2 nm ⟨⟨#[]⟩, 0⟩ := by
  have hfi := fit_create h.fit nm
  obtain ⟨h1, h2⟩ := upd_step h nm ⟨⟨#[]⟩, 0⟩
  have e : s.create nm = (0, s.step nm ⟨⟨#[]⟩, 0⟩) := by
    unfold DS.create
    rw [(on_absent h hf).1, if_neg (by decide), if_neg (by omega)]
  rw [e] at hfi ⊢
  exact ⟨rfl, ⟨hfi, h2⟩, h1⟩
theorem append_u {N : Int} {s : DS} (h : Uns N s) {nm : ByteArray} {f : F} (hf : fk s.l nm = some f) (b : ByteArray) :
    ((s.append nm b).1 = 0 ∧ Uns (N + 1) (s.append nm b).2 ∧ Upd s (s.append nm b).2 nm ⟨f.b ++ b, f.k⟩ ∧ (used s.l : Int) + b.size ≤ s.room) ∨ (s.append nm b = (17, s) ∧ s.room < (used s.l : Int) + b.size) := by
  have hfi := fit_append h.fit nm b
  obtain ⟨h1, h2⟩ := upd_step h nm ⟨f.b ++ b, f.k⟩
  by_cases hr : s.room - (used s.l : Int) < (b.size : Int)
  · refine .inr ⟨?_, by omega⟩
    unfold DS.append
    rw [on_there h hf, if_neg (by decide), if_pos hr]
  · have e : s.append nm b = (0, s.step nm ⟨f.b ++ b, f.k⟩) := by
      unfold DS.append
      rw [on_there h hf, if_neg (by decide), if_neg hr, hf]
      rfl
    rw [e] at hfi ⊢
    exact .inl ⟨rfl, ⟨hfi, h2⟩, h1, by omega⟩
theorem sync_u {N : Int} {s : DS} (h : Uns N s) {nm : ByteArray} {f : F} (hf : fk s.l nm = some f) : (s.sync nm).1 = 0 ∧ Uns (N + 1) (s.sync nm).2 ∧ Upd s (s.sync nm).2 nm ⟨f.b, f.b.size⟩ := by
  have hfi := fit_sync h.fit nm
  obtain ⟨h1, h2⟩ := upd_step h nm ⟨f.b, f.b.size⟩
  have e : s.sync nm = (0, s.step nm ⟨f.b, f.b.size⟩) := by
    unfold DS.sync
    rw [on_there h hf, if_neg (by decide), hf]
    rfl
  rw [e] at hfi ⊢
  exact ⟨rfl, ⟨hfi, h2⟩, h1⟩
theorem sizeAt_none' {l : List (ByteArray × F)} {k : ByteArray} (h : fk l k = none) : sizeAt l k = 0 := by unfold sizeAt; rw [h]; rfl
theorem sizeAt_some {l : List (ByteArray × F)} {k : ByteArray} {f : F} (h : fk l k = some f) : sizeAt l k = f.b.size := by unfold sizeAt; rw [h]; rfl
theorem remove_u {N : Int} {s : DS} (h : Uns N s) {nm : ByteArray} {f : F} (hf : fk s.l nm = some f) : (s.remove nm).1 = 0 ∧ Uns (N + 1) (s.remove nm).2 ∧ Del s (s.remove nm).2 nm := by
  have hfi := fit_remove h.fit nm
  have e : s.remove nm = (0, { s with l := fdl s.l nm }.counted) := by
    unfold DS.remove
    rw [on_there h hf, if_neg (by decide)]
  rw [e] at hfi ⊢
  exact ⟨rfl, ⟨hfi, left_counted h.left⟩, rfl, fun _ => fk_fdl _ _ _, used_fdl h.fit.keys, fdl_len⟩
theorem rmv_u {N : Int} {s : DS} (h : Uns N s) (nm : ByteArray) : (s.rmv nm).1 = 0 ∧ Uns (N + 1) (s.rmv nm).2 ∧ Del s (s.rmv nm).2 nm := by
  unfold DS.rmv
  cases hf : fk s.l nm with
  | none =>
    have e : s.remove nm = (19, s) := by
      unfold DS.remove
      rw [(on_absent h hf).2, if_pos (by decide)]
    rw [e]
    refine ⟨rfl, h.up (by omega), rfl, fun k => ?_, by rw [sizeAt_none' hf]; rfl, Nat.le_refl _⟩
    by_cases e2 : nm = k
    · subst e2
      show fk s.l nm = if nm = nm then none else fk s.l nm
      rw [if_pos rfl]
      exact hf
    · show fk s.l k = if nm = k then none else fk s.l k
      rw [if_neg e2]
  | some f =>
    obtain ⟨h1, h2, h3⟩ := remove_u h hf
    rw [h1]
    exact ⟨rfl, h2, h3⟩
theorem rename_u {N : Int} {s : DS} (h : Uns N s) {nm nw : ByteArray} {f : F} (hf : fk s.l nm = some f) (hne : nm ≠ nw) : (s.rename nm nw).1 = 0 ∧ Uns (N + 1) (s.rename nm nw).2 ∧ (s.rename nm nw).2.room = s.room ∧
    (∀ k, fk (s.rename nm nw).2.l k = if nw = k then some ⟨f.b, f.b.size⟩ else if nm = k then none else fk s.l k) ∧ used (s.rename nm nw).2.l + sizeAt s.l nw = used s.l ∧ (s.rename nm nw).2.l.length ≤ s.l.length := by
  have hfi := fit_rename h.fit nm nw
  have e : s.rename nm nw = (0, { s with l := fdl s.l nm }.step nw ⟨f.b, f.b.size⟩) := by
    unfold DS.rename
    rw [on_there h hf, if_neg (by decide), hf]
    rfl
  rw [e] at hfi ⊢
  refine ⟨rfl, ⟨hfi, left_counted h.left⟩, rfl, fun k => ?_, ?_, ?_⟩
  · show fk (fup (fdl s.l nm) nw _) k = _
    rw [fk_fup, fk_fdl]
  · show used (fup (fdl s.l nm) nw ⟨f.b, f.b.size⟩) + _ = _
    have h1 := used_fup (k := nw) (v := (⟨f.b, f.b.size⟩ : F)) (fdl_keys (k := nm) h.fit.keys)
    have h2 := used_fdl (k := nm) h.fit.keys
    have h3 : sizeAt (fdl s.l nm) nw = sizeAt s.l nw := by
      unfold sizeAt
      rw [fk_fdl, if_neg hne]
    rw [sizeAt_some hf] at h2
    simp only at h1
    omega
  · show (fup (fdl s.l nm) nw ⟨f.b, f.b.size⟩).length ≤ _
    have h1 := fup_len (l := fdl s.l nm) (k := nw) (v := (⟨f.b, f.b.size⟩ : F))
    have h2 := fdl_len_in (l := s.l) (k := nm) (fk_isSome.1 (by rw [hf]; rfl))
    omega
def emptyF : F := ⟨⟨#[]⟩, 0⟩
def headF (m : Nat) : F := ⟨headB m, 16⟩
theorem headB_size (m : Nat) : (headB m).size = 16 := by unfold headB; rw [ba_len]; rfl
theorem empty_app (b : ByteArray) : (⟨#[]⟩ : ByteArray) ++ b = b := by
  apply WideShapes.bytes_inj
  rw [ByteArray.data_append]
  simp
/-- A segment's file is made, or there is no room for its head. -/
theorem made_u {N : Int} {s : DS} (h : Uns N s) (m : Nat) (hl : s.l.length < 900) :
    Uns (N + 4) (s.made m).2 ∧ (((s.made m).1 = 0 ∧ Upd s (s.made m).2 (nameB m) (headF m)) ∨ ((s.made m).1 = 17 ∧ Upd s (s.made m).2 (nameB m) emptyF ∧ s.room + sizeAt s.l (nameB m) < (used s.l : Int) + 16)) := by
  unfold DS.made
  obtain ⟨a1, a2, a3⟩ := rmv_u h (nameB m)
  rw [then_go a1]
  generalize (s.rmv (nameB m)).2 = s1 at *
  have f1 : fk s1.l (nameB m) = none := by rw [a3.fk, if_pos rfl]
  obtain ⟨b1, b2, b3⟩ := create_u a2 f1 (by have := a3.len; omega)
  rw [then_go b1]
  generalize (s1.create (nameB m)).2 = s2 at *
  have f2 : fk s2.l (nameB m) = some ⟨⟨#[]⟩, 0⟩ := by rw [b3.fk, if_pos rfl]
  have hu1 := a3.used
  have hu2 := b3.used
  rw [sizeAt_none' f1] at hu2
  have hl1 := a3.len
  have hl2 := b3.len
  have hz : (⟨#[]⟩ : ByteArray).size = 0 := rfl
  simp only [hz] at hu2
  rcases append_u b2 f2 (headB m) with ⟨c1, c2, c3, c4⟩ | ⟨c1, c2⟩
  · rw [then_go c1]
    generalize (s2.append (nameB m) (headB m)).2 = s3 at *
    rw [empty_app] at c3
    have f3 : fk s3.l (nameB m) = some ⟨headB m, 0⟩ := by rw [c3.fk, if_pos rfl]
    obtain ⟨d1, d2, d3⟩ := sync_u c2 f3
    have hu3 := c3.used
    have hu4 := d3.used
    rw [sizeAt_some f2] at hu3
    rw [sizeAt_some f3] at hu4
    have hc1 := headB_size m
    simp only [hz] at hu3
    refine ⟨d2.up (by omega), .inl ⟨d1, d3.room.trans (c3.room.trans (b3.room.trans a3.room)), fun k => ?_, ?_, ?_⟩⟩
    · rw [d3.fk, c3.fk, b3.fk, a3.fk]
      by_cases e : nameB m = k
      · rw [if_pos e, if_pos e]
        unfold headF
        rw [hc1]
        rfl
      · simp only [if_neg e]
    · simp only [headF] at *
      omega
    · have hl4 : (s3.sync (nameB m)).2.l.length = s3.l.length := by
        unfold DS.sync
        split
        · rfl
        · exact fup_len_in (fk_isSome.1 (by rw [f3]; rfl))
      have hl3 : s3.l.length ≤ s2.l.length := by
        have hx := c3.fk
        have hp := (List.Perm.length_eq (perm_of_fk (l := s3.l) (m := fup s2.l (nameB m) ⟨headB m, 0⟩) c2.fit.keys (fup_keys b2.fit.keys) (fun k => by rw [hx, fk_fup])))
        rw [hp, fup_len_in (fk_isSome.1 (by rw [f2]; rfl))]
        exact Nat.le_refl _
      omega
  · rw [c1, then_stop (show (17 : Int) ≠ 0 by decide)]
    refine ⟨b2.up (by omega), .inr ⟨rfl, ⟨b3.room.trans a3.room, fun k => ?_, ?_, by show s2.l.length ≤ _; omega⟩, ?_⟩⟩
    · rw [b3.fk, a3.fk]
      by_cases e : nameB m = k
      · rw [if_pos e, if_pos e]; rfl
      · simp only [if_neg e]
    · simp only [emptyF, hz]
      omega
    · have hc1 := headB_size m
      have r1 := b3.room
      have r2 := a3.room
      omega
theorem nSheet_ne : nFresh ≠ nSheet := by decide
/-- Save: done, or there is no room for the bytes. -/
theorem save_u {N : Int} {s : DS} (h : Uns N s) (b : ByteArray) (hl : s.l.length < 900) :
    Uns (N + 5) (s.save b).2 ∧ (s.save b).2.room = s.room ∧ (s.save b).2.l.length ≤ s.l.length + 1 ∧
    (((s.save b).1 = 0 ∧ (∀ k, fk (s.save b).2.l k = if nSheet = k then some ⟨b, b.size⟩ else if nFresh = k then none else fk s.l k) ∧ used (s.save b).2.l + sizeAt s.l nFresh + sizeAt s.l nSheet = used s.l + b.size) ∨
     ((s.save b).1 = 17 ∧ (∀ k, fk (s.save b).2.l k = if nFresh = k then some emptyF else fk s.l k) ∧ used (s.save b).2.l + sizeAt s.l nFresh = used s.l ∧ s.room + sizeAt s.l nFresh < (used s.l : Int) + b.size)) := by
  unfold DS.save
  have hcl : s.clear = s.rmv nFresh := rfl
  rw [hcl]
  obtain ⟨a1, a2, a3⟩ := rmv_u h nFresh
  rw [then_go a1]
  generalize (s.rmv nFresh).2 = s1 at *
  have f1 : fk s1.l nFresh = none := by rw [a3.fk, if_pos rfl]
  obtain ⟨b1, b2, b3⟩ := create_u a2 f1 (by have := a3.len; omega)
  rw [then_go b1]
  generalize (s1.create nFresh).2 = s2 at *
  have f2 : fk s2.l nFresh = some ⟨⟨#[]⟩, 0⟩ := by rw [b3.fk, if_pos rfl]
  have hu1 := a3.used
  have hu2 := b3.used
  rw [sizeAt_none' f1] at hu2
  have hl1 := a3.len
  have hl2 := b3.len
  have hz : (⟨#[]⟩ : ByteArray).size = 0 := rfl
  simp only [hz] at hu2
  have hS1 : sizeAt s1.l nSheet = sizeAt s.l nSheet := by unfold sizeAt; rw [a3.fk, if_neg nSheet_ne]
  have hS2 : sizeAt s2.l nSheet = sizeAt s1.l nSheet := by unfold sizeAt; rw [b3.fk, if_neg nSheet_ne]
  rcases append_u b2 f2 b with ⟨c1, c2, c3, c4⟩ | ⟨c1, c2⟩
  · rw [then_go c1]
    generalize (s2.append nFresh b).2 = s3 at *
    rw [empty_app] at c3
    have f3 : fk s3.l nFresh = some ⟨b, 0⟩ := by rw [c3.fk, if_pos rfl]
    have hl3 : s3.l.length ≤ s2.l.length := by
      have hx := c3.fk
      have hp := (List.Perm.length_eq (perm_of_fk (l := s3.l) (m := fup s2.l nFresh ⟨b, 0⟩) c2.fit.keys (fup_keys b2.fit.keys) (fun k => by rw [hx, fk_fup])))
      rw [hp, fup_len_in (fk_isSome.1 (by rw [f2]; rfl))]
      exact Nat.le_refl _
    have hS3 : sizeAt s3.l nSheet = sizeAt s2.l nSheet := by unfold sizeAt; rw [c3.fk, if_neg nSheet_ne]
    obtain ⟨d1, d2, d3⟩ := sync_u c2 f3
    rw [then_go d1]
    have hl4 : (s3.sync nFresh).2.l.length = s3.l.length := by
      unfold DS.sync
      split
      · rfl
      · exact fup_len_in (fk_isSome.1 (by rw [f3]; rfl))
    generalize (s3.sync nFresh).2 = s4 at *
    have f4 : fk s4.l nFresh = some ⟨b, b.size⟩ := by rw [d3.fk, if_pos rfl]
    have hS4 : sizeAt s4.l nSheet = sizeAt s3.l nSheet := by unfold sizeAt; rw [d3.fk, if_neg nSheet_ne]
    obtain ⟨e1, e2, e3, e4, e5, e6⟩ := rename_u d2 f4 nSheet_ne
    have hu3 := c3.used
    have hu4 := d3.used
    rw [sizeAt_some f2] at hu3
    rw [sizeAt_some f3] at hu4
    simp only [hz] at hu3 hu4
    refine ⟨e2.up (by omega), e3.trans (d3.room.trans (c3.room.trans (b3.room.trans a3.room))), by omega, .inl ⟨e1, fun k => ?_, by omega⟩⟩
    rw [e4, d3.fk, c3.fk, b3.fk, a3.fk]
    by_cases e : nSheet = k
    · rw [if_pos e, if_pos e]
    · simp only [if_neg e]
      by_cases e2 : nFresh = k
      · simp only [if_pos e2]
      · simp only [if_neg e2]
  · have hst : andThen (andThen (s2.append nFresh b) fun s => s.sync nFresh) (fun s => s.rename nFresh nSheet) = (17, s2) := by
      rw [c1, then_stop (show (17 : Int) ≠ 0 by decide), then_stop (show (17 : Int) ≠ 0 by decide)]
    rw [hst]
    have r1 := b3.room
    have r2 := a3.room
    refine ⟨b2.up (by omega), r1.trans r2, by show s2.l.length ≤ _; omega, .inr ⟨rfl, fun k => ?_, ?_, ?_⟩⟩
    · show fk s2.l k = _
      rw [b3.fk, a3.fk]
      by_cases e : nFresh = k
      · rw [if_pos e, if_pos e]; rfl
      · simp only [if_neg e]
    · show used s2.l + _ = _
      omega
    · omega
end Go.Proofs.YtoaegleieacokaaGreat
