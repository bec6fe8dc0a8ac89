/- What Make, begins, a write into the active segment make of the writer's files. Plain: no program. -/
import Derived.Test.YtoaegleieacokaaWrImg
namespace Go.Proofs.Ytoaegleieacokaa
open Go.RowKit Go.Shelf

theorem bytes1 : (bytesL [1]).length = 6 := by
  rw [bytesL, List.length_append, fixedL_len, bodyL, bodyOf]
  simp only [List.length_cons, List.length_nil, List.flatMap_cons, List.flatMap_nil, List.append_nil, List.length_append]
  rw [show (1 : Int).toNat = 1 from rfl, putL_small (by omega)]
  rfl
theorem sheet1 : (sheetB [1]).size = 6 := by
  unfold sheetB
  rw [ba_len]
  exact bytes1
theorem app_empty (b : ByteArray) : b ++ (⟨#[]⟩ : ByteArray) = b := by
  apply WideShapes.bytes_inj
  rw [ByteArray.data_append]
  simp
theorem app_assoc (a b c : ByteArray) : (a ++ b) ++ c = a ++ (b ++ c) := by
  apply WideShapes.bytes_inj
  simp only [ByteArray.data_append, Array.append_assoc]
theorem snoc_get {α : Type} {cs : List α} {c x : α} {i : Nat} (h : (cs ++ [c])[i]? = some x) : (i < cs.length ∧ cs[i]? = some x) ∨ (i = cs.length ∧ x = c) := by
  rw [List.getElem?_append] at h
  split at h
  · exact .inl ⟨‹_›, h⟩
  · rcases Nat.eq_zero_or_pos (i - cs.length) with h0 | h0
    · rw [h0] at h
      simp at h
      exact .inr ⟨by omega, h.symm⟩
    · rw [List.getElem?_eq_none (by simp; omega)] at h
      exact absurd h (by simp)
theorem get_snoc {α : Type} (cs : List α) (c : α) : (cs ++ [c])[cs.length]? = some c := by simp
/-- The active one's file. -/
theorem Img.last {s : DS} {a : Nat} {cs : List ByteArray} {c : ByteArray} (h : Img s a (cs ++ [c])) : ∃ kp : Int, fk s.l (nameB (a + cs.length)) = some ⟨headB (a + cs.length) ++ c, kp⟩ := by
  obtain ⟨kp, h1, _⟩ := h.seg cs.length c (get_snoc cs c)
  exact ⟨kp, h1⟩
theorem nameB_ne {m k : Nat} (hm : m < 100000000) (hk : k < 100000000) (h : m ≠ k) : nameB m ≠ nameB k := fun e => h (nameB_inj hm hk e)
theorem segL_one (a : Nat) : segL a 1 = [(a : Int)] := by simp [segL]
/-- Make, where there is room. -/
theorem mk_u {N : Int} {s : DS} (h : Uns N s) (hl : s.l.length < 890) (hr : (used s.l : Int) + 22 ≤ s.room) :
    ∃ s', s.mk' = (0, s') ∧ Uns (N + 16) s' ∧ s'.room = s.room ∧ s'.l.length ≤ s.l.length + 2 ∧ Img s' 1 [⟨#[]⟩] ∧ used s'.l ≤ used s.l + 22 ∧ (∀ k, nameB 1 ≠ k → nSheet ≠ k → fk s.l k = none → fk s'.l k = none) := by
  unfold DS.mk'
  obtain ⟨b0, b1⟩ := made_u h 1 (by omega)
  have hz := sheet1
  generalize he : sheetB [1] = sb at *
  rcases b1 with ⟨b1, b2⟩ | ⟨_, _, b3⟩
  · rw [then_go b1]
    have hl3 := b2.len
    have hu2 := b2.used
    have r2 := b2.room
    have hhs : (headF 1).b.size = 16 := headB_size _
    rw [hhs] at hu2
    have hf := b2.fk
    generalize (s.made 1).2 = s2 at *
    obtain ⟨c0, c1, c2, c3⟩ := save_u b0 sb (by omega)
    rcases c3 with ⟨c3, c4, c5⟩ | ⟨c3, c4, c5, c6⟩
    · refine ⟨(s2.save sb).2, Prod.ext c3 rfl, c0.up (by omega), by omega, by omega, ⟨fun i c hc => ?_, ?_⟩, by omega, fun k k1 k2 k3 => ?_⟩
      · rcases snoc_get (cs := []) hc with ⟨h0, _⟩ | ⟨h0, h1⟩
        · exact absurd h0 (by simp)
        · simp only [List.length_nil] at h0
          subst h0
          subst h1
          refine ⟨16, ?_, fun h => absurd h (by simp)⟩
          rw [c4, if_neg (nameB_sheet _).symm, if_neg (nameB_fresh _).symm, hf, if_pos rfl, app_empty]
          rfl
      · rw [c4, if_pos rfl]
        simp only [List.length_cons, List.length_nil]
        rw [segL_one, show (((1 : Nat) : Int)) = 1 from rfl, he]
      · rw [c4, if_neg k2, hf, if_neg k1, k3]
        split <;> rfl
    · omega
  · omega
/-- begins: done, or no room, and all is there still. -/
theorem img_begin {N : Int} {s : DS} (h : Uns N s) {a : Nat} {cs : List ByteArray} {c : ByteArray} (hi : Img s a (cs ++ [c])) (ha : 1 ≤ a) (hb : a + cs.length + 1 ≤ 99999999) (h200 : cs.length + 2 ≤ 200) (hl : s.l.length < 890) :
    ∃ e s', s.beginS (segL a (cs.length + 1)) = (e, s') ∧ Uns (N + 24) s' ∧ s'.room = s.room ∧ s'.l.length ≤ s.l.length + 3 ∧
      ((e = 0 ∧ Img s' a (cs ++ [c] ++ [⟨#[]⟩]) ∧ used s'.l ≤ used s.l + 2030) ∨ (e = 17 ∧ Img s' a (cs ++ [c]) ∧ s.room < (used s.l : Int) + 2030)) := by
  obtain ⟨kp, hact⟩ := hi.last
  have hsz := sheetB_size (isL_segL (a := a) (k := cs.length + 1 + 1) ha (by omega) (by omega) (by omega))
  have hbg := begin_u h (a := a) (n := cs.length + 1) (f := ⟨headB (a + cs.length) ++ c, kp⟩) ha (by omega) (by omega) hl (by rw [show a + (cs.length + 1) - 1 = a + cs.length from by omega]; exact hact)
  rw [show a + (cs.length + 1) - 1 = a + cs.length from by omega] at hbg
  have hfs : ((headB (a + cs.length) ++ c).size : Int) = 16 + (c.size : Int) := by rw [app_size, headB_size]; omega
  simp only [hfs] at hbg
  obtain ⟨c0, c1, c2, c3⟩ := hbg
  generalize hes : s.beginS (segL a (cs.length + 1)) = es at *
  obtain ⟨e, s'⟩ := es
  simp only at c0 c1 c2 c3
  refine ⟨e, s', rfl, c0, c1, c2, ?_⟩
  have hold : ∀ i x, i < cs.length → cs[i]? = some x → ∃ kp : Int, fk s.l (nameB (a + i)) = some ⟨headB (a + i) ++ x, kp⟩ ∧ kp = 16 + (x.size : Int) := by
    intro i x hil hx
    obtain ⟨kp, h1, h2⟩ := hi.seg i x (by rw [List.getElem?_append_left hil]; exact hx)
    exact ⟨kp, h1, h2 (by simp; omega)⟩
  have hs := hi.sheet
  rcases c3 with ⟨c3, c4, c5⟩ | ⟨c3, c4, c5⟩
  · refine .inl ⟨c3, ⟨fun i x hx => ?_, ?_⟩, by omega⟩
    · rcases snoc_get hx with ⟨h0, hx⟩ | ⟨h0, rfl⟩
      · rcases snoc_get hx with ⟨h9, hx⟩ | ⟨h9, rfl⟩
        · obtain ⟨kp, h1, h2⟩ := hold i x h9 hx
          refine ⟨kp, ?_, fun _ => h2⟩
          rw [c4, if_neg (nameB_sheet _).symm, if_neg (nameB_fresh _).symm, if_neg (nameB_ne (by omega) (by omega) (by omega)), if_neg (nameB_ne (by omega) (by omega) (by omega)), h1]
        · subst h9
          refine ⟨16 + (x.size : Int), ?_, fun _ => rfl⟩
          rw [c4, if_neg (nameB_sheet _).symm, if_neg (nameB_fresh _).symm, if_neg (nameB_ne (by omega) (by omega) (by omega)), if_pos rfl]
      · simp only [List.length_append, List.length_cons, List.length_nil] at h0
        refine ⟨16, ?_, fun h => by simp at h; omega⟩
        rw [c4, if_neg (nameB_sheet _).symm, if_neg (nameB_fresh _).symm, if_pos (by rw [h0]), app_empty, h0]
        rfl
    · rw [c4, if_pos rfl]
      simp only [List.length_append, List.length_cons, List.length_nil]
  · refine .inr ⟨c3, ⟨fun i x hx => ?_, ?_⟩, by omega⟩
    · rcases snoc_get hx with ⟨h0, hx⟩ | ⟨h0, rfl⟩
      · obtain ⟨kp, h1, h2⟩ := hold i x h0 hx
        refine ⟨kp, ?_, fun _ => h2⟩
        rcases c4 with c4 | c4
        · rw [c4, if_neg (nameB_ne (by omega) (by omega) (by omega)), if_neg (nameB_ne (by omega) (by omega) (by omega)), h1]
        · rw [c4, if_neg (nameB_fresh _).symm, if_neg (nameB_ne (by omega) (by omega) (by omega)), if_neg (nameB_ne (by omega) (by omega) (by omega)), h1]
      · subst h0
        refine ⟨16 + (x.size : Int), ?_, fun h => by simp at h⟩
        rcases c4 with c4 | c4
        · rw [c4, if_neg (nameB_ne (by omega) (by omega) (by omega)), if_pos rfl]
        · rw [c4, if_neg (nameB_fresh _).symm, if_neg (nameB_ne (by omega) (by omega) (by omega)), if_pos rfl]
    · rcases c4 with c4 | c4
      · rw [c4, if_neg (nameB_sheet _), if_neg (nameB_sheet _), hs]
      · rw [c4, if_neg nSheet_ne, if_neg (nameB_sheet _), if_neg (nameB_sheet _), hs]
/-- Bytes behind the active one's. -/
theorem img_app {N : Int} {s : DS} (h : Uns N s) {a : Nat} {cs : List ByteArray} {c : ByteArray} (hi : Img s a (cs ++ [c])) (hb : a + cs.length + 1 ≤ 99999999) (b : ByteArray) :
    ∃ e s', s.append (nameB (a + cs.length)) b = (e, s') ∧ Uns (N + 1) s' ∧ s'.room = s.room ∧ s'.l.length ≤ s.l.length + 1 ∧ (∀ k, nameB (a + cs.length) ≠ k → fk s'.l k = fk s.l k) ∧
      ((e = 0 ∧ Img s' a (cs ++ [c ++ b]) ∧ used s'.l ≤ used s.l + b.size) ∨ (e = 17 ∧ s' = s ∧ s.room < (used s.l : Int) + b.size)) := by
  obtain ⟨kp, hact⟩ := hi.last
  rcases append_u h hact b with ⟨c1, c2, c3, c4⟩ | ⟨c1, c2⟩
  · have hu := c3.used
    rw [sizeAt_some hact] at hu
    simp only [app_size] at hu
    have hu' : used (s.append (nameB (a + cs.length)) b).2.l ≤ used s.l + b.size := by omega
    refine ⟨_, _, Prod.ext c1 rfl, c2, c3.room, c3.len, fun k hk => (c3.fk k).trans (if_neg hk), .inl ⟨rfl, ⟨fun i x hx => ?_, ?_⟩, hu'⟩⟩
    · rcases snoc_get hx with ⟨h0, hx⟩ | ⟨h0, rfl⟩
      · obtain ⟨kp, h1, h2⟩ := hi.seg i x (by rw [List.getElem?_append_left h0]; exact hx)
        refine ⟨kp, ?_, fun h => h2 (by simp at h ⊢; omega)⟩
        rw [c3.fk, if_neg (nameB_ne (by omega) (by omega) (by omega)), h1]
      · subst h0
        refine ⟨kp, ?_, fun h => by simp at h⟩
        rw [c3.fk, if_pos rfl, app_assoc]
    · rw [c3.fk, if_neg (nameB_sheet _), hi.sheet]
      simp only [List.length_append, List.length_cons, List.length_nil]
  · exact ⟨17, s, c1, h.up (by omega), rfl, by omega, fun _ _ => rfl, .inr ⟨rfl, rfl, c2⟩⟩
end Go.Proofs.Ytoaegleieacokaa
