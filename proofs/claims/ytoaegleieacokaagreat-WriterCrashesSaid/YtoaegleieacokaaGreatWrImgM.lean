/- The writer's files: segments one behind the other, the sheet. Plain: no program. What Make, begins, a write into the active segment make of the writer's files. Plain: no program. -/
import Derived.Test.YtoaegleieacokaaGreatFkM
namespace Go.Proofs.YtoaegleieacokaaGreat
open Go.RowKit Go.Shelf

theorem dg_inj {m k : Nat} (hm : m < 100000000) (hk : k < 100000000) (h : ∀ j, j < 8 → dg m j = dg k j) : m = k := by
  have h0 := h 0 (by omega)
  have h1 := h 1 (by omega)
  have h2 := h 2 (by omega)
  have h3 := h 3 (by omega)
  have h4 := h 4 (by omega)
  have h5 := h 5 (by omega)
  have h6 := h 6 (by omega)
  have h7 := h 7 (by omega)
  unfold dg at h0 h1 h2 h3 h4 h5 h6 h7
  simp only [Nat.reducePow, Nat.div_one] at h0 h1 h2 h3 h4 h5 h6 h7
  omega
theorem u8_inj {a b : Nat} (ha : a < 256) (hb : b < 256) (h : UInt8.ofNat a = UInt8.ofNat b) : a = b := by
  have := congrArg UInt8.toNat h
  rw [UInt8.toNat_ofNat', UInt8.toNat_ofNat'] at this
  omega
theorem nameB_inj {m k : Nat} (hm : m < 100000000) (hk : k < 100000000) (h : nameB m = nameB k) : m = k := by
  have h1 : digitsL m = digitsL k := by
    unfold nameB at h
    have h2 := congrArg (fun b : ByteArray => b.data.toList) h
    simpa using h2
  unfold digitsL at h1
  simp only [List.cons.injEq, and_true] at h1
  obtain ⟨h7, h6, h5, h4, h3, h2, h1, h0⟩ := h1
  refine dg_inj hm hk fun j hj => ?_
  have hl := fun a b => show dg a b < 256 from by have := dg_lt a b; omega
  match j, hj with
  | 0, _ => exact u8_inj (hl _ _) (hl _ _) h0
  | 1, _ => exact u8_inj (hl _ _) (hl _ _) h1
  | 2, _ => exact u8_inj (hl _ _) (hl _ _) h2
  | 3, _ => exact u8_inj (hl _ _) (hl _ _) h3
  | 4, _ => exact u8_inj (hl _ _) (hl _ _) h4
  | 5, _ => exact u8_inj (hl _ _) (hl _ _) h5
  | 6, _ => exact u8_inj (hl _ _) (hl _ _) h6
  | 7, _ => exact u8_inj (hl _ _) (hl _ _) h7
theorem nameB_size (m : Nat) : (nameB m).size = 12 := by unfold nameB; rw [ba_len]; rfl
theorem nameB_sheet (m : Nat) : nameB m ≠ nSheet := fun e => by have := congrArg ByteArray.size e; rw [nameB_size] at this; exact absurd this (by decide)
theorem nameB_fresh (m : Nat) : nameB m ≠ nFresh := fun e => by have := congrArg ByteArray.size e; rw [nameB_size] at this; exact absurd this (by decide)
/-- The numbers from a on, k of them. -/
def segL (a k : Nat) : List Int := (List.range k).map fun i => ((a + i : Nat) : Int)
theorem segL_len (a k : Nat) : (segL a k).length = k := by simp [segL]
theorem segL_succ (a k : Nat) : segL a (k + 1) = segL a k ++ [((a + k : Nat) : Int)] := by simp [segL, List.range_succ]
theorem segL_last (a k : Nat) (hk : 0 < k) : lastI (segL a k) = ((a + k - 1 : Nat) : Int) := by
  obtain ⟨j, rfl⟩ : ∃ j, k = j + 1 := ⟨k - 1, by omega⟩
  rw [segL_succ, lastI_snoc]
  rfl
theorem idN_nat {m : Nat} (h0 : 1 ≤ m) (h1 : m ≤ 99999999) : idN (m : Int) = m := by unfold idN; omega
theorem isFrom_segL (a : Nat) (ha : 1 ≤ a) : ∀ k, a + k ≤ 100000000 → isFrom 0 (segL a k) = true
  | 0, _ => rfl
  | k + 1, h => by
    have ih := isFrom_segL a ha k (by omega)
    rw [segL_succ, isFrom_snoc, ih, Bool.true_and]
    have h2 : (segL a k).getLastD 0 < ((a + k : Nat) : Int) := by
      rcases Nat.eq_zero_or_pos k with rfl | hk
      · show (0 : Int) < ((a + 0 : Nat) : Int)
        omega
      · have := segL_last a k hk
        unfold lastI at this
        rw [this]; omega
    have h3 : ¬ ((a + k : Nat) : Int) ≤ (segL a k).getLastD 0 := by omega
    have h4 : ¬ (99999999 : Int) < ((a + k : Nat) : Int) := by omega
    rw [decide_eq_false h3, decide_eq_false h4]
    rfl
theorem isL_segL {a k : Nat} (ha : 1 ≤ a) (hk : 0 < k) (h200 : k ≤ 200) (h : a + k ≤ 100000000) : isL (segL a k) = true := by
  unfold isL
  rw [isFrom_segL a ha k h, segL_len]
  simp [hk, h200]
theorem segL_pos {a k : Nat} (ha : 1 ≤ a) : ∀ x ∈ segL a k, 0 < x := by
  intro x hx
  obtain ⟨i, _, rfl⟩ := List.mem_map.1 hx
  omega
theorem sheetB_size {l : List Int} (h : isL l = true) : (sheetB l).size ≤ 2014 := by
  have := bytesL_len (isL_sheet h)
  unfold sheetB
  rw [ba_len]
  omega
/-- The active one is synced. -/
def syncF (o : Option F) : Option F := o.map fun f => ⟨f.b, f.b.size⟩
/-- The segments from a on, with these bytes behind their heads; the sheet. -/
structure Img (s : DS) (a : Nat) (cs : List ByteArray) : Prop where
  seg : ∀ i c, cs[i]? = some c → ∃ kp : Int, fk s.l (nameB (a + i)) = some ⟨headB (a + i) ++ c, kp⟩ ∧ (i + 1 < cs.length → kp = 16 + (c.size : Int))
  sheet : fk s.l nSheet = some ⟨sheetB (segL a cs.length), (sheetB (segL a cs.length)).size⟩
/-- There are no other files. -/
structure Only (s : DS) (a n : Nat) : Prop where
  only : ∀ k, (∀ i, i < n → nameB (a + i) ≠ k) → nSheet ≠ k → fk s.l k = none
theorem app_size (a b : ByteArray) : (a ++ b).size = a.size + b.size := ByteArray.size_append
/-- begins: done; or no room for the head; or none for the sheet. -/
theorem begin_u {N : Int} {s : DS} (h : Uns N s) {a n : Nat} (ha : 1 ≤ a) (hn : 0 < n) (hb : a + n ≤ 99999999) (hl : s.l.length < 890) {f : F} (hact : fk s.l (nameB (a + n - 1)) = some f) :
    Uns (N + 24) (s.beginS (segL a n)).2 ∧ (s.beginS (segL a n)).2.room = s.room ∧ (s.beginS (segL a n)).2.l.length ≤ s.l.length + 3 ∧
    (((s.beginS (segL a n)).1 = 0 ∧ (∀ k, fk (s.beginS (segL a n)).2.l k = if nSheet = k then some ⟨sheetB (segL a (n + 1)), (sheetB (segL a (n + 1))).size⟩ else if nFresh = k then none else if nameB (a + n) = k then some (headF (a + n)) else if nameB (a + n - 1) = k then some ⟨f.b, f.b.size⟩ else fk s.l k) ∧
        used (s.beginS (segL a n)).2.l ≤ used s.l + 16 + (sheetB (segL a (n + 1))).size) ∨
     ((s.beginS (segL a n)).1 = 17 ∧ ((∀ k, fk (s.beginS (segL a n)).2.l k = if nameB (a + n) = k then some emptyF else if nameB (a + n - 1) = k then some ⟨f.b, f.b.size⟩ else fk s.l k) ∨
        (∀ k, fk (s.beginS (segL a n)).2.l k = if nFresh = k then some emptyF else if nameB (a + n) = k then some (headF (a + n)) else if nameB (a + n - 1) = k then some ⟨f.b, f.b.size⟩ else fk s.l k)) ∧ s.room < (used s.l : Int) + 16 + (sheetB (segL a (n + 1))).size)) := by
  have hlast := segL_last a n hn
  have hid1 : idN (lastI (segL a n)) = a + n - 1 := by rw [hlast]; exact idN_nat (by omega) (by omega)
  have hid2 : idN (lastI (segL a n) + 1) = a + n := by
    rw [hlast, show (((a + n - 1 : Nat) : Int) + 1) = ((a + n : Nat) : Int) from by omega]
    exact idN_nat (by omega) (by omega)
  have hl2 : segL a n ++ [lastI (segL a n) + 1] = segL a (n + 1) := by
    rw [segL_succ, hlast]
    congr 2
    omega
  unfold DS.beginS
  rw [hid1, hid2, hl2]
  generalize sheetB (segL a (n + 1)) = sb at *
  obtain ⟨a1, a2, a3⟩ := sync_u h hact
  rw [then_go a1]
  have hl1 := a3.len
  have hu1 := a3.used
  rw [sizeAt_some hact] at hu1
  simp only at hu1
  generalize (s.sync (nameB (a + n - 1))).2 = s1 at *
  obtain ⟨b0, b1⟩ := made_u a2 (a + n) (by omega)
  have hd1 : ∀ k, fk s1.l k = if nameB (a + n - 1) = k then some ⟨f.b, f.b.size⟩ else fk s.l k := a3.fk
  rcases b1 with ⟨b1, b2⟩ | ⟨b1, b2, b3⟩
  · rw [then_go b1]
    have hl3 := b2.len
    have hu2 := b2.used
    have r2 := b2.room
    have r1 := a3.room
    have hd2 : ∀ k, fk (s1.made (a + n)).2.l k = if nameB (a + n) = k then some (headF (a + n)) else if nameB (a + n - 1) = k then some ⟨f.b, f.b.size⟩ else fk s.l k := fun k => by rw [b2.fk, hd1]
    have hhs : (headF (a + n)).b.size = 16 := headB_size _
    rw [hhs] at hu2
    generalize (s1.made (a + n)).2 = s2 at *
    obtain ⟨c0, c1, c2, c3⟩ := save_u b0 sb (by omega)
    refine ⟨c0.up (by omega), by omega, by omega, ?_⟩
    rcases c3 with ⟨c3, c4, c5⟩ | ⟨c3, c4, c5, c6⟩
    · exact .inl ⟨c3, fun k => by rw [c4, hd2], by omega⟩
    · refine .inr ⟨c3, .inr fun k => by rw [c4, hd2], by omega⟩
  · have hst : andThen (s1.made (a + n)) (fun s => s.save sb) = s1.made (a + n) := then_stop (by rw [b1]; decide)
    rw [hst]
    have hl3 := b2.len
    have hu2 := b2.used
    have r2 := b2.room
    have r1 := a3.room
    refine ⟨b0.up (by omega), by omega, by omega, .inr ⟨b1, .inl fun k => by rw [b2.fk, hd1], by omega⟩⟩
end Go.Proofs.YtoaegleieacokaaGreat
namespace Go.Proofs.YtoaegleieacokaaGreat
open Go.RowKit Go.Shelf

theorem bytes1 : (bytesL [1]).length = 6 := by
  rw [bytesL, List.length_append, fixedL_len, bodyL, bodyOf]
  simp only [List.length_cons, List.length_nil, List.flatMap_cons, List.flatMap_nil, List.append_nil, List.length_append]
  rw [show (1 : Int).toNat = 1 from rfl, putL_small (by omega)]
  rfl
theorem sheet1 : (sheetB [1]).size = 6 := by
  unfold sheetB
  rw [ba_len]
  exact bytes1
theorem app_empty (b : ByteArray) : b ++ (⟨#[]⟩ : ByteArray) = b := by
  apply WideShapes.bytes_inj
  rw [ByteArray.data_append]
  simp
theorem app_assoc (a b c : ByteArray) : (a ++ b) ++ c = a ++ (b ++ c) := by
  apply WideShapes.bytes_inj
  simp only [ByteArray.data_append, Array.append_assoc]
theorem snoc_get {α : Type} {cs : List α} {c x : α} {i : Nat} (h : (cs ++ [c])[i]? = some x) : (i < cs.length ∧ cs[i]? = some x) ∨ (i = cs.length ∧ x = c) := by
  rw [List.getElem?_append] at h
  split at h
  · exact .inl ⟨‹_›, h⟩
  · rcases Nat.eq_zero_or_pos (i - cs.length) with h0 | h0
    · rw [h0] at h
      simp at h
      exact .inr ⟨by omega, h.symm⟩
    · rw [List.getElem?_eq_none (by simp; omega)] at h
      exact absurd h (by simp)
theorem get_snoc {α : Type} (cs : List α) (c : α) : (cs ++ [c])[cs.length]? = some c := by simp
/-- The active one's file. -/
theorem Img.last {s : DS} {a : Nat} {cs : List ByteArray} {c : ByteArray} (h : Img s a (cs ++ [c])) : ∃ kp : Int, fk s.l (nameB (a + cs.length)) = some ⟨headB (a + cs.length) ++ c, kp⟩ := by
  obtain ⟨kp, h1, _⟩ := h.seg cs.length c (get_snoc cs c)
  exact ⟨kp, h1⟩
theorem nameB_ne {m k : Nat} (hm : m < 100000000) (hk : k < 100000000) (h : m ≠ k) : nameB m ≠ nameB k := fun e => h (nameB_inj hm hk e)
theorem segL_one (a : Nat) : segL a 1 = [(a : Int)] := by simp [segL]
/-- Make, where there is room. -/
theorem mk_u {N : Int} {s : DS} (h : Uns N s) (hl : s.l.length < 890) (hr : (used s.l : Int) + 22 ≤ s.room) :
    ∃ s', s.mk' = (0, s') ∧ Uns (N + 16) s' ∧ s'.room = s.room ∧ s'.l.length ≤ s.l.length + 2 ∧ Img s' 1 [⟨#[]⟩] ∧ used s'.l ≤ used s.l + 22 ∧ (∀ k, nameB 1 ≠ k → nSheet ≠ k → fk s.l k = none → fk s'.l k = none) := by
  unfold DS.mk'
  obtain ⟨b0, b1⟩ := made_u h 1 (by omega)
  have hz := sheet1
  generalize he : sheetB [1] = sb at *
  rcases b1 with ⟨b1, b2⟩ | ⟨_, _, b3⟩
  · rw [then_go b1]
    have hl3 := b2.len
    have hu2 := b2.used
    have r2 := b2.room
    have hhs : (headF 1).b.size = 16 := headB_size _
    rw [hhs] at hu2
    have hf := b2.fk
    generalize (s.made 1).2 = s2 at *
    obtain ⟨c0, c1, c2, c3⟩ := save_u b0 sb (by omega)
    rcases c3 with ⟨c3, c4, c5⟩ | ⟨c3, c4, c5, c6⟩
    · refine ⟨(s2.save sb).2, Prod.ext c3 rfl, c0.up (by omega), by omega, by omega, ⟨fun i c hc => ?_, ?_⟩, by omega, fun k k1 k2 k3 => ?_⟩
      · rcases snoc_get (cs := []) hc with ⟨h0, _⟩ | ⟨h0, h1⟩
        · exact absurd h0 (by simp)
        · simp only [List.length_nil] at h0
          subst h0
          subst h1
          refine ⟨16, ?_, fun h => absurd h (by simp)⟩
          rw [c4, if_neg (nameB_sheet _).symm, if_neg (nameB_fresh _).symm, hf, if_pos rfl, app_empty]
          rfl
      · rw [c4, if_pos rfl]
        simp only [List.length_cons, List.length_nil]
        rw [segL_one, show (((1 : Nat) : Int)) = 1 from rfl, he]
      · rw [c4, if_neg k2, hf, if_neg k1, k3]
        split <;> rfl
    · omega
  · omega
/-- begins: done, or no room, and all is there still. -/
theorem img_begin {N : Int} {s : DS} (h : Uns N s) {a : Nat} {cs : List ByteArray} {c : ByteArray} (hi : Img s a (cs ++ [c])) (ha : 1 ≤ a) (hb : a + cs.length + 1 ≤ 99999999) (h200 : cs.length + 2 ≤ 200) (hl : s.l.length < 890) :
    ∃ e s', s.beginS (segL a (cs.length + 1)) = (e, s') ∧ Uns (N + 24) s' ∧ s'.room = s.room ∧ s'.l.length ≤ s.l.length + 3 ∧
      ((e = 0 ∧ Img s' a (cs ++ [c] ++ [⟨#[]⟩]) ∧ used s'.l ≤ used s.l + 2030 ∧ (Only s a (cs.length + 1) → Only s' a (cs.length + 2))) ∨ (e = 17 ∧ Img s' a (cs ++ [c]) ∧ s.room < (used s.l : Int) + 2030)) := by
  obtain ⟨kp, hact⟩ := hi.last
  have hsz := sheetB_size (isL_segL (a := a) (k := cs.length + 1 + 1) ha (by omega) (by omega) (by omega))
  have hbg := begin_u h (a := a) (n := cs.length + 1) (f := ⟨headB (a + cs.length) ++ c, kp⟩) ha (by omega) (by omega) hl (by rw [show a + (cs.length + 1) - 1 = a + cs.length from by omega]; exact hact)
  rw [show a + (cs.length + 1) - 1 = a + cs.length from by omega] at hbg
  have hfs : ((headB (a + cs.length) ++ c).size : Int) = 16 + (c.size : Int) := by rw [app_size, headB_size]; omega
  simp only [hfs] at hbg
  obtain ⟨c0, c1, c2, c3⟩ := hbg
  generalize hes : s.beginS (segL a (cs.length + 1)) = es at *
  obtain ⟨e, s'⟩ := es
  simp only at c0 c1 c2 c3
  refine ⟨e, s', rfl, c0, c1, c2, ?_⟩
  have hold : ∀ i x, i < cs.length → cs[i]? = some x → ∃ kp : Int, fk s.l (nameB (a + i)) = some ⟨headB (a + i) ++ x, kp⟩ ∧ kp = 16 + (x.size : Int) := by
    intro i x hil hx
    obtain ⟨kp, h1, h2⟩ := hi.seg i x (by rw [List.getElem?_append_left hil]; exact hx)
    exact ⟨kp, h1, h2 (by simp; omega)⟩
  have hs := hi.sheet
  rcases c3 with ⟨c3, c4, c5⟩ | ⟨c3, c4, c5⟩
  · refine .inl ⟨c3, ⟨fun i x hx => ?_, ?_⟩, by omega, fun ho => ⟨fun k hk hs => ?_⟩⟩
    rotate_left 2
    · rw [c4, if_neg hs, if_neg (show nameB (a + (cs.length + 1)) ≠ k from hk _ (by omega)), if_neg (hk cs.length (by omega)), ho.only k (fun i hi => hk i (by omega)) hs]
      split <;> rfl
    · rcases snoc_get hx with ⟨h0, hx⟩ | ⟨h0, rfl⟩
      · rcases snoc_get hx with ⟨h9, hx⟩ | ⟨h9, rfl⟩
        · obtain ⟨kp, h1, h2⟩ := hold i x h9 hx
          refine ⟨kp, ?_, fun _ => h2⟩
          rw [c4, if_neg (nameB_sheet _).symm, if_neg (nameB_fresh _).symm, if_neg (nameB_ne (by omega) (by omega) (by omega)), if_neg (nameB_ne (by omega) (by omega) (by omega)), h1]
        · subst h9
          refine ⟨16 + (x.size : Int), ?_, fun _ => rfl⟩
          rw [c4, if_neg (nameB_sheet _).symm, if_neg (nameB_fresh _).symm, if_neg (nameB_ne (by omega) (by omega) (by omega)), if_pos rfl]
      · simp only [List.length_append, List.length_cons, List.length_nil] at h0
        refine ⟨16, ?_, fun h => by simp at h; omega⟩
        rw [c4, if_neg (nameB_sheet _).symm, if_neg (nameB_fresh _).symm, if_pos (by rw [h0]), app_empty, h0]
        rfl
    · rw [c4, if_pos rfl]
      simp only [List.length_append, List.length_cons, List.length_nil]
  · refine .inr ⟨c3, ⟨fun i x hx => ?_, ?_⟩, by omega⟩
    · rcases snoc_get hx with ⟨h0, hx⟩ | ⟨h0, rfl⟩
      · obtain ⟨kp, h1, h2⟩ := hold i x h0 hx
        refine ⟨kp, ?_, fun _ => h2⟩
        rcases c4 with c4 | c4
        · rw [c4, if_neg (nameB_ne (by omega) (by omega) (by omega)), if_neg (nameB_ne (by omega) (by omega) (by omega)), h1]
        · rw [c4, if_neg (nameB_fresh _).symm, if_neg (nameB_ne (by omega) (by omega) (by omega)), if_neg (nameB_ne (by omega) (by omega) (by omega)), h1]
      · subst h0
        refine ⟨16 + (x.size : Int), ?_, fun h => by simp at h⟩
        rcases c4 with c4 | c4
        · rw [c4, if_neg (nameB_ne (by omega) (by omega) (by omega)), if_pos rfl]
        · rw [c4, if_neg (nameB_fresh _).symm, if_neg (nameB_ne (by omega) (by omega) (by omega)), if_pos rfl]
    · rcases c4 with c4 | c4
      · rw [c4, if_neg (nameB_sheet _), if_neg (nameB_sheet _), hs]
      · rw [c4, if_neg nSheet_ne, if_neg (nameB_sheet _), if_neg (nameB_sheet _), hs]
/-- Bytes behind the active one's. -/
theorem img_app {N : Int} {s : DS} (h : Uns N s) {a : Nat} {cs : List ByteArray} {c : ByteArray} (hi : Img s a (cs ++ [c])) (hb : a + cs.length + 1 ≤ 99999999) (b : ByteArray) :
    ∃ e s', s.append (nameB (a + cs.length)) b = (e, s') ∧ Uns (N + 1) s' ∧ s'.room = s.room ∧ s'.l.length ≤ s.l.length + 1 ∧ (∀ k, nameB (a + cs.length) ≠ k → fk s'.l k = fk s.l k) ∧
      ((e = 0 ∧ Img s' a (cs ++ [c ++ b]) ∧ used s'.l ≤ used s.l + b.size ∧ (Only s a (cs.length + 1) → Only s' a (cs.length + 1))) ∨ (e = 17 ∧ s' = s ∧ s.room < (used s.l : Int) + b.size)) := by
  obtain ⟨kp, hact⟩ := hi.last
  rcases append_u h hact b with ⟨c1, c2, c3, c4⟩ | ⟨c1, c2⟩
  · have hu := c3.used
    rw [sizeAt_some hact] at hu
    simp only [app_size] at hu
    have hu' : used (s.append (nameB (a + cs.length)) b).2.l ≤ used s.l + b.size := by omega
    have ho' : Only s a (cs.length + 1) → Only (s.append (nameB (a + cs.length)) b).2 a (cs.length + 1) := fun ho => ⟨fun k hk hs => by rw [c3.fk, if_neg (hk _ (by omega))]; exact ho.only k hk hs⟩
    refine ⟨_, _, Prod.ext c1 rfl, c2, c3.room, c3.len, fun k hk => (c3.fk k).trans (if_neg hk), .inl ⟨rfl, ⟨fun i x hx => ?_, ?_⟩, hu', ho'⟩⟩
    · rcases snoc_get hx with ⟨h0, hx⟩ | ⟨h0, rfl⟩
      · obtain ⟨kp, h1, h2⟩ := hi.seg i x (by rw [List.getElem?_append_left h0]; exact hx)
        refine ⟨kp, ?_, fun h => h2 (by simp at h ⊢; omega)⟩
        rw [c3.fk, if_neg (nameB_ne (by omega) (by omega) (by omega)), h1]
      · subst h0
        refine ⟨kp, ?_, fun h => by simp at h⟩
        rw [c3.fk, if_pos rfl, app_assoc]
    · rw [c3.fk, if_neg (nameB_sheet _), hi.sheet]
      simp only [List.length_append, List.length_cons, List.length_nil]
  · exact ⟨17, s, c1, h.up (by omega), rfl, by omega, fun _ _ => rfl, .inr ⟨rfl, rfl, c2⟩⟩
end Go.Proofs.YtoaegleieacokaaGreat
