/- The crash keeps what fits. A write under a limit of steps, then a loss of power: what is there. Plain: no program. A write under a limit of steps: its contract; what the crash leaves; Sync that keeps all. -/
import Derived.Test.YtoaegleieacokaaGreatDiskFit
import Derived.Test.YtoaegleieacokaaGreatWrDropM
namespace Go.Proofs.YtoaegleieacokaaGreat
open Go.RowKit Go.Shelf

theorem crashSize_in {f : F} (_ : 0 ≤ f.k) (h1 : f.k ≤ f.b.size) (keep : Int) (hk0 : 0 ≤ keep) (hk1 : keep < 18446744073709551616) (i : Nat) : f.k ≤ crashSize keep i f ∧ crashSize keep i f ≤ f.b.size := by
  obtain ⟨q0, q1⟩ := crashK_le keep hk0 hk1 i
  unfold crashSize
  generalize crashK keep i = q at *
  have h2 : 0 ≤ ((f.b.size : Int) - f.k) * q := Int.mul_nonneg (by omega) q0
  have h3 : ((f.b.size : Int) - f.k) * q ≤ ((f.b.size : Int) - f.k) * 255 := Int.mul_le_mul_of_nonneg_left q1 (by omega)
  rw [Int.tdiv_eq_ediv_of_nonneg h2]
  omega
theorem crashF_sound {f : F} (h0 : 0 ≤ f.k) (h1 : f.k ≤ f.b.size) (keep : Int) (hk0 : 0 ≤ keep) (hk1 : keep < 18446744073709551616) (i : Nat) :
    0 ≤ (crashF keep i f).k ∧ (crashF keep i f).k ≤ (crashF keep i f).b.size ∧ (crashF keep i f).b.size ≤ f.b.size := by
  obtain ⟨a, b⟩ := crashSize_in h0 h1 keep hk0 hk1 i
  unfold crashF
  simp only [ByteArray.size_extract]
  omega
theorem crashed_keys (keep : Int) (ns : List ByteArray) (l : List (ByteArray × F)) : (crashed keep ns l).map (·.1) = l.map (·.1) := by
  unfold crashed
  rw [List.map_map]
  rfl
theorem crashed_used (keep : Int) (hk0 : 0 ≤ keep) (hk1 : keep < 18446744073709551616) (ns : List ByteArray) : ∀ l : List (ByteArray × F), (∀ p ∈ l, 0 ≤ p.2.k ∧ p.2.k ≤ p.2.b.size) → used (crashed keep ns l) ≤ used l
  | [], _ => Nat.le_refl _
  | p :: l, h => by
    have h1 := crashed_used keep hk0 hk1 ns l (fun q hq => h q (by simp [hq]))
    obtain ⟨a, b⟩ := h p (by simp)
    have h2 := (crashF_sound a b keep hk0 hk1 (place ns p.1)).2.2
    have e : crashed keep ns (p :: l) = (p.1, crashF keep (place ns p.1) p.2) :: crashed keep ns l := rfl
    rw [e, used_cons, used_cons]
    simp only
    omega
theorem fit_crash {N : Int} {s : DS} (h : s.Fit N) (keep : Int) (hk0 : 0 ≤ keep) (hk1 : keep < 18446744073709551616) : (s.crash keep).Fit N := by
  have hu := crashed_used keep hk0 hk1 (names s.l) s.l h.sound
  have h2 := h.used
  refine ⟨h.steps0, h.steps, by simp [DS.crash], h.room0, h.room, ?_, ?_, ?_, ?_⟩
  · simp only [DS.crash]
    omega
  · simp only [DS.crash]
    rw [crashed_keys]
    exact h.keys
  · simp only [DS.crash, crashed, List.length_map]
    exact h.many
  · intro p hp
    simp only [DS.crash, crashed, List.mem_map] at hp
    obtain ⟨q, hq, rfl⟩ := hp
    obtain ⟨a, b⟩ := h.sound q hq
    have := crashF_sound a b keep hk0 hk1 (place (names s.l) q.1)
    exact ⟨this.1, this.2.1⟩
end Go.Proofs.YtoaegleieacokaaGreat
namespace Go.Proofs.YtoaegleieacokaaGreat
open Go.RowKit Go.Shelf

theorem on_off' {s : DS} (h : s.left = 0) (nm : ByteArray) (t : Bool) : onOf s nm t = 18 := by unfold onOf; rw [if_pos h]
theorem on_there' {s : DS} (h : ¬ s.left = 0) {nm : ByteArray} {f : F} (hf : fk s.l nm = some f) : onOf s nm true = 0 := by
  unfold onOf
  rw [if_neg h, hf]
  rfl
theorem on_absent' {s : DS} (h : ¬ s.left = 0) {nm : ByteArray} (hf : fk s.l nm = none) : onOf s nm false = 0 ∧ onOf s nm true = 19 := by
  unfold onOf
  rw [if_neg h, if_neg h, hf]
  exact ⟨rfl, rfl⟩
section
variable {N : Int} {s : DS} {nm : ByteArray} {f : F}
theorem create_o (h : s.Fit N) (hf : fk s.l nm = none) (hl : s.l.length < 1000) : s.create nm = (18, s) ∨ ((s.create nm).1 = 0 ∧ Upd s (s.create nm).2 nm ⟨⟨#[]⟩, 0⟩) := by
  by_cases h0 : s.left = 0
  · left; unfold DS.create; rw [on_off' h0, if_pos (by decide)]
  · right
    have e : s.create nm = (0, s.step nm ⟨⟨#[]⟩, 0⟩) := by
      unfold DS.create
      rw [(on_absent' h0 hf).1, if_neg (by decide), if_neg (by omega)]
    rw [e]
    exact ⟨rfl, rfl, fun _ => fk_fup _ _ _ _, used_fup h.keys, fup_len⟩
theorem append_o (h : s.Fit N) (hf : fk s.l nm = some f) (b : ByteArray) (hr : (used s.l : Int) + b.size ≤ s.room) : s.append nm b = (18, s) ∨ ((s.append nm b).1 = 0 ∧ Upd s (s.append nm b).2 nm ⟨f.b ++ b, f.k⟩) := by
  by_cases h0 : s.left = 0
  · left; unfold DS.append; rw [on_off' h0, if_pos (by decide)]
  · right
    have e : s.append nm b = (0, s.step nm ⟨f.b ++ b, f.k⟩) := by
      unfold DS.append
      rw [on_there' h0 hf, if_neg (by decide), if_neg (by omega), hf]
      rfl
    rw [e]
    exact ⟨rfl, rfl, fun _ => fk_fup _ _ _ _, used_fup h.keys, fup_len⟩
theorem sync_o (h : s.Fit N) (hf : fk s.l nm = some f) : s.sync nm = (18, s) ∨ ((s.sync nm).1 = 0 ∧ Upd s (s.sync nm).2 nm ⟨f.b, f.b.size⟩) := by
  by_cases h0 : s.left = 0
  · left; unfold DS.sync; rw [on_off' h0, if_pos (by decide)]
  · right
    have e : s.sync nm = (0, s.step nm ⟨f.b, f.b.size⟩) := by
      unfold DS.sync
      rw [on_there' h0 hf, if_neg (by decide), hf]
      rfl
    rw [e]
    exact ⟨rfl, rfl, fun _ => fk_fup _ _ _ _, used_fup h.keys, fup_len⟩
theorem rmv_o (h : s.Fit N) (nm : ByteArray) : s.rmv nm = (18, s) ∨ ((s.rmv nm).1 = 0 ∧ Del s (s.rmv nm).2 nm) := by
  by_cases h0 : s.left = 0
  · left
    have e : s.remove nm = (18, s) := by unfold DS.remove; rw [on_off' h0, if_pos (by decide)]
    unfold DS.rmv
    rw [e]
    rfl
  · right
    unfold DS.rmv
    cases hf : fk s.l nm with
    | none =>
      have e : s.remove nm = (19, s) := by
        unfold DS.remove
        rw [(on_absent' h0 hf).2, if_pos (by decide)]
      rw [e]
      refine ⟨rfl, rfl, fun k => ?_, by rw [sizeAt_none' hf]; rfl, Nat.le_refl _⟩
      by_cases e2 : nm = k
      · subst e2
        show fk s.l nm = if nm = nm then none else fk s.l nm
        rw [if_pos rfl]
        exact hf
      · show fk s.l k = if nm = k then none else fk s.l k
        rw [if_neg e2]
    | some f =>
      have e : s.remove nm = (0, { s with l := fdl s.l nm }.counted) := by
        unfold DS.remove
        rw [on_there' h0 hf, if_neg (by decide)]
      rw [e]
      exact ⟨rfl, rfl, fun _ => fk_fdl _ _ _, used_fdl h.keys, fdl_len⟩
theorem rename_o (hf : fk s.l nm = some f) (nw : ByteArray) : s.rename nm nw = (18, s) ∨ ((s.rename nm nw).1 = 0 ∧ ∀ k, fk (s.rename nm nw).2.l k = if nw = k then some ⟨f.b, f.b.size⟩ else if nm = k then none else fk s.l k) := by
  by_cases h0 : s.left = 0
  · left; unfold DS.rename; rw [on_off' h0, if_pos (by decide)]
  · right
    have e : s.rename nm nw = (0, { s with l := fdl s.l nm }.step nw ⟨f.b, f.b.size⟩) := by
      unfold DS.rename
      rw [on_there' h0 hf, if_neg (by decide), hf]
      rfl
    rw [e]
    refine ⟨rfl, fun k => ?_⟩
    show fk (fup (fdl s.l nm) nw _) k = _
    rw [fk_fup, fk_fdl]
end
/-- The segments are there whole, and kept; the sheet. -/
structure Base (s : DS) (a : Nat) (bs : List ByteArray) : Prop where
  seg : ∀ i c, bs[i]? = some c → fk s.l (nameB (a + i)) = some ⟨headB (a + i) ++ c, 16 + (c.size : Int)⟩
  sheet : fk s.l nSheet = some ⟨sheetB (segL a bs.length), (sheetB (segL a bs.length)).size⟩
/-- What a loss of power leaves. -/
structure Safe (s : DS) (a : Nat) (bs : List ByteArray) : Prop where
  seg : ∀ i c, bs[i]? = some c → ∃ x kp, fk s.l (nameB (a + i)) = some ⟨(headB (a + i) ++ c) ++ x, kp⟩ ∧ 16 + (c.size : Int) ≤ kp
  sheet : fk s.l nSheet = some ⟨sheetB (segL a bs.length), (sheetB (segL a bs.length)).size⟩ ∨
    (fk s.l nSheet = some ⟨sheetB (segL a (bs.length + 1)), (sheetB (segL a (bs.length + 1))).size⟩ ∧ ∃ x kp, fk s.l (nameB (a + bs.length)) = some ⟨headB (a + bs.length) ++ x, kp⟩ ∧ 16 ≤ kp)
theorem Base.safe {s : DS} {a : Nat} {bs : List ByteArray} (h : Base s a bs) : Safe s a bs :=
  ⟨fun i c hc => ⟨⟨#[]⟩, _, by rw [app_empty]; exact h.seg i c hc, Int.le_refl _⟩, .inl h.sheet⟩
theorem Base.other {s s' : DS} {a : Nat} {bs : List ByteArray} (h : Base s a bs) {nm : ByteArray} (hk : ∀ k, nm ≠ k → fk s'.l k = fk s.l k) (h1 : ∀ i, i < bs.length → nm ≠ nameB (a + i)) (h2 : nm ≠ nSheet) : Base s' a bs :=
  ⟨fun i c hc => by rw [hk _ (h1 i (List.getElem?_eq_some_iff.1 hc).1)]; exact h.seg i c hc, by rw [hk _ h2]; exact h.sheet⟩
/-- One step: done, from A to B; or the power is off, and S holds. -/
def Goes (A : DS → Prop) (P : DS → Int × DS) (B S : DS → Prop) : Prop := ∀ s, A s → ((P s).1 = 18 ∧ S (P s).2) ∨ ((P s).1 = 0 ∧ B (P s).2)
theorem Goes.then {A B C S : DS → Prop} {P Q : DS → Int × DS} (h : Goes A P B S) (k : Goes B Q C S) : Goes A (fun s => andThen (P s) Q) C S := fun s hs => by
  show ((andThen (P s) Q).1 = 18 ∧ S (andThen (P s) Q).2) ∨ ((andThen (P s) Q).1 = 0 ∧ C (andThen (P s) Q).2)
  rcases h s hs with ⟨h1, h2⟩ | ⟨h1, h2⟩
  · rw [then_stop (by rw [h1]; decide)]
    exact .inl ⟨h1, h2⟩
  · rw [then_go h1]
    exact k _ h2
section
variable {N : Int} {U L a : Nat} {bs : List ByteArray}
/-- Behind j steps: the segments; what the new one's file is, and the new sheet's. -/
structure Bs (N : Int) (U L a : Nat) (bs : List ByteArray) (j : Nat) (fn fr : Option F → Prop) (s : DS) : Prop where
  fit : s.Fit (N + j)
  room : s.room = 1000000
  used : used s.l ≤ U + 5000 * j
  len : s.l.length ≤ L + j
  base : Base s a bs
  new : fn (fk s.l (nameB (a + bs.length)))
  fresh : fr (fk s.l nFresh)
/-- What there is at each loss of power. -/
structure Ss (N : Int) (L a : Nat) (bs : List ByteArray) (s : DS) : Prop where
  fit : s.Fit (N + 20)
  len : s.l.length ≤ L + 20
  safe : Safe s a bs
theorem Bs.ss {j : Nat} {fn fr : Option F → Prop} {s : DS} (h : Bs N U L a bs j fn fr s) (hj : j ≤ 20) : Ss N L a bs s := ⟨h.fit.up (by omega), by have := h.len; omega, h.base.safe⟩
theorem new_ne (hb : a + bs.length + 1 ≤ 99999999) : ∀ i, i < bs.length → nameB (a + bs.length) ≠ nameB (a + i) := fun i hi => nameB_ne (by omega) (by omega) (by omega)
theorem goes_new {P : DS → Int × DS} {j : Nat} (hj : j < 20) (hb : a + bs.length + 1 ≤ 99999999) {fn fn' fr : Option F → Prop} {f : F} (hz : f.b.size ≤ 5000) (hf : fn' (some f)) (hfit : ∀ (s : DS) (K : Int), s.Fit K → (P s).2.Fit (K + 1))
    (h : ∀ s, Bs N U L a bs j fn fr s → P s = (18, s) ∨ ((P s).1 = 0 ∧ Upd s (P s).2 (nameB (a + bs.length)) f)) : Goes (Bs N U L a bs j fn fr) P (Bs N U L a bs (j + 1) fn' fr) (Ss N L a bs) := fun s hs => by
  rcases h s hs with e | ⟨e, u⟩
  · rw [e]; exact .inl ⟨rfl, hs.ss (by omega)⟩
  · have hu := u.used
    have hs1 := hs.used
    have hs2 := hs.len
    have hl := u.len
    refine .inr ⟨e, ⟨(hfit s _ hs.fit).up (by omega), u.room.trans hs.room, by omega, by omega, hs.base.other (fun k hk => by rw [u.fk, if_neg hk]) (new_ne hb) (nameB_sheet _), ?_, ?_⟩⟩
    · rw [u.fk, if_pos rfl]; exact hf
    · rw [u.fk, if_neg (nameB_fresh _)]; exact hs.fresh
theorem goes_fresh {P : DS → Int × DS} {j : Nat} (hj : j < 20) {fn fr fr' : Option F → Prop} {f : F} (hz : f.b.size ≤ 5000) (hf : fr' (some f)) (hfit : ∀ (s : DS) (K : Int), s.Fit K → (P s).2.Fit (K + 1))
    (h : ∀ s, Bs N U L a bs j fn fr s → P s = (18, s) ∨ ((P s).1 = 0 ∧ Upd s (P s).2 nFresh f)) : Goes (Bs N U L a bs j fn fr) P (Bs N U L a bs (j + 1) fn fr') (Ss N L a bs) := fun s hs => by
  rcases h s hs with e | ⟨e, u⟩
  · rw [e]; exact .inl ⟨rfl, hs.ss (by omega)⟩
  · have hu := u.used
    have hs1 := hs.used
    have hs2 := hs.len
    have hl := u.len
    refine .inr ⟨e, ⟨(hfit s _ hs.fit).up (by omega), u.room.trans hs.room, by omega, by omega, hs.base.other (fun k hk => by rw [u.fk, if_neg hk]) (fun i _ => (nameB_fresh _).symm) nSheet_ne, ?_, ?_⟩⟩
    · rw [u.fk, if_neg (nameB_fresh _).symm]; exact hs.new
    · rw [u.fk, if_pos rfl]; exact hf
def anyF : Option F → Prop := fun _ => True
def isF (f : F) : Option F → Prop := fun o => o = some f
def noF : Option F → Prop := fun o => o = none
theorem goes_rmvN {j : Nat} (hj : j < 20) (hb : a + bs.length + 1 ≤ 99999999) {fn fr : Option F → Prop} : Goes (Bs N U L a bs j fn fr) (fun s => s.rmv (nameB (a + bs.length))) (Bs N U L a bs (j + 1) noF fr) (Ss N L a bs) := fun s hs => by
  dsimp only
  have hfi := fit_rmv hs.fit (nameB (a + bs.length))
  rcases rmv_o hs.fit (nameB (a + bs.length)) with e | ⟨e, u⟩
  · rw [e]; exact .inl ⟨rfl, hs.ss (by omega)⟩
  · have hu := u.used
    have hs1 := hs.used
    have hs2 := hs.len
    have hl := u.len
    refine .inr ⟨e, ⟨hfi.up (by omega), u.room.trans hs.room, by omega, by omega, hs.base.other (fun k hk => by rw [u.fk, if_neg hk]) (new_ne hb) (nameB_sheet _), ?_, ?_⟩⟩
    · show _ = none
      rw [u.fk, if_pos rfl]
    · rw [u.fk, if_neg (nameB_fresh _)]; exact hs.fresh
theorem goes_rmvF {j : Nat} (hj : j < 20) {fn fr : Option F → Prop} : Goes (Bs N U L a bs j fn fr) (fun s => s.clear) (Bs N U L a bs (j + 1) fn noF) (Ss N L a bs) := fun s hs => by
  show ((s.rmv nFresh).1 = 18 ∧ _) ∨ ((s.rmv nFresh).1 = 0 ∧ _)
  have hfi := fit_rmv hs.fit nFresh
  rcases rmv_o hs.fit nFresh with e | ⟨e, u⟩
  · exact .inl ⟨by rw [e], by show Ss N L a bs (s.rmv nFresh).2; rw [e]; exact hs.ss (by omega)⟩
  · have hu := u.used
    have hs1 := hs.used
    have hs2 := hs.len
    have hl := u.len
    refine .inr ⟨e, ⟨hfi.up (by omega), u.room.trans hs.room, by show used (s.rmv nFresh).2.l ≤ _; omega, by show (s.rmv nFresh).2.l.length ≤ _; omega, hs.base.other (fun k hk => by show fk (s.rmv nFresh).2.l k = _; rw [u.fk, if_neg hk]) (fun i _ => (nameB_fresh _).symm) nSheet_ne, ?_, ?_⟩⟩
    · show fn (fk (s.rmv nFresh).2.l _)
      rw [u.fk, if_neg (nameB_fresh _).symm]; exact hs.new
    · show fk (s.rmv nFresh).2.l _ = none
      rw [u.fk, if_pos rfl]
/-- The last segment is synced once more. -/
theorem goes_sync {cs : List ByteArray} {c : ByteArray} {j : Nat} (hj : j < 20) (hc : c.size ≤ 900000) (hb : a + cs.length + 2 ≤ 99999999) {fn fr : Option F → Prop} : Goes (Bs N U L a (cs ++ [c]) j fn fr) (fun s => s.sync (nameB (a + cs.length))) (Bs N U L a (cs ++ [c]) (j + 1) fn fr) (Ss N L a (cs ++ [c])) := fun s hs => by
  dsimp only
  have hfi := fit_sync hs.fit (nameB (a + cs.length))
  have hlast := hs.base.seg cs.length c (get_snoc cs c)
  have hsz : (headB (a + cs.length) ++ c).size = 16 + c.size := by rw [app_size, headB_size]
  rcases sync_o hs.fit hlast with e | ⟨e, u⟩
  · rw [e]; exact .inl ⟨rfl, hs.ss (by omega)⟩
  · have hu := u.used
    have hs1 := hs.used
    have hs2 := hs.len
    have hl := u.len
    rw [sizeAt_some hlast] at hu
    simp only [hsz] at hu
    have hlen : (cs ++ [c]).length = cs.length + 1 := by simp
    refine .inr ⟨e, ⟨hfi.up (by omega), u.room.trans hs.room, by omega, by omega, ⟨fun i x hx => ?_, ?_⟩, ?_, ?_⟩⟩
    · rw [u.fk]
      by_cases e2 : nameB (a + cs.length) = nameB (a + i)
      · rw [if_pos e2]
        have hi : i < cs.length + 1 := by have := (List.getElem?_eq_some_iff.1 hx).1; simpa using this
        have : a + cs.length = a + i := nameB_inj (by omega) (by omega) e2
        obtain rfl : i = cs.length := by omega
        rw [get_snoc] at hx
        obtain rfl := Option.some.inj hx
        simp only [hsz]
        rfl
      · rw [if_neg e2]; exact hs.base.seg i x hx
    · rw [u.fk, if_neg (nameB_sheet _)]; exact hs.base.sheet
    · rw [u.fk, if_neg (by rw [hlen]; exact nameB_ne (by omega) (by omega) (by omega))]; exact hs.new
    · rw [u.fk, if_neg (nameB_fresh _)]; exact hs.fresh
/-- The new sheet is there. -/
structure Bn (N : Int) (U L a : Nat) (bs : List ByteArray) (s : DS) : Prop where
  fit : s.Fit (N + 10)
  room : s.room = 1000000
  used : used s.l ≤ U + 50000
  len : s.l.length ≤ L + 10
  seg : ∀ i c, bs[i]? = some c → fk s.l (nameB (a + i)) = some ⟨headB (a + i) ++ c, 16 + (c.size : Int)⟩
  sheet : fk s.l nSheet = some ⟨sheetB (segL a (bs.length + 1)), (sheetB (segL a (bs.length + 1))).size⟩
  new : fk s.l (nameB (a + bs.length)) = some ⟨headB (a + bs.length), 16⟩
theorem begins_cut {cs : List ByteArray} {c : ByteArray} (hc : c.size ≤ 900000) (ha : 1 ≤ a) (hb : a + cs.length + 3 ≤ 99999999) (h200 : cs.length + 2 ≤ 200) (hU : U ≤ 900000) (hL : L ≤ 900) :
    Goes (Bs N U L a (cs ++ [c]) 0 anyF anyF) (fun s => s.beginS (segL a (cs.length + 1))) (Bn N U L a (cs ++ [c])) (Ss N L a (cs ++ [c])) := by
  have hlen : (cs ++ [c]).length = cs.length + 1 := by simp
  have hlast := segL_last a (cs.length + 1) (by omega)
  have hid1 : idN (lastI (segL a (cs.length + 1))) = a + cs.length := by rw [hlast]; exact idN_nat (by omega) (by omega)
  have hid2 : idN (lastI (segL a (cs.length + 1)) + 1) = a + (cs ++ [c]).length := by
    rw [hlast, show (((a + (cs.length + 1) - 1 : Nat) : Int) + 1) = ((a + (cs.length + 1) : Nat) : Int) from by omega, hlen]
    exact idN_nat (by omega) (by omega)
  have hl2 : segL a (cs.length + 1) ++ [lastI (segL a (cs.length + 1)) + 1] = segL a ((cs ++ [c]).length + 1) := by
    rw [hlen, segL_succ a (cs.length + 1), hlast]
    congr 2
  have hsb := sheetB_size (isL_segL (a := a) (k := (cs ++ [c]).length + 1) ha (by omega) (by omega) (by omega))
  unfold DS.beginS
  rw [hid1, hid2, hl2]
  generalize hsbe : sheetB (segL a ((cs ++ [c]).length + 1)) = sb at *
  have hbn : a + (cs ++ [c]).length + 1 ≤ 99999999 := by omega
  have hh := headB_size (a + (cs ++ [c]).length)
  have g1 := goes_sync (N := N) (U := U) (L := L) (a := a) (cs := cs) (c := c) (j := 0) (fn := anyF) (fr := anyF) (by omega) hc (by omega)
  generalize nameB (a + cs.length) = nl at *
  have g2 := goes_rmvN (N := N) (U := U) (L := L) (a := a) (bs := cs ++ [c]) (j := 1) (fn := anyF) (fr := anyF) (by omega) hbn
  have g3 := goes_new (N := N) (U := U) (L := L) (a := a) (bs := cs ++ [c]) (P := fun s => s.create (nameB (a + (cs ++ [c]).length))) (j := 2) (fn := noF) (fn' := isF ⟨⟨#[]⟩, 0⟩) (fr := anyF) (f := ⟨⟨#[]⟩, 0⟩) (by omega) hbn (by simp [ByteArray.size]) rfl (fun s K h => fit_create h _) (fun s hs => create_o hs.fit hs.new (by have := hs.len; omega))
  have g4 := goes_new (N := N) (U := U) (L := L) (a := a) (bs := cs ++ [c]) (P := fun s => s.append (nameB (a + (cs ++ [c]).length)) (headB (a + (cs ++ [c]).length))) (j := 3) (fn := isF ⟨⟨#[]⟩, 0⟩) (fn' := isF ⟨(⟨#[]⟩ : ByteArray) ++ headB (a + (cs ++ [c]).length), 0⟩) (fr := anyF) (f := ⟨(⟨#[]⟩ : ByteArray) ++ headB (a + (cs ++ [c]).length), 0⟩) (by omega) hbn (by simp only [empty_app]; omega) rfl (fun s K h => fit_append h _ _) (fun s hs => append_o hs.fit hs.new _ (by have := hs.used; have := hs.room; omega))
  rw [empty_app] at g4
  have g5 := goes_new (N := N) (U := U) (L := L) (a := a) (bs := cs ++ [c]) (P := fun s => s.sync (nameB (a + (cs ++ [c]).length))) (j := 4) (fn := isF ⟨headB (a + (cs ++ [c]).length), 0⟩) (fn' := isF ⟨headB (a + (cs ++ [c]).length), (headB (a + (cs ++ [c]).length)).size⟩) (fr := anyF) (f := ⟨headB (a + (cs ++ [c]).length), (headB (a + (cs ++ [c]).length)).size⟩) (by omega) hbn (by show (headB (a + (cs ++ [c]).length)).size ≤ 5000; omega) rfl (fun s K h => fit_sync h _) (fun s hs => sync_o hs.fit hs.new)
  have g6 := goes_rmvF (N := N) (U := U) (L := L) (a := a) (bs := cs ++ [c]) (j := 5) (fn := isF ⟨headB (a + (cs ++ [c]).length), (headB (a + (cs ++ [c]).length)).size⟩) (fr := anyF) (by omega)
  have g7 := goes_fresh (N := N) (U := U) (L := L) (a := a) (bs := cs ++ [c]) (P := fun s => s.create nFresh) (j := 6) (fn := isF ⟨headB (a + (cs ++ [c]).length), (headB (a + (cs ++ [c]).length)).size⟩) (fr := noF) (fr' := isF ⟨⟨#[]⟩, 0⟩) (f := ⟨⟨#[]⟩, 0⟩) (by omega) (by simp [ByteArray.size]) rfl (fun s K h => fit_create h _) (fun s hs => create_o hs.fit hs.fresh (by have := hs.len; omega))
  have g8 := goes_fresh (N := N) (U := U) (L := L) (a := a) (bs := cs ++ [c]) (P := fun s => s.append nFresh sb) (j := 7) (fn := isF ⟨headB (a + (cs ++ [c]).length), (headB (a + (cs ++ [c]).length)).size⟩) (fr := isF ⟨⟨#[]⟩, 0⟩) (fr' := isF ⟨(⟨#[]⟩ : ByteArray) ++ sb, 0⟩) (f := ⟨(⟨#[]⟩ : ByteArray) ++ sb, 0⟩) (by omega) (by simp only [empty_app]; omega) rfl (fun s K h => fit_append h _ _) (fun s hs => append_o hs.fit hs.fresh _ (by have := hs.used; have := hs.room; omega))
  rw [empty_app] at g8
  have g9 := goes_fresh (N := N) (U := U) (L := L) (a := a) (bs := cs ++ [c]) (P := fun s => s.sync nFresh) (j := 8) (fn := isF ⟨headB (a + (cs ++ [c]).length), (headB (a + (cs ++ [c]).length)).size⟩) (fr := isF ⟨sb, 0⟩) (fr' := isF ⟨sb, sb.size⟩) (f := ⟨sb, sb.size⟩) (by omega) (by show sb.size ≤ 5000; omega) rfl (fun s K h => fit_sync h _) (fun s hs => sync_o hs.fit hs.fresh)
  have g10 : Goes (Bs N U L a (cs ++ [c]) 9 (isF ⟨headB (a + (cs ++ [c]).length), (headB (a + (cs ++ [c]).length)).size⟩) (isF ⟨sb, sb.size⟩)) (fun s => s.rename nFresh nSheet) (Bn N U L a (cs ++ [c])) (Ss N L a (cs ++ [c])) := fun s hs => by
    dsimp only
    have hfi := fit_rename hs.fit nFresh nSheet
    have hq : (s.rename nFresh nSheet).2.room = s.room ∧ used (s.rename nFresh nSheet).2.l ≤ used s.l + sb.size ∧ (s.rename nFresh nSheet).2.l.length ≤ s.l.length + 1 := by
      unfold DS.rename
      rw [show fk s.l nFresh = some ⟨sb, sb.size⟩ from hs.fresh]
      by_cases ho : onOf s nFresh true ≠ 0
      · rw [if_pos ho]
        exact ⟨rfl, by show used s.l ≤ _; omega, by show s.l.length ≤ _; omega⟩
      · rw [if_neg ho]
        have q1 := used_fup (k := nSheet) (v := (⟨sb, sb.size⟩ : F)) (fdl_keys (k := nFresh) hs.fit.keys)
        have q2 := used_fdl (k := nFresh) hs.fit.keys
        have q3 := fup_len (l := fdl s.l nFresh) (k := nSheet) (v := (⟨sb, sb.size⟩ : F))
        have q4 := fdl_len (l := s.l) (k := nFresh)
        refine ⟨rfl, ?_, ?_⟩
        · show used (fup (fdl s.l nFresh) nSheet ⟨sb, sb.size⟩) ≤ _
          simp only at q1
          omega
        · show (fup (fdl s.l nFresh) nSheet ⟨sb, sb.size⟩).length ≤ _
          omega
    rcases rename_o hs.fresh nSheet with e | ⟨e, u⟩
    · rw [e]; exact .inl ⟨rfl, hs.ss (by omega)⟩
    · refine .inr ⟨e, ⟨hfi.up (by omega), ?_, ?_, ?_, fun i x hx => ?_, ?_, ?_⟩⟩
      · exact hq.1.trans hs.room
      · have := hs.used; have := hq.2.1; omega
      · have := hs.len; have := hq.2.2; omega
      · rw [u, if_neg (nameB_sheet _).symm, if_neg (nameB_fresh _).symm]; exact hs.base.seg i x hx
      · rw [u, if_pos rfl, hsbe]
      · rw [u, if_neg (nameB_sheet _).symm, if_neg (nameB_fresh _).symm, show fk s.l _ = _ from hs.new, hh]
        rfl
  exact (g1.then (((g2.then g3).then g4).then g5)).then ((((g6.then g7).then g8).then g9).then g10)
end
end Go.Proofs.YtoaegleieacokaaGreat
namespace Go.Proofs.YtoaegleieacokaaGreat
open Go.RowKit Go.Shelf

theorem fk_maps {κ β : Type} [DecidableEq κ] (g : κ → β → β) : ∀ (l : List (κ × β)) (k : κ), fk (l.map fun p => (p.1, g p.1 p.2)) k = (fk l k).map (g k)
  | [], _ => rfl
  | p :: l, k => by
    have ih := fk_maps g l k
    unfold fk at *
    rw [List.map_cons, List.find?_cons, List.find?_cons]
    by_cases e : p.1 = k
    · subst e
      simp
    · simp only [e, decide_false]
      exact ih
theorem crash_fk (s : DS) (keep : Int) (nm : ByteArray) : fk (s.crash keep).l nm = (fk s.l nm).map (crashF keep (place (names s.l) nm)) := by
  unfold DS.crash crashed
  exact fk_maps (fun k f => crashF keep (place (names s.l) k) f) s.l nm
theorem extract_pre {H x : ByteArray} {m : Int} (hm : (H.size : Int) ≤ m) : ∃ y, (H ++ x).extract 0 m.toNat = H ++ y := by
  refine ⟨x.extract 0 (m.toNat - H.size), ?_⟩
  apply WideShapes.bytes_inj
  rw [ByteArray.data_extract, ByteArray.data_append, ByteArray.data_append, ByteArray.data_extract, Array.toList_extract, Array.toList_append, Array.toList_append, Array.toList_extract]
  have hs : H.data.toList.length = H.size := rfl
  show ((H.data.toList ++ x.data.toList).drop 0).take (m.toNat - 0) = H.data.toList ++ (x.data.toList.drop 0).take (m.toNat - H.size - 0)
  rw [List.drop_zero, List.drop_zero, Nat.sub_zero, Nat.sub_zero, List.take_append, hs, List.take_of_length_le (by omega)]
theorem crash_pre {N : Int} {s : DS} (hf : s.Fit N) {keep : Int} (hk0 : 0 ≤ keep) (hk1 : keep < 18446744073709551616) {nm H x : ByteArray} {kp : Int} (h : fk s.l nm = some ⟨H ++ x, kp⟩) (hH : (H.size : Int) ≤ kp) :
    ∃ y kq, fk (s.crash keep).l nm = some ⟨H ++ y, kq⟩ ∧ (H.size : Int) ≤ kq := by
  have hmem : (nm, (⟨H ++ x, kp⟩ : F)) ∈ s.l := by
    unfold fk at h
    cases hfd : s.l.find? (fun p => p.1 = nm) with
    | none => rw [hfd] at h; cases h
    | some p =>
      rw [hfd] at h
      have h1 := List.mem_of_find?_eq_some hfd
      have h2 := List.find?_some hfd
      obtain ⟨p1, p2⟩ := p
      simp only [Option.map_some, Option.some.injEq] at h
      simp only [decide_eq_true_eq] at h2
      subst h h2
      exact h1
  obtain ⟨s0, s1⟩ := hf.sound _ hmem
  simp only at s0 s1
  obtain ⟨c0, c1⟩ := crashSize_in (f := ⟨H ++ x, kp⟩) s0 s1 keep hk0 hk1 (place (names s.l) nm)
  simp only at c0 c1
  rw [crash_fk, h]
  simp only [Option.map_some, crashF]
  obtain ⟨y, hy⟩ := extract_pre (H := H) (x := x) (m := crashSize keep (place (names s.l) nm) ⟨H ++ x, kp⟩) (by omega)
  rw [hy]
  exact ⟨y, _, rfl, by omega⟩
theorem read_some {s : DS} (h : s.left < 0) {nm b : ByteArray} {k : Int} (hf : fk s.l nm = some ⟨b, k⟩) : readOf s nm = (b, 0) := by
  unfold readOf
  rw [on_there' (by omega) hf, hf]
  rfl
/-- What is read behind the loss of power. -/
structure Lft (t : DS) (a : Nat) (bs : List ByteArray) (m : Nat) : Prop where
  hm : m = bs.length ∨ m = bs.length + 1
  sheet : readOf t nSheet = (sheetB (segL a m), 0)
  seg : ∀ i, i < m → ∃ x, readOf t (nameB (a + i)) = (headB (a + i) ++ x, 0) ∧ ∀ c, bs[i]? = some c → ∃ y, x = c ++ y
theorem safe_left {N : Int} {s : DS} (hf : s.Fit N) {keep : Int} (hk0 : 0 ≤ keep) (hk1 : keep < 18446744073709551616) {a : Nat} {bs : List ByteArray} (h : Safe s a bs) : ∃ m, Lft (s.crash keep) a bs m := by
  have hl : (s.crash keep).left < 0 := by show (-1 : Int) < 0; omega
  have hold : ∀ i c, bs[i]? = some c → ∃ x, readOf (s.crash keep) (nameB (a + i)) = (headB (a + i) ++ x, 0) ∧ ∃ y, x = c ++ y := fun i c hc => by
    obtain ⟨x, kp, h1, h2⟩ := h.seg i c hc
    obtain ⟨y, kq, h3, _⟩ := crash_pre hf hk0 hk1 h1 (by rw [app_size, headB_size]; omega)
    exact ⟨c ++ y, by rw [read_some hl h3, app_assoc], y, rfl⟩
  have hsh : ∀ S, fk s.l nSheet = some ⟨S, (S.size : Int)⟩ → readOf (s.crash keep) nSheet = (S, 0) := fun S hS => by
    have h3 : fk (s.crash keep).l nSheet = some ⟨S, (S.size : Int)⟩ := by
      rw [crash_fk, hS, Option.map_some, crashF_whole keep hk0 hk1]
    exact read_some hl h3
  have hseg : ∀ i, i < bs.length → ∃ x, readOf (s.crash keep) (nameB (a + i)) = (headB (a + i) ++ x, 0) ∧ ∀ c, bs[i]? = some c → ∃ y, x = c ++ y := fun i hi => by
    obtain ⟨x, h1, y, h2⟩ := hold i _ (List.getElem?_eq_getElem hi)
    refine ⟨x, h1, fun c hc => ?_⟩
    rw [List.getElem?_eq_getElem hi] at hc
    obtain rfl := Option.some.inj hc
    exact ⟨y, h2⟩
  rcases h.sheet with h1 | ⟨h1, x, kp, h2, h3⟩
  · exact ⟨bs.length, .inl rfl, hsh _ h1, hseg⟩
  · refine ⟨bs.length + 1, .inr rfl, hsh _ h1, fun i hi => ?_⟩
    rcases Nat.lt_or_ge i bs.length with hlt | hge
    · exact hseg i hlt
    · obtain rfl : i = bs.length := by omega
      obtain ⟨y, kq, h4, _⟩ := crash_pre hf hk0 hk1 h2 (by rw [headB_size]; omega)
      refine ⟨y, read_some hl h4, fun c hc => ?_⟩
      rw [List.getElem?_eq_none (by omega)] at hc
      cases hc
section
variable {n : Nat} {W : World} {D M B : Nat} {X : List Nat} {lim N : Int} {U L a : Nat} {cs : List ByteArray} {c : ByteArray} {s : DS} {w : World}
/-- Sync: all is kept. -/
theorem sync_base (hN : N < 4611686018427340000) (ha : 1 ≤ a) (hb : a + cs.length + 1 ≤ 99999999) (h200 : cs.length ≤ 1000) (ho : Only s a (cs.length + 1)) (hr : s.room = 1000000) (hu : used s.l ≤ U) (hl : s.l.length < L) (h : Wg n W D M B X lim N a cs c s w) :
    Calls Tryz.prog 12 #[.pointer (some ⟨B, 0, none⟩)] w fun e w' => e = .returned (.int .i64 0) ∧ ∃ s', Wk n W D M B X s' lim (segL a (cs.length + 1)) (16 + (c.size : Int)) w' ∧ Bs (N + 1) U L a (cs ++ [c]) 0 anyF anyF s' ∧ Chg [D, M] w w' := by
  obtain ⟨s', e1, u1, r1, n1, z1, g1, o1⟩ := img_sync h.u h.img hb
  obtain ⟨kp, hact⟩ := h.img.last
  obtain ⟨d1, d2, d3⟩ := sync_u h.u hact
  have hse : (s.sync (nameB (a + cs.length))).2 = s' := by rw [e1]
  rw [hse] at d3
  have hsz : (headB (a + cs.length) ++ c).size = 16 + c.size := by rw [app_size, headB_size]
  have hsy := wsync_wk h.u.fit (by omega) (by rw [h.len]; omega) (by rw [h.len]; omega) h.wk
  rw [segL_lastN (by omega) ha, e1] at hsy
  refine hsy.mono fun e w' ⟨he, hk, hC⟩ => ⟨he, s', hk, ⟨u1.fit.up (by omega), by omega, by omega, by omega, ⟨fun i x hx => ?_, g1.sheet⟩, trivial, trivial⟩, hC⟩
  rcases snoc_get hx with ⟨h0, hx0⟩ | ⟨h0, rfl⟩
  · obtain ⟨kq, h1, h2⟩ := g1.seg i x hx
    rw [h1, h2 (by simp; omega)]
  · subst h0
    rw [d3.fk, if_pos rfl]
    simp only [hsz]
    rfl
theorem write_lim {b : ByteArray} (hN : 0 ≤ N ∧ N < 4611686018427000000) (ha : 1 ≤ a) (hb : a + cs.length + 3 ≤ 99999999) (h200 : cs.length + 3 ≤ 200) (hlim : 0 ≤ lim ∧ lim ≤ 1000000) (hc : c.size ≤ 900000) (hU : U ≤ 800000) (hL : L ≤ 800) (hb0 : 0 < b.size) (hb1 : b.size ≤ 2084)
    (hs : Bs N U L a (cs ++ [c]) 0 anyF anyF s) (h : Wk n W D M B X s lim (segL a (cs.length + 1)) (16 + (c.size : Int)) w) :
    Calls Tryz.prog 10 #[.pointer (some ⟨B, 0, none⟩), .string b] w fun x w' => ∃ p1 p2 e s', x = .returned (.tuple #[.agg #[.int .i64 p1, .int .i64 p2], .int .i64 e]) ∧ (e = 0 ∨ e = 18) ∧ Ss N L a (cs ++ [c]) s' ∧ Dk n W D M s' w' ∧ Chg [B, D, M] w w' := by
  have hlen1 := segL_len a (cs.length + 1)
  have hpos := segL_pos (a := a) (k := cs.length + 1) ha
  have hlast : lastI (segL a (cs.length + 1)) = ((a + cs.length : Nat) : Int) := by rw [segL_last a _ (by omega)]; congr 1
  have hid : idN (((a + cs.length : Nat) : Int)) = a + cs.length := idN_nat (by omega) (by omega)
  have hfit0 : s.Fit N := hs.fit.up (by omega)
  by_cases hro : 16 < 16 + (c.size : Int) ∧ lim - (b.size : Int) < 16 + (c.size : Int)
  · have hl2 : segL a (cs.length + 1) ++ [lastI (segL a (cs.length + 1)) + 1] = segL a (cs.length + 1 + 1) := by
      rw [segL_succ a (cs.length + 1), hlast]
      congr 2
    have hLs : isL (segL a (cs.length + 1) ++ [lastI (segL a (cs.length + 1)) + 1]) = true := by
      rw [hl2]
      exact isL_segL ha (by omega) (by omega) (by omega)
    have hbc := begins_cut (N := N) (U := U) (L := L) hc ha hb (by omega) (by omega) (by omega) s hs
    dsimp only at hbc
    obtain ⟨⟨e1, s1⟩, hbe⟩ : ∃ t, s.beginS (segL a (cs.length + 1)) = t := ⟨_, rfl⟩
    rw [hbe] at hbc
    rcases hbc with ⟨h1, h2⟩ | ⟨h1, h2⟩
    · simp only at h1 h2
      subst h1
      refine (write_no hfit0 (by omega) (by omega) hLs (by rw [hlast]; omega) (by omega) hlim b hb0 hb1 hpos hro hbe (by decide) h).mono ?_
      rintro x w' ⟨rfl, hk, hC⟩
      exact ⟨_, _, _, s1, rfl, .inr rfl, h2, hk.dk, hC⟩
    · simp only at h1 h2
      subst h1
      have hlast2 : lastI (segL a (cs.length + 1 + 1)) = ((a + cs.length + 1 : Nat) : Int) := by rw [segL_last a _ (by omega)]; congr 1
      have hid2 : idN (((a + cs.length + 1 : Nat) : Int)) = a + cs.length + 1 := idN_nat (by omega) (by omega)
      have hln : (cs ++ [c]).length = cs.length + 1 := by simp
      have hnew := h2.new
      rw [hln, show a + (cs.length + 1) = a + cs.length + 1 from by omega] at hnew
      obtain ⟨⟨e, s'⟩, hap⟩ : ∃ t, s1.append (nameB (a + cs.length + 1)) b = t := ⟨_, rfl⟩
      have hfa := fit_append h2.fit (nameB (a + cs.length + 1)) b
      have hao := append_o h2.fit hnew b (by have := h2.used; have := h2.room; omega)
      rw [hap] at hao hfa
      have hfin : (e = 0 ∨ e = 18) ∧ Ss N L a (cs ++ [c]) s' := by
        rcases hao with h3 | ⟨h3, u⟩
        · simp only [Prod.mk.injEq] at h3
          obtain ⟨rfl, rfl⟩ := h3
          refine ⟨.inr rfl, h2.fit.up (by omega), by have := h2.len; omega, ⟨fun i x hx => ⟨⟨#[]⟩, _, by rw [app_empty]; exact h2.seg i x hx, Int.le_refl _⟩, .inr ⟨h2.sheet, ⟨#[]⟩, 16, by rw [app_empty]; exact h2.new, Int.le_refl _⟩⟩⟩
        · simp only at h3 u
          have hu := u.len
          refine ⟨.inl h3, hfa.up (by omega), by have := h2.len; omega, ⟨fun i x hx => ⟨⟨#[]⟩, _, ?_, Int.le_refl _⟩, .inr ⟨?_, b, 16, ?_, Int.le_refl _⟩⟩⟩
          · have hi : i < cs.length + 1 := by have := (List.getElem?_eq_some_iff.1 hx).1; simpa using this
            rw [app_empty, u.fk, if_neg (nameB_ne (by omega) (by omega) (by omega))]
            exact h2.seg i x hx
          · rw [u.fk, if_neg (nameB_sheet _)]; exact h2.sheet
          · rw [hln, show a + (cs.length + 1) = a + cs.length + 1 from by omega, u.fk, if_pos rfl]
      have hw := write_roll hfit0 (by omega) (by omega) hLs (by rw [hlast]; omega) (by omega) hlim b hb0 hb1 hpos hro hbe hl2 (e := e) (s' := s') (by rw [hlast2, hid2]; exact hap) h
      refine hw.mono ?_
      rintro x w' ⟨rfl, hk, hC⟩
      rcases hfin.1 with rfl | rfl
      · exact ⟨_, _, _, s', rfl, .inl rfl, hfin.2, hk.dk, hC⟩
      · exact ⟨_, _, _, s', rfl, .inr rfl, hfin.2, hk.dk, hC⟩
  · have hbl := hs.base.seg cs.length c (get_snoc cs c)
    obtain ⟨⟨e, s'⟩, hap⟩ : ∃ t, s.append (nameB (a + cs.length)) b = t := ⟨_, rfl⟩
    have hfa := fit_append hfit0 (nameB (a + cs.length)) b
    have hao := append_o hfit0 hbl b (by have := hs.used; have := hs.room; omega)
    rw [hap] at hao hfa
    have hfin : (e = 0 ∨ e = 18) ∧ Ss N L a (cs ++ [c]) s' := by
      rcases hao with h3 | ⟨h3, u⟩
      · simp only [Prod.mk.injEq] at h3
        obtain ⟨rfl, rfl⟩ := h3
        exact ⟨.inr rfl, hs.ss (by omega)⟩
      · simp only at h3 u
        have hu := u.len
        have hsl := hs.len
        refine ⟨.inl h3, hfa.up (by omega), by omega, ⟨fun i x hx => ?_, .inl ?_⟩⟩
        · rcases snoc_get hx with ⟨h0, hx0⟩ | ⟨h0, rfl⟩
          · exact ⟨⟨#[]⟩, _, by rw [app_empty, u.fk, if_neg (nameB_ne (by omega) (by omega) (by omega))]; exact hs.base.seg i x hx, Int.le_refl _⟩
          · subst h0
            exact ⟨b, _, by rw [u.fk, if_pos rfl], Int.le_refl _⟩
        · rw [u.fk, if_neg (nameB_sheet _)]; exact hs.base.sheet
    have hw := write_in hfit0 (by omega) (by omega) (by omega) (by omega) hlim b hb0 hb1 hpos hro (e := e) (s' := s') (by rw [hlast, hid]; exact hap) h
    refine hw.mono ?_
    rintro x w' ⟨rfl, hk, hC⟩
    rcases hfin.1 with rfl | rfl
    · exact ⟨_, _, _, s', rfl, .inl rfl, hfin.2, hk.dk, hC⟩
    · exact ⟨_, _, _, s', rfl, .inr rfl, hfin.2, hk.dk, hC⟩
end
end Go.Proofs.YtoaegleieacokaaGreat
