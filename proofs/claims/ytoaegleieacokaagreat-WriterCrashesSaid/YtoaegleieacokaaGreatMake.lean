/- writer.Make. -/
import Derived.Test.YtoaegleieacokaaGreatMade
import Derived.Deep.CutRange
import Derived.Deep.DeepCutAuto
namespace Go.Proofs.YtoaegleieacokaaGreat
open Go.RowKit Go.Shelf

def limN (limit : Int) : Int := min (max limit 2100) 100000
theorem wheld_calls (limit : Int) (w : World) : Calls Tryz.prog 25 #[.int .i64 limit] w fun e w' => e = .returned (.int .i64 (limN limit)) ∧ w' = w := by
  go_enter Tryz.func25, Tryz.ntmps25
  go_wp2
  go_ret
  exact ⟨rfl, rfl⟩
/-- The slice v reads as the numbers l; it lies in none of the blocks X. -/
def Rx (w : World) (X : List Nat) (v : Value) (l : List Int) : Prop :=
  ∃ a c, v = .slice a l.length c ∧ l.length ≤ c ∧ (0 < l.length → ∃ b off, a = some ⟨b, off, none⟩ ∧ b < w.heap.size ∧ b ∉ X ∧ ∀ j (hj : j < l.length), w.cell? ⟨b, off + j, none⟩ = some (.int .i64 l[j]))
theorem Rx.chg {w w' : World} {X bs : List Nat} {v : Value} {l : List Int} (h : Rx w X v l) (hc : Chg bs w w') (hs : ∀ b ∈ bs, b ∈ X) : Rx w' X v l := by
  obtain ⟨a, c, rfl, hl, h⟩ := h
  refine ⟨a, c, rfl, hl, fun h0 => ?_⟩
  obtain ⟨b, off, rfl, hb, hX, hcs⟩ := h h0
  exact ⟨b, off, rfl, Nat.lt_of_lt_of_le hb hc.size, hX, fun j hj => hc.cell (fun hm => hX (hs b hm)) hb (hcs j hj)⟩
theorem Rx.sub {w : World} {X Y : List Nat} {v : Value} {l : List Int} (h : Rx w X v l) (hs : ∀ b ∈ Y, b ∈ X) : Rx w Y v l := by
  obtain ⟨a, c, rfl, hl, h⟩ := h
  refine ⟨a, c, rfl, hl, fun h0 => ?_⟩
  obtain ⟨b, off, rfl, hb, hX, hcs⟩ := h h0
  exact ⟨b, off, rfl, hb, fun hm => hX (hs b hm), hcs⟩
theorem Rx.ints {w : World} {X : List Nat} {v : Value} {l : List Int} (h : Rx w X v l) : Ints w w.heap.size v l := by
  obtain ⟨a, c, rfl, hl, h⟩ := h
  refine ⟨by simp, a, c, rfl, hl, fun h0 => ?_⟩
  obtain ⟨b, off, rfl, hb, hX, hcs⟩ := h h0
  exact ⟨b, off, rfl, hb, fun j hj => by rw [hcs j (by omega)]; simp [show j < l.length by omega]⟩
theorem Rx.of_ints {w : World} {X : List Nat} {m : Nat} {v : Value} {l : List Int} (h : Ints w m v l) (hX : ∀ (b off : Nat) (n c : Nat), v = .slice (some ⟨b, off, none⟩) n c → b ∉ X) (hm : m ≤ w.heap.size) : Rx w X v l := by
  obtain ⟨_, a, c, rfl, hl, h⟩ := h
  refine ⟨a, c, rfl, hl, fun h0 => ?_⟩
  obtain ⟨b, off, rfl, hb, hcs⟩ := h h0
  exact ⟨b, off, rfl, by omega, hX b off _ _ rfl, fun j hj => by rw [hcs j (by omega)]; simp [hj]⟩
theorem Rx.of_owns {w : World} {X : List Nat} {base : Nat} {e : TypeId} {v : Value} {l : List Int} (h : w.ownsRow base e 1 v l.length (l.map (Value.int .i64))) (hX : ∀ b ∈ X, b < base) : Rx w X v l := by
  refine Rx.of_ints (Ints.of_owns h) (fun b off n c hv hm => ?_) (Nat.le_refl _)
  have := (h.lt b (by rw [hv]; rfl)).1
  have := hX b hm
  omega
/-- A writer at B of the disk at D, M; the disk's state is s. -/
structure Wk (n : Nat) (W : World) (D M B : Nat) (X : List Nat) (s : DS) (lim : Int) (l : List Int) (size : Int) (w : World) : Prop where
  dk : Dk n W D M s w
  hB : n ≤ B
  ne : B ≠ D ∧ B ≠ M
  hX : ∀ b ∈ X, b < w.heap.size
  wr : ∃ v, Blk w B 69 #[.pointer (some ⟨D, 0, none⟩), .int .i64 lim, v, .int .i64 size] ∧ Rx w (B :: D :: M :: X) v l
theorem Wk.old {n : Nat} {W : World} {D M B : Nat} {X : List Nat} {s : DS} {lim : Int} {l : List Int} {size : Int} {w w' : World} (h : Wk n W D M B X s lim l size w) (hs : w.heap.size ≤ w'.heap.size) : ∀ b ∈ X, b < w'.heap.size := fun b hb => Nat.lt_of_lt_of_le (h.hX b hb) hs
theorem Wk.disk {n : Nat} {W : World} {D M B : Nat} {X : List Nat} {s s' : DS} {lim : Int} {l : List Int} {size : Int} {w w' : World} (h : Wk n W D M B X s lim l size w) (hd : Dk n W D M s' w') (hc : Chg [D, M] w w') : Wk n W D M B X s' lim l size w' := by
  obtain ⟨v, h1, h2⟩ := h.wr
  exact ⟨hd, h.hB, h.ne, h.old hc.size, v, (hc.block B h1.lt (by simp; exact h.ne)).trans h1, h2.chg hc (by simp)⟩
theorem Wk.next {n : Nat} {W : World} {D M B : Nat} {X : List Nat} {s : DS} {lim : Int} {l : List Int} {size : Int} {w w' : World} (h : Wk n W D M B X s lim l size w) (hb : Below w.heap.size w w') : Wk n W D M B X s lim l size w' := h.disk (h.dk.next hb) (Chg.of_below hb)
theorem Wk.lt {n : Nat} {W : World} {D M B : Nat} {X : List Nat} {s : DS} {lim : Int} {l : List Int} {size : Int} {w : World} (h : Wk n W D M B X s lim l size w) : B < w.heap.size := by obtain ⟨v, h1, _⟩ := h.wr; exact h1.lt
def sheetB (l : List Int) : ByteArray := ⟨(bytesL l).toArray⟩
/-- What Make does with a disk. -/
def DS.mk' (s : DS) : Int × DS := andThen (s.made 1) (fun s => s.save (sheetB [1]))
def makeF (x : Fin 2) (s : DS) : Int × DS := match x.val with | 0 => s.made 1 | _ => s.save (sheetB [1])
theorem makeF_run (s : DS) : runP makeF (List.finRange 2) s = s.mk' := rfl
theorem makeF_fit (x : Fin 2) (s : DS) (N : Int) (h : s.Fit N) : (makeF x s).2.Fit (N + 8) := by
  unfold makeF
  split
  · exact (fit_made h _).up (by omega)
  · exact (fit_save h _).up (by omega)
theorem fit_mk {N : Int} {s : DS} (h : s.Fit N) : s.mk'.2.Fit (N + 16) := (runP_fit makeF_fit h (List.finRange 2)).up (by simp)
section
variable {n : Nat} {W : World} {D M : Nat} {X : List Nat} {s : DS} {w : World}
/-- What Make has laid ahead of its steps: a slice, a writer, a variable that holds its address. -/
structure MkMid (w1 : World) (D : Nat) (lim : Int) (Bp Bw Bs : Nat) (wx : World) : Prop where
  below : Below w1.heap.size w1 wx
  slc : Blk wx Bs 3 #[.int .i64 1]
  wr : Blk wx Bw 69 #[.pointer (some ⟨D, 0, none⟩), .int .i64 lim, .slice (some ⟨Bs, 0, none⟩) 1 1, .int .i64 16]
  ptr : Boxed wx Bp 27 (.pointer (some ⟨Bw, 0, none⟩))
  lo : w1.heap.size ≤ Bs ∧ w1.heap.size ≤ Bw ∧ w1.heap.size ≤ Bp
theorem midA (w1 : World) (D : Nat) (lim : Int) : MkMid w1 D lim (w1.heap.size + 1 + 1) (w1.heap.size + 1) w1.heap.size (((w1.alloc (.cells #[.int .i64 1] 3)).alloc (.cells #[.pointer (some ⟨D, 0, none⟩), .int .i64 lim, .slice (some ⟨w1.heap.size, 0, none⟩) 1 1, .int .i64 16] 69)).alloc (.cells #[.pointer (some ⟨w1.heap.size + 1, 0, none⟩)] 27)).drew := by
  have h1 := Blk.new w1 3 #[.int .i64 1]
  have h2 := Blk.new (w1.alloc (.cells #[.int .i64 1] 3)) 69 #[.pointer (some ⟨D, 0, none⟩), .int .i64 lim, .slice (some ⟨w1.heap.size, 0, none⟩) 1 1, .int .i64 16]
  have h3 := Boxed.new ((w1.alloc (.cells #[.int .i64 1] 3)).alloc (.cells #[.pointer (some ⟨D, 0, none⟩), .int .i64 lim, .slice (some ⟨w1.heap.size, 0, none⟩) 1 1, .int .i64 16] 69)) 27 (.pointer (some ⟨w1.heap.size + 1, 0, none⟩))
  simp only [World.size_alloc] at h2 h3
  exact ⟨((((Below.refl _ w1).alloc (Nat.le_refl _) _).alloc (by simp) _).alloc (by simp; omega) _).drew, (h1.alloc _).alloc _, h2.alloc _, h3, by omega⟩
theorem midB (w1 : World) (D : Nat) (lim : Int) : MkMid w1 D lim (w1.heap.size + 1) (w1.heap.size + 1 + 1) w1.heap.size (((w1.alloc (.cells #[.int .i64 1] 3)).alloc (.cells #[.pointer (some ⟨w1.heap.size + 1 + 1, 0, none⟩)] 27)).alloc (.cells #[.pointer (some ⟨D, 0, none⟩), .int .i64 lim, .slice (some ⟨w1.heap.size, 0, none⟩) 1 1, .int .i64 16] 69)).drew := by
  have h1 := Blk.new w1 3 #[.int .i64 1]
  have h3 := Boxed.new (w1.alloc (.cells #[.int .i64 1] 3)) 27 (.pointer (some ⟨w1.heap.size + 1 + 1, 0, none⟩))
  have h2 := Blk.new ((w1.alloc (.cells #[.int .i64 1] 3)).alloc (.cells #[.pointer (some ⟨w1.heap.size + 1 + 1, 0, none⟩)] 27)) 69 #[.pointer (some ⟨D, 0, none⟩), .int .i64 lim, .slice (some ⟨w1.heap.size, 0, none⟩) 1 1, .int .i64 16]
  simp only [World.size_alloc] at h2 h3
  exact ⟨((((Below.refl _ w1).alloc (Nat.le_refl _) _).alloc (by simp) _).alloc (by simp; omega) _).drew, (h1.alloc _).alloc _, h2, h3.alloc _, by omega⟩
theorem midC (w1 : World) (D : Nat) (lim : Int) : MkMid w1 D lim w1.heap.size (w1.heap.size + 1 + 1) (w1.heap.size + 1) (((w1.alloc (.cells #[.pointer (some ⟨w1.heap.size + 1 + 1, 0, none⟩)] 27)).alloc (.cells #[.int .i64 1] 3)).alloc (.cells #[.pointer (some ⟨D, 0, none⟩), .int .i64 lim, .slice (some ⟨w1.heap.size + 1, 0, none⟩) 1 1, .int .i64 16] 69)).drew := by
  have h3 := Boxed.new w1 27 (.pointer (some ⟨w1.heap.size + 1 + 1, 0, none⟩))
  have h1 := Blk.new (w1.alloc (.cells #[.pointer (some ⟨w1.heap.size + 1 + 1, 0, none⟩)] 27)) 3 #[.int .i64 1]
  have h2 := Blk.new ((w1.alloc (.cells #[.pointer (some ⟨w1.heap.size + 1 + 1, 0, none⟩)] 27)).alloc (.cells #[.int .i64 1] 3)) 69 #[.pointer (some ⟨D, 0, none⟩), .int .i64 lim, .slice (some ⟨w1.heap.size + 1, 0, none⟩) 1 1, .int .i64 16]
  simp only [World.size_alloc] at h1 h2
  exact ⟨((((Below.refl _ w1).alloc (Nat.le_refl _) _).alloc (by simp) _).alloc (by simp; omega) _).drew, h1.alloc _, h2, (h3.alloc _).alloc _, by omega⟩
theorem kclo1_dk {N : Int} (hf : s.Fit N) (hN : N < 4611686018427370000) {Bd : Nat} (hb : Boxed w Bd 25 (.pointer (some ⟨D, 0, none⟩))) (h : Dk n W D M s w) : Calls Tryz.prog 27 #[.pointer (some ⟨Bd, 0, none⟩)] w fun e w' => e = .returned (.int .i64 (s.made 1).1) ∧ Dk n W D M (s.made 1).2 w' ∧ Chg [D, M] w w' := by
  have hc := hb.cell
  have hmd := made_dk hf hN 1 h
  rw [show idN 1 = 1 from rfl] at hmd
  go_enter Tryz.func27, Tryz.ntmps27
  go_wp2_with fail
  refine hmd.mono ?_
  clear hmd
  rintro x w1 ⟨rfl, h1, hC⟩
  go_wp2
  go_ret
  exact ⟨rfl, h1, hC⟩
set_option maxRecDepth 100000 in
set_option maxHeartbeats 1000000 in
theorem kclo2_dk {N : Int} (hf : s.Fit N) (hN : N < 4611686018427370000) {Bd Bp Bw : Nat} {lim size : Int} {l : List Int} (hl : isL l = true) {v : Value} (hb : Boxed w Bd 25 (.pointer (some ⟨D, 0, none⟩))) (hp : Boxed w Bp 27 (.pointer (some ⟨Bw, 0, none⟩)))
    (hw : Blk w Bw 69 #[.pointer (some ⟨D, 0, none⟩), .int .i64 lim, v, .int .i64 size]) (hv : Ints w w.heap.size v l) (h : Dk n W D M s w) : Calls Tryz.prog 29 #[.pointer (some ⟨Bd, 0, none⟩), .pointer (some ⟨Bp, 0, none⟩)] w fun e w' => e = .returned (.int .i64 (s.save (sheetB l)).1) ∧ Dk n W D M (s.save (sheetB l)).2 w' ∧ Chg [D, M] w w' := by
  obtain ⟨a, c, rfl⟩ := Rd.val hv
  have q1 : w.drew.cell? ⟨Bd, 0, none⟩ = some (.pointer (some ⟨D, 0, none⟩)) := hb.cell
  have q2 : w.drew.cell? ⟨Bp, 0, none⟩ = some (.pointer (some ⟨Bw, 0, none⟩)) := hp.cell
  have q3 : w.drew.cell? ⟨Bw, 2, none⟩ = some (.slice a l.length c) := hw.cell 2
  have hdr : Below w.heap.size w w.drew := (Below.refl _ w).drew
  have d1 := box_aside hb h.at'
  have d2 := box_aside hp h.at'
  have d3 := blk_aside hw (by decide) h.at'
  have d3' : Bw ∉ [D, M] := by simp; exact d3
  have l1 := hb.lt
  have l2 := hp.lt
  have l3 := hw.lt
  have hsv := save_dk hf hN a c l hl ((hv.below hdr (Nat.le_refl _)).up hdr.size) (h.next hdr)
  rw [show (⟨(bytesL l).toArray⟩ : ByteArray) = sheetB l from rfl] at hsv
  generalize sheetB l = H at *
  go_enter Tryz.func29, Tryz.ntmps29
  go_wp2_with fail
  go_region_held3 (fun w' => w'.cell? ⟨Bd, 0, none⟩ = some (.pointer (some ⟨D, 0, none⟩)) ∧ w'.cell? ⟨Bp, 0, none⟩ = some (.pointer (some ⟨Bw, 0, none⟩)) ∧ w'.cell? ⟨Bw, 2, none⟩ = some (.slice a l.length c))
    (first | exact ⟨q1, q2, q3⟩ | exact ⟨hC6.cell d1 l1 q1, hC6.cell d2 l2 q2, hC6.cell d3' l3 q3⟩)
    (first | (go_at_call 30; refine hsv.mono ?_; clear hsv; rintro e w6 ⟨rfl, h6, hC⟩; have hC6 := (Chg.of_below (bs := [D, M]) hdr).trans hC))
  go_wp2
  go_ret
  exact ⟨rfl, h6, hC6⟩
theorem make_all {N : Int} (hf : s.Fit N) (hN : N < 4611686018427360000) {Bd Bp Bw Bs bs : Nat} {lim size : Int} (b0 : Boxed w Bd 25 (.pointer (some ⟨D, 0, none⟩))) (b1 : Boxed w Bp 27 (.pointer (some ⟨Bw, 0, none⟩)))
    (bw : Blk w Bw 69 #[.pointer (some ⟨D, 0, none⟩), .int .i64 lim, .slice (some ⟨Bs, 0, none⟩) 1 1, .int .i64 size]) (bi : Blk w Bs 3 #[.int .i64 1])
    (bS : Blk w bs 44 #[.func (.func 27) #[] #[.pointer (some ⟨Bd, 0, none⟩)], .func (.func 29) #[] #[.pointer (some ⟨Bd, 0, none⟩), .pointer (some ⟨Bp, 0, none⟩)]]) (h : Dk n W D M s w) :
    Calls Tryz.prog 26 #[.slice (some ⟨bs, 0, none⟩) 2 2] w fun e w' => e = .returned (.int .i64 s.mk'.1) ∧ Dk n W D M s.mk'.2 w' ∧ Chg [D, M] w w' := by
  have d0 := box_aside b0 h.at'
  have d1 := box_aside b1 h.at'
  have d2 : Bw ∉ [D, M] := by simp; exact blk_aside bw (by decide) h.at'
  have d3 : Bs ∉ [D, M] := by simp; exact blk_aside bi (by decide) h.at'
  have hall := all_steps (n := n) (W0 := W) (D := D) (M := M) [⟨27, #[], #[.pointer (some ⟨Bd, 0, none⟩)]⟩, ⟨29, #[], #[.pointer (some ⟨Bd, 0, none⟩), .pointer (some ⟨Bp, 0, none⟩)]⟩] (by simp) makeF bs 2 w bS.lt (blk_aside bS (by decide) h.at')
    (fun k hk => by
      have hk4 : k < 2 := hk
      rw [bS.cell]
      match k, hk4 with
      | 0, _ => rfl
      | 1, _ => rfl)
    (fun x => by
      match x with
      | ⟨0, _⟩ => exact enters_of Tryz.func27 (by kernel_rfl) rfl
      | ⟨1, _⟩ => exact enters_of Tryz.func29 (by kernel_rfl) rfl)
    makeF_fit hf (K := 4611686018427370000) (by omega)
    (fun x A t N' hch hd hft hN' => by
      match x with
      | ⟨0, _⟩ => exact kclo1_dk hft hN' (boxed_chg b0 hch d0) hd
      | ⟨1, _⟩ =>
        have hbi : Blk A Bs 3 #[.int .i64 1] := (hch.block Bs bi.lt d3).trans bi
        exact kclo2_dk (l := [1]) hft hN' (by rfl) (boxed_chg b0 hch d0) (boxed_chg b1 hch d1) ((hch.block Bw bw.lt d2).trans bw) ⟨rfl, _, _, rfl, Nat.le_refl _, fun _ => ⟨Bs, 0, rfl, hbi.lt, fun j hj => by
          rw [Nat.zero_add, hbi.cell]
          match j, hj with
          | 0, _ => rfl⟩⟩ hd) h
  exact hall
set_option maxRecDepth 100000 in
set_option maxHeartbeats 2000000 in
theorem make_dk {N : Int} (hf : s.Fit N) (hN : N < 4611686018427360000) (limit : Int) {s' : DS} (hr : s.mk' = (0, s')) (hX : ∀ b ∈ X, b < w.heap.size) (h : Dk n W D M s w) : Calls Tryz.prog 8 #[.pointer (some ⟨D, 0, none⟩), .int .i64 limit] w fun e w' => ∃ B, e = .returned (.tuple #[.pointer (some ⟨B, 0, none⟩), .int .i64 0]) ∧ Wk n W D M B X s' (limN limit) [1] 16 w' := by
  have HR := Lib.hid hr
  clear hr
  go_enter Tryz.func8, Tryz.ntmps8
  go_wp2_with fail
  have b0 := Boxed.new w 25 (.pointer (some ⟨D, 0, none⟩))
  have hB0 : Below w.heap.size w (w.alloc (.cells #[.pointer (some ⟨D, 0, none⟩)] 25)) := (Below.refl _ w).alloc (Nat.le_refl _) _
  have h0 := h.next hB0
  generalize w.alloc (.cells #[.pointer (some ⟨D, 0, none⟩)] 25) = w1 at *
  have hc0 := b0.cell
  have hl0 := b0.lt
  have q1 : w1.drew.cell? ⟨w.heap.size, 0, none⟩ = some (.pointer (some ⟨D, 0, none⟩)) := hc0
  have hnew := World.new_ne w1 ⟨w.heap.size, 0, none⟩ hc0
  go_cut [6] from 8 to 13 (fun s6 wx => ∃ Bp Bw Bs, s6 = .pointer (some ⟨Bp, 0, none⟩) ∧ MkMid w1 D (limN limit) Bp Bw Bs wx)
  case first =>
    go_region_held3 (fun w' => w'.cell? ⟨w.heap.size, 0, none⟩ = some (.pointer (some ⟨D, 0, none⟩)))
      (first | exact q1 | (show World.cell? (World.alloc _ _) _ = _; refine (World.cell?_alloc_lt _ _ _ (by simp; omega)).trans ?_; refine (World.cell?_alloc_lt _ _ _ (by simp; omega)).trans ?_; refine (World.cell?_alloc_lt _ _ _ (by simp; omega)).trans ?_; exact hc0) | (show World.cell? (World.alloc _ _) _ = _; refine (World.cell?_alloc_lt _ _ _ (by simp; omega)).trans ?_; refine (World.cell?_alloc_lt _ _ _ (by simp; omega)).trans ?_; exact hc0) | (show World.cell? (World.alloc _ _) _ = _; refine (World.cell?_alloc_lt _ _ _ (by simp; omega)).trans ?_; exact hc0) | go_keep)
      (first | (go_at_call 25; refine (wheld_calls limit _).mono ?_; rintro e w5 ⟨rfl, rfl⟩))
    all_goals
      go_wp2_with fail
      go_meet
      first | exact ⟨_, _, _, rfl, midA w1 D _⟩ | exact ⟨_, _, _, rfl, midB w1 D _⟩ | exact ⟨_, _, _, rfl, midC w1 D _⟩
  case rest =>
    obtain ⟨Bp, Bw, Bs, rfl, hmid⟩ := hcut
    have hn := h0.size
    have hDl := h0.at'.blk.lt
    have hMl := h0.at'.map.lt
    obtain ⟨m1, m2, m3, m4, m5, m6, m7⟩ := hmid
    have hB1 : Below wc.heap.size wc (wc.alloc (.cells #[.func (.func 27) #[] #[.pointer (some ⟨w.heap.size, 0, none⟩)], .func (.func 29) #[] #[.pointer (some ⟨w.heap.size, 0, none⟩), .pointer (some ⟨Bp, 0, none⟩)]] 44)) := (Below.refl _ wc).alloc (Nat.le_refl _) _
    have bS := Blk.new wc 44 #[.func (.func 27) #[] #[.pointer (some ⟨w.heap.size, 0, none⟩)], .func (.func 29) #[] #[.pointer (some ⟨w.heap.size, 0, none⟩), .pointer (some ⟨Bp, 0, none⟩)]]
    have b0' := boxed_below (boxed_below b0 m1 hl0) hB1 (Nat.lt_of_lt_of_le hl0 m1.size)
    have hall := make_all hf hN b0' (boxed_below m4 hB1 m4.lt) (m3.below hB1 m3.lt) (m2.below hB1 m2.lt) bS ((h0.next m1).next hB1)
    rw [HR.out] at hall
    have m2' := m2.below hB1 m2.lt
    have m3' := m3.below hB1 m3.lt
    have m4' := boxed_below m4 hB1 m4.lt
    have d1 := box_aside m4' ((h0.next m1).next hB1).at'
    have d2 := blk_aside m3' (by decide) ((h0.next m1).next hB1).at'
    have d3 := blk_aside m2' (by decide) ((h0.next m1).next hB1).at'
    have d4 : Bs ≠ Bw := fun e => by subst e; have := m2.symm.trans m3; simp at this
    have hsz0 := hB0.size
    clear b0 b0' hc0 q1 hnew hB0 hB1 bS m2 m3 m4
    go_wp2_with fail
    refine hall.mono ?_
    clear hall
    rintro e w5 ⟨rfl, h5, hC5⟩
    have m3'' : Blk w5 Bw 69 _ := (hC5.block Bw m3'.lt (by simp; exact d2)).trans m3'
    have m2'' : Blk w5 Bs 3 _ := (hC5.block Bs m2'.lt (by simp; exact d3)).trans m2'
    have hcp := (boxed_chg m4' hC5 d1).cell
    clear m2' m3' m4' hC5
    go_wp2
    go_ret2
    refine ⟨Bw, rfl, h5, by omega, d2, fun y hy => by have := hX y hy; have := m2''.lt; omega, _, m3'', _, _, rfl, Nat.le_refl _, fun _ => ⟨Bs, 0, rfl, m2''.lt, ?_, fun j hj => ?_⟩⟩
    · simp only [List.mem_cons, not_or]
      exact ⟨d4, d3.1, d3.2, fun hm => by have := hX _ hm; omega⟩
    · rw [Nat.zero_add, m2''.cell]
      match j, hj with
      | 0, _ => rfl
end
end Go.Proofs.YtoaegleieacokaaGreat
