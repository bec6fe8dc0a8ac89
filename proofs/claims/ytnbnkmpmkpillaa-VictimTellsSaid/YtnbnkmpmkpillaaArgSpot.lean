/- How a slice of spots that came in reads. -/
import Derived.Test.YtnbnkmpmkpillaaArgs
import Derived.Test.YtnbnkmpmkpillaaLiveIn
namespace Go.Proofs.Ytnbnkmpmkpillaa
open Go.ChangeShapes Go.WideShapes Go.ChangeAt Go.RowKit
variable {H : Type} {enc : TypeId × Value → H} {W : World}
theorem dec_spot : ∀ n cs (y : DataW H × List MemPlace), DataW.trod enc Try.prog W 0 (fun _ => true) true n 33 cs = some y → ∃ x : Spot, cs = x.cells ∧ True := fun n cs y h => by
  obtain ⟨xs, m, _, _, hl, hx, hf⟩ := DataW.trod_struct Try.underlying33 h
  rw [show Try.prog.cellsOf 33 = 4 from by kernel_rfl] at hl
  match cs, hl with
  | [c0, c1, c2, c3], _ =>
    match xs, hx with
    | [x0, x1, x2], _ =>
      have h0 := hf 0 _ rfl
      have h1 := hf 1 _ rfl
      have h2 := hf 2 _ rfl
      simp only [List.getElem_toArray, List.getElem_cons_zero, List.getElem_cons_succ] at h0 h1 h2
      rw [show Try.prog.cellsOf 3 = 1 from by kernel_rfl] at h0 h1
      rw [show Try.prog.cellsOf 31 = 2 from by kernel_rfl] at h2
      simp only [List.drop_zero, List.drop_succ_cons, List.take_succ_cons, List.take_zero] at h0 h1 h2
      obtain ⟨g, e0, _, _⟩ := DataW.trod_int Try.underlying3 h0
      obtain ⟨i, e1, _, _⟩ := DataW.trod_int Try.underlying3 h1
      obtain ⟨ys, m', _, _, hl', hx', hf'⟩ := DataW.trod_struct Try.underlying31 h2
      match ys, hx' with
      | [y0, y1], _ =>
        have h3 := hf' 0 _ rfl
        have h4 := hf' 1 _ rfl
        simp only [List.getElem_toArray, List.getElem_cons_zero, List.getElem_cons_succ] at h3 h4
        rw [show Try.prog.cellsOf 3 = 1 from by kernel_rfl] at h3 h4
        simp only [List.drop_zero, List.drop_succ_cons, List.take_succ_cons, List.take_zero] at h3 h4
        obtain ⟨s, e3, _, _⟩ := DataW.trod_int Try.underlying3 h3
        obtain ⟨a, e4, _, _⟩ := DataW.trod_int Try.underlying3 h4
        simp only [List.cons.injEq, and_true] at e0 e1 e3 e4
        subst e0 e1 e3 e4
        exact ⟨⟨g, i, s, a⟩, rfl, trivial⟩
theorem open_spots {a : Option Addr} {len cap : Nat} {d : DataW H} {p : List MemPlace} (h : DataW.Trod enc Try.prog W 0 (fun _ => true) true 22 (.slice a len cap) d p) :
    ∃ l : List Spot, l.length = len ∧ Rd W W.heap.size 4 (.slice a len cap) len (cellsOf l) ∧ cap ≤ maxLen ∧ ∀ x ∈ l, True :=
  open_rd (f := Spot.cells) (good := fun _ => True) (fun _ => rfl) (by omega) Try.underlying22 (by kernel_rfl) dec_spot h
theorem open_int64s {a : Option Addr} {len cap : Nat} {d : DataW H} {p : List MemPlace} (h : DataW.Trod enc Try.prog W 0 (fun _ => true) true 23 (.slice a len cap) d p) :
    ∃ l : List Int, l.length = len ∧ Rd W W.heap.size 1 (.slice a len cap) len (l.map (Value.int .i64)) ∧ cap ≤ maxLen ∧ ∀ x ∈ l, (Lit.int .i64 x).wf = true := open_nums Try.underlying23 Try.underlying3 (by kernel_rfl) h
end Go.Proofs.Ytnbnkmpmkpillaa
