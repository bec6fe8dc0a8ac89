/- How a slice of steps, and one of files, that came in reads. -/
import Derived.Test.YtoaegleieacokaaArgs
import Derived.Test.YtoaegleieacokaaDoes
namespace Go.Proofs.Ytoaegleieacokaa
open Go.ChangeShapes Go.WideShapes Go.ChangeAt Go.RowKit
variable {H : Type} {enc : TypeId × Value → H} {W : World}
def St.Good (t : St) : Prop := t.n ≤ 9223372036854775807 ∧ 0 ≤ t.keep ∧ t.keep < 18446744073709551616
theorem wf_n {a : Int} (h : (Lit.int .i64 a).wf = true) : a ≤ 9223372036854775807 := by
  simp [Lit.wf, IntKind.min, IntKind.max, IntKind.bits, IntKind.signed] at h
  omega
set_option maxRecDepth 100000 in
theorem dec_step : ∀ n cs (y : DataW H × List MemPlace), DataW.trod enc Try.prog W 0 (fun _ => true) true n 71 cs = some y → ∃ x : St, cs = x.cells ∧ x.Good := fun n cs y h => by
  obtain ⟨xs, m, _, _, hl, hx, hf⟩ := DataW.trod_struct Try.underlying71 h
  rw [show Try.prog.cellsOf 71 = 6 from by kernel_rfl] at hl
  match cs, hl with
  | [c0, c1, c2, c3, c4, c5], _ =>
    match xs, hx with
    | [x0, x1, x2, x3, x4, x5], _ =>
      have h0 := hf 0 _ rfl
      have h1 := hf 1 _ rfl
      have h2 := hf 2 _ rfl
      have h3 := hf 3 _ rfl
      have h4 := hf 4 _ rfl
      have h5 := hf 5 _ rfl
      simp only [List.getElem_toArray, List.getElem_cons_zero, List.getElem_cons_succ] at h0 h1 h2 h3 h4 h5
      rw [show Try.prog.cellsOf 3 = 1 from by kernel_rfl] at h0 h1
      rw [show Try.prog.cellsOf 9 = 1 from by kernel_rfl] at h2 h3 h4
      rw [show Try.prog.cellsOf 69 = 1 from by kernel_rfl] at h5
      simp only [List.drop_zero, List.drop_succ_cons, List.take_succ_cons, List.take_zero] at h0 h1 h2 h3 h4 h5
      obtain ⟨a, e0, _, _⟩ := DataW.trod_int Try.underlying3 h0
      obtain ⟨b, e1, _, g1⟩ := DataW.trod_int Try.underlying3 h1
      obtain ⟨c, e2, _, _⟩ := DataW.trod_string Try.underlying9 h2
      obtain ⟨d, e3, _, _⟩ := DataW.trod_string Try.underlying9 h3
      obtain ⟨f, e4, _, _⟩ := DataW.trod_string Try.underlying9 h4
      obtain ⟨g, e5, _, g5⟩ := DataW.trod_int Try.underlying69 h5
      simp only [List.cons.injEq, and_true] at e0 e1 e2 e3 e4 e5
      subst e0 e1 e2 e3 e4 e5
      exact ⟨⟨a, b, c, d, f, g⟩, rfl, wf_n g1, wf_u64 g5⟩
theorem open_steps {a : Option Addr} {len cap : Nat} {d : DataW H} {p : List MemPlace} (h : DataW.Trod enc Try.prog W 0 (fun _ => true) true 63 (.slice a len cap) d p) :
    ∃ l : List St, l.length = len ∧ Rd W W.heap.size 6 (.slice a len cap) len (l.flatMap St.cells) ∧ cap ≤ maxLen ∧ ∀ x ∈ l, x.Good :=
  open_rd (f := St.cells) (good := St.Good) (fun _ => rfl) (by omega) Try.underlying63 (by kernel_rfl) dec_step h
set_option maxRecDepth 100000 in
theorem dec_file : ∀ n cs (y : DataW H × List MemPlace), DataW.trod enc Try.prog W 0 (fun _ => true) true n 65 cs = some y → ∃ x : ByteArray × F, cs = fileCells x.1 x.2 ∧ True := fun n cs y h => by
  obtain ⟨xs, m, _, _, hl, hx, hf⟩ := DataW.trod_struct Try.underlying65 h
  rw [show Try.prog.cellsOf 65 = 3 from by kernel_rfl] at hl
  match cs, hl with
  | [c0, c1, c2], _ =>
    match xs, hx with
    | [x0, x1, x2], _ =>
      have h0 := hf 0 _ rfl
      have h1 := hf 1 _ rfl
      have h2 := hf 2 _ rfl
      simp only [List.getElem_toArray, List.getElem_cons_zero, List.getElem_cons_succ] at h0 h1 h2
      rw [show Try.prog.cellsOf 9 = 1 from by kernel_rfl] at h0 h1
      rw [show Try.prog.cellsOf 3 = 1 from by kernel_rfl] at h2
      simp only [List.drop_zero, List.drop_succ_cons, List.take_succ_cons, List.take_zero] at h0 h1 h2
      obtain ⟨a, e0, _, _⟩ := DataW.trod_string Try.underlying9 h0
      obtain ⟨b, e1, _, _⟩ := DataW.trod_string Try.underlying9 h1
      obtain ⟨c, e2, _, _⟩ := DataW.trod_int Try.underlying3 h2
      simp only [List.cons.injEq, and_true] at e0 e1 e2
      subst e0 e1 e2
      exact ⟨(a, ⟨b, c⟩), rfl, trivial⟩
theorem open_files {a : Option Addr} {len cap : Nat} {d : DataW H} {p : List MemPlace} (h : DataW.Trod enc Try.prog W 0 (fun _ => true) true 62 (.slice a len cap) d p) :
    ∃ l : List (ByteArray × F), l.length = len ∧ Rd W W.heap.size 3 (.slice a len cap) len (filesCells l) ∧ cap ≤ maxLen ∧ ∀ x ∈ l, True :=
  open_rd (f := fun x : ByteArray × F => fileCells x.1 x.2) (good := fun _ => True) (fun _ => rfl) (by omega) Try.underlying62 (by kernel_rfl) dec_file h

/-- The cells of a step. -/
structure StepAt (w : World) (b o : Nat) (t : St) : Prop where
  d0 : w.cell? ⟨b, o, none⟩ = some (.int .i64 t.what)
  d1 : w.cell? ⟨b, o + 1, none⟩ = some (.int .i64 t.n)
  d2 : w.cell? ⟨b, o + 2, none⟩ = some (.string t.name)
  d3 : w.cell? ⟨b, o + 3, none⟩ = some (.string t.to)
  d4 : w.cell? ⟨b, o + 4, none⟩ = some (.string t.b)
  d5 : w.cell? ⟨b, o + 5, none⟩ = some (.int .u64 t.keep)
theorem StepAt.below {w w' : World} {n b o : Nat} {t : St} (h : StepAt w b o t) (hb : Below n w w') (hn : b < n) : StepAt w' b o t :=
  ⟨(hb.cell (p := ⟨b, o, none⟩) hn).trans h.d0, (hb.cell (p := ⟨b, o + 1, none⟩) hn).trans h.d1, (hb.cell (p := ⟨b, o + 2, none⟩) hn).trans h.d2, (hb.cell (p := ⟨b, o + 3, none⟩) hn).trans h.d3, (hb.cell (p := ⟨b, o + 4, none⟩) hn).trans h.d4, (hb.cell (p := ⟨b, o + 5, none⟩) hn).trans h.d5⟩
theorem step_cells {w : World} {n : Nat} {a : Option Addr} {c : Nat} {l : List St} (rd : Rd w n 6 (.slice a l.length c) l.length (l.flatMap St.cells)) (k : Nat) (hk : k < l.length) : ∃ b off, a = some ⟨b, off, none⟩ ∧ b < n ∧ l.length ≤ c ∧ StepAt w b (off + k * 6) l[k] := by
  have hcap := rd.cap
  obtain ⟨b, off, rfl, hb, hcp, hcs⟩ := rd.at (by omega)
  have go : ∀ j, j < 6 → w.cell? ⟨b, off + k * 6 + j, none⟩ = (St.cells l[k])[j]? := fun j hj => by
    have := hcs (k * 6 + j) (by omega)
    rw [flatMap_get (f := St.cells) (sz := 6) (fun _ => rfl) l k j hk hj, ← Nat.add_assoc] at this
    exact this
  exact ⟨b, off, rfl, hb, hcap, go 0 (by omega), go 1 (by omega), go 2 (by omega), go 3 (by omega), go 4 (by omega), go 5 (by omega)⟩
end Go.Proofs.Ytoaegleieacokaa
