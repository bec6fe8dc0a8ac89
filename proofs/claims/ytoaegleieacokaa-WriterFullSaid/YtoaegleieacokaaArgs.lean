/- How a slice that came in as an argument reads: as the list of its elements' cells, whatever the element type. No function of the program is named here. -/
import Derived.Test.YtoaegleieacokaaBase
import Derived.ProofKit
import Derived.OpenShut
import Derived.ShutString
import Derived.ChangeOld
import Derived.Deep.Slices
import Derived.Deep.Fields
namespace Go.Proofs.Ytoaegleieacokaa
open Go.ChangeShapes Go.WideShapes Go.ChangeAt Go.RowKit

theorem exists_list {α : Type} {p : Nat → α → Prop} : ∀ (n : Nat), (∀ i, i < n → ∃ x, p i x) → ∃ l : List α, l.length = n ∧ ∀ i (h : i < l.length), p i l[i]
  | 0, _ => ⟨[], rfl, fun i h => by simp at h⟩
  | n + 1, h => by
    obtain ⟨l, hl, hp⟩ := exists_list n (fun i hi => h i (by omega))
    obtain ⟨x, hx⟩ := h n (by omega)
    refine ⟨l ++ [x], by simp [hl], fun i hi => ?_⟩
    by_cases hin : i < l.length
    · rw [List.getElem_append_left hin]; exact hp i hin
    · have : i = n := by simp at hi; omega
      subst this
      rw [List.getElem_append_right (by omega)]
      simpa using hx
theorem flatMap_get {α : Type} {f : α → List Value} {sz : Nat} (hf : ∀ x, (f x).length = sz) : ∀ (l : List α) (k c : Nat) (hk : k < l.length), c < sz → (l.flatMap f)[k * sz + c]? = (f l[k])[c]?
  | x :: l, 0, c, _, hc => by
    simp only [List.flatMap_cons, Nat.zero_mul, Nat.zero_add, List.getElem_cons_zero]
    rw [List.getElem?_append_left (by rw [hf]; exact hc)]
  | x :: l, k + 1, c, hk, hc => by
    simp only [List.flatMap_cons, List.getElem_cons_succ]
    rw [List.getElem?_append_right (by rw [hf, Nat.add_mul]; omega), hf, show (k + 1) * sz + c - sz = k * sz + c from by rw [Nat.add_mul]; omega]
    exact flatMap_get hf l k c (by simpa using hk) hc
theorem flatMap_len {α : Type} {f : α → List Value} {sz : Nat} (hf : ∀ x, (f x).length = sz) : ∀ (l : List α), (l.flatMap f).length = l.length * sz
  | [] => by simp
  | x :: l => by simp only [List.flatMap_cons, List.length_append, List.length_cons, hf, flatMap_len hf l, Nat.add_mul]; omega

section
variable {H : Type} {enc : TypeId × Value → H} {P : Program} {W : World}
/-- An argument that is a slice: the elements' cells, as dec takes them apart. -/
theorem open_rd {α : Type} {t e : TypeId} {sz : Nat} {f : α → List Value} {good : α → Prop} (hf : ∀ x, (f x).length = sz) (hs : 0 < sz) (ht : P.underlying t = some (.slice e)) (hC : P.cellsOf e = sz)
    (dec : ∀ n cs y, DataW.trod enc P W 0 (fun _ => true) true n e cs = some y → ∃ x, cs = f x ∧ good x) {a : Option Addr} {len cap : Nat} {d : DataW H} {p : List MemPlace}
    (h : DataW.Trod enc P W 0 (fun _ => true) true t (.slice a len cap) d p) : ∃ l : List α, l.length = len ∧ Rd W W.heap.size sz (.slice a len cap) len (l.flatMap f) ∧ cap ≤ maxLen ∧ ∀ x ∈ l, good x := by
  obtain ⟨fuel, h⟩ := h
  rcases Go.Deep.open_slice ht h with ⟨hcs, _⟩ | ⟨ad, len', cap', m, n, D, Pl, hcs, _, hl, hm, hmm, _, hi⟩
  · simp [Value.cells] at hcs
    obtain ⟨rfl, rfl, rfl⟩ := hcs
    exact ⟨[], rfl, Rd.nil _ _ _, by simp, by simp⟩
  · simp [Value.cells] at hcs
    obtain ⟨rfl, rfl, rfl⟩ := hcs
    simp at hmm
    subst hmm
    obtain ⟨l, hll, hlp⟩ := exists_list (p := fun i x => (∀ j, j < sz → W.cell? ((ad.add (i * sz)).add j) = (f x)[j]?) ∧ good x) len (fun i hi' => by
      obtain ⟨cs', h1, h2⟩ := hi i (by omega)
      rw [hC] at h1
      obtain ⟨x, rfl, hg⟩ := dec _ _ _ h2
      obtain ⟨_, _, h3⟩ := World.cells?_some h1
      exact ⟨x, h3, hg⟩)
    refine ⟨l, hll, ⟨by rw [flatMap_len hf, hll], _, _, rfl, hl, fun hn => ?_⟩, hm, fun x hx => ?_⟩
    · obtain ⟨b, off, spot⟩ := ad
      have h0 := (hlp 0 (by omega)).1 0 hs
      have hf0 : (f (l[0]'(by omega)))[0]? = some ((f (l[0]'(by omega)))[0]'(by rw [hf]; exact hs)) := List.getElem?_eq_getElem _
      rw [hf0] at h0
      simp only [Nat.zero_mul, Addr.add, if_true] at h0
      have hspot : spot = none := by simpa using World.cell?_spot h0
      subst hspot
      have hb : b < W.heap.size := by
        simp only [World.cell?] at h0
        cases hh : W.heap[b]? with
        | none => rw [hh] at h0; simp at h0
        | some o => exact (Array.getElem?_eq_some_iff.1 hh).1
      refine ⟨b, off, rfl, hb, fun j hj => ?_⟩
      have hk : j / sz < l.length := by rw [hll]; exact Nat.div_lt_of_lt_mul (by rw [Nat.mul_comm]; exact hj)
      have hc : j % sz < sz := Nat.mod_lt _ hs
      have h1 := (hlp (j / sz) hk).1 (j % sz) hc
      have hj2 : j / sz * sz + j % sz = j := by rw [Nat.mul_comm]; exact Nat.div_add_mod j sz
      rw [Go.WideShapes.add_plain, Go.WideShapes.add_plain, Nat.add_assoc, hj2] at h1
      rw [h1, ← flatMap_get hf l (j / sz) (j % sz) hk hc, hj2]
    · obtain ⟨i, hi', rfl⟩ := List.getElem_of_mem hx
      exact (hlp i hi').2
theorem dec_int {e : TypeId} {k : IntKind} (he : P.underlying e = some (.int k)) : ∀ n cs (y : DataW H × List MemPlace), DataW.trod enc P W 0 (fun _ => true) true n e cs = some y → ∃ x : Int, cs = [.int k x] ∧ (Lit.int k x).wf = true := fun n cs y h => by
  obtain ⟨x, h1, _, h2⟩ := DataW.trod_int he h
  exact ⟨x, h1, h2⟩
theorem dec_string {e : TypeId} (he : P.underlying e = some .string) : ∀ n cs (y : DataW H × List MemPlace), DataW.trod enc P W 0 (fun _ => true) true n e cs = some y → ∃ x : ByteArray, cs = [.string x] ∧ x.size ≤ maxLen := fun n cs y h => by
  obtain ⟨x, h1, _, h2⟩ := DataW.trod_string he h
  exact ⟨x, h1, h2⟩
theorem flatMap_single {α : Type} (f : α → Value) (l : List α) : l.flatMap (fun x => [f x]) = l.map f := by induction l <;> simp_all
/-- .. of whole numbers. -/
theorem open_nums {t e : TypeId} {k : IntKind} (ht : P.underlying t = some (.slice e)) (he : P.underlying e = some (.int k)) (hC : P.cellsOf e = 1) {a : Option Addr} {len cap : Nat} {d : DataW H} {p : List MemPlace}
    (h : DataW.Trod enc P W 0 (fun _ => true) true t (.slice a len cap) d p) : ∃ l : List Int, l.length = len ∧ Rd W W.heap.size 1 (.slice a len cap) len (l.map (Value.int k)) ∧ cap ≤ maxLen ∧ ∀ x ∈ l, (Lit.int k x).wf = true := by
  obtain ⟨l, h1, h2, h3⟩ := open_rd (sz := 1) (f := fun x => [Value.int k x]) (fun _ => rfl) (by omega) ht hC (dec_int he) h
  exact ⟨l, h1, by rw [flatMap_single] at h2; exact h2, h3⟩
/-- .. of strings. -/
theorem open_strs {t e : TypeId} (ht : P.underlying t = some (.slice e)) (he : P.underlying e = some .string) (hC : P.cellsOf e = 1) {a : Option Addr} {len cap : Nat} {d : DataW H} {p : List MemPlace}
    (h : DataW.Trod enc P W 0 (fun _ => true) true t (.slice a len cap) d p) : ∃ l : List ByteArray, l.length = len ∧ Rd W W.heap.size 1 (.slice a len cap) len (l.map Value.string) ∧ cap ≤ maxLen ∧ ∀ x ∈ l, x.size ≤ maxLen := by
  obtain ⟨l, h1, h2, h3⟩ := open_rd (sz := 1) (f := fun x => [Value.string x]) (fun _ => rfl) (by omega) ht hC (dec_string he) h
  exact ⟨l, h1, by rw [flatMap_single] at h2; exact h2, h3⟩
end
end Go.Proofs.Ytoaegleieacokaa
