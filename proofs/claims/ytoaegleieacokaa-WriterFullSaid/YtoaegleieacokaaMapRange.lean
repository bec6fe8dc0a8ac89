/- 'range m' over a map block that is held by RawMap: what the first step and each further one do. No function of the program is named here. -/
import Derived.Test.YtoaegleieacokaaMaps
import Derived.Maps.RangeRun
import Derived.Sort.MapsRangeIn
namespace Go.Proofs.Ytoaegleieacokaa
open Go.RowKit Go.Shelf Go.MapKept

theorem inj_of_nodup {α β : Type} (f : α → β) : ∀ {l : List α}, (l.map f).Nodup → ∀ {x y : α}, x ∈ l → y ∈ l → f x = f y → x = y
  | [], _, _, _, hx, _, _ => by simp at hx
  | a :: l, h, x, y, hx, hy, e => by
    rw [List.map_cons, List.nodup_cons] at h
    rcases List.mem_cons.1 hx with rfl | hx
    · rcases List.mem_cons.1 hy with rfl | hy
      · rfl
      · exact absurd (List.mem_map.2 ⟨y, hy, e.symm⟩) h.1
    · rcases List.mem_cons.1 hy with e1 | hy
      · exact absurd (List.mem_map.2 ⟨x, hx, e1 ▸ e⟩) h.1
      · exact inj_of_nodup f h.2 hx hy e
theorem nodup_of_inj {α β : Type} {f : α → β} (hf : ∀ a b, f a = f b → a = b) : ∀ {l : List α}, l.Nodup → (l.map f).Nodup
  | [], _ => by simp
  | a :: l, h => by
    rw [List.nodup_cons] at h
    rw [List.map_cons, List.nodup_cons]
    refine ⟨fun hm => ?_, nodup_of_inj hf h.2⟩
    obtain ⟨b, hb, e⟩ := List.mem_map.1 hm
    exact h.1 (hf _ _ e ▸ hb)
theorem perm_filter_key {κ β : Type} [DecidableEq κ] : ∀ {l : List (κ × β)}, (l.map (·.1)).Nodup → ∀ {p : κ × β}, p ∈ l → l.Perm (p :: l.filter fun q => q.1 ≠ p.1)
  | [], _, _, hp => by simp at hp
  | a :: l, h, p, hp => by
    rw [List.map_cons, List.nodup_cons] at h
    rcases List.mem_cons.1 hp with rfl | hp
    · have : (p :: l).filter (fun q => q.1 ≠ p.1) = l := by
        rw [List.filter_cons_of_neg (by simp), List.filter_eq_self]
        intro q hq
        simp only [ne_eq, decide_not, Bool.not_eq_eq_eq_not, Bool.not_true, decide_eq_false_iff_not]
        exact fun e => h.1 (List.mem_map.2 ⟨q, hq, e⟩)
      rw [this]
    · have hne : a.1 ≠ p.1 := fun e => h.1 (List.mem_map.2 ⟨p, hp, e.symm⟩)
      rw [List.filter_cons_of_pos (by simpa using hne)]
      exact ((perm_filter_key h.2 hp).cons a).trans (List.Perm.swap _ _ _)
theorem leftOf_push (es : Array MapEntry) (seen : Array Nat) (n : Nat) : (leftOf es (seen.push n)).toList = (leftOf es seen).toList.filter fun x => x.born ≠ n := by
  unfold leftOf
  rw [Array.toList_filter, Array.toList_filter, List.filter_filter]
  congr 1
  funext x
  by_cases h : x.born = n <;> simp [h]

section
variable {κ : Type} [DecidableEq κ]
/-- The iterator in block r goes over the map in block b; of its keys and values m those of rem are still to come. -/
def RawRg (W : World) (b r : Nat) (kenc : κ → Value) (m rem : List (κ × Value)) : Prop :=
  ∃ es clock since seen c0, W.heap[b]? = some (.map es clock) ∧ es.toList.map (fun e => (e.key, e.val)) = m.map (fun p => (kenc p.1, p.2)) ∧ (m.map (·.1)).Nodup ∧ (es.toList.map (·.born)).Nodup ∧
    W.heap[r]? = some (.mapIter (some b) since seen c0) ∧ (∀ x ∈ es.toList, x.born < since) ∧ since ≤ c0 ∧ since ≤ clock ∧ (leftOf es seen).toList.map (fun e => (e.key, e.val)) = rem.map (fun p => (kenc p.1, p.2))

variable {kenc : κ → Value} {W : World} {b r : Nat} {m rem : List (κ × Value)}
omit [DecidableEq κ] in
theorem RawRg.left_eq (h : RawRg W b r kenc m rem) : W.rangeLeft b r = rem.length := by
  obtain ⟨es, clock, since, seen, c0, hb, _, _, _, hr, _, _, _, hl⟩ := h
  simp only [World.rangeLeft, hb, hr]
  have := congrArg List.length hl
  simpa using this
omit [DecidableEq κ] in
theorem RawRg.iter_walk (h : RawRg W b r kenc m rem) : ∃ o : Obj, W.heap[r]? = some o ∧ o.isWalk = true := by
  obtain ⟨es, clock, since, seen, c0, _, _, _, _, hr, _⟩ := h
  exact ⟨_, hr, rfl⟩
omit [DecidableEq κ] in
theorem RawRg.of_walks {W' : World} (h : RawRg W b r kenc m rem) (k : KeepsWalks W W') : RawRg W' b r kenc m rem := by
  obtain ⟨es, clock, since, seen, c0, hb, h1, h2, h3, hr, h4⟩ := h
  exact ⟨es, clock, since, seen, c0, k.same _ _ hb rfl, h1, h2, h3, k.same _ _ hr rfl, h4⟩
omit [DecidableEq κ] in
theorem RawMap.range {P : Program} {t kt e : TypeId} (ht : P.underlying t = some (.map kt e)) (h : RawMap W b kenc m) :
    ∃ W', (Instr.range t (.map (some b))).run P W = .ok (.pointer (some ⟨W.heap.size, 0, none⟩)) W' ∧ RawRg W' b W.heap.size kenc m m ∧ W.grownBy W' none ∧ W'.heap.size = W.heap.size + 1 := by
  have hlt := h.lt
  obtain ⟨es, clock, hb, h1, h2, h3, h4⟩ := h
  refine ⟨_, run_range_map W t kt e b es clock ht hb, ⟨es, clock, clock, #[], clock, ((MapKept.heap_alloc W _).2 b hlt).trans hb, h1, h2, h4, (MapKept.heap_alloc W _).1, h3, Nat.le_refl _, Nat.le_refl _, ?_⟩, World.grownBy_alloc W _ none, by simp⟩
  rw [← h1]
  unfold leftOf
  simp
  rw [List.filter_eq_self.2 (fun _ _ => rfl)]
theorem sb_same {W : World} {r : Nat} (h : r < W.heap.size) (o : Obj) : (ChangeMaps.setBlock W r o).heap[r]? = some o := by simp [ChangeMaps.setBlock, h]
theorem sb_other (W : World) {r i : Nat} (o : Obj) (h : i ≠ r) : (ChangeMaps.setBlock W r o).heap[i]? = W.heap[i]? := by
  simp only [ChangeMaps.setBlock]
  exact Array.getElem?_setIfInBounds_ne (fun e => h e.symm)

omit [DecidableEq κ] in
theorem filter_kv {f : MapEntry → Bool} {g : κ × Value → Bool} : ∀ {L : List MapEntry} {R : List (κ × Value)}, L.map (fun e => (e.key, e.val)) = R.map (fun p => (kenc p.1, p.2)) → (∀ x ∈ L, ∀ p ∈ R, x.key = kenc p.1 → f x = g p) → (L.filter f).map (fun e => (e.key, e.val)) = (R.filter g).map (fun p => (kenc p.1, p.2))
  | [], R, h, _ => by
    cases R with
    | nil => rfl
    | cons => simp at h
  | x :: L, R, h, hfg => by
    cases R with
    | nil => simp at h
    | cons p R =>
      simp only [List.map_cons, List.cons.injEq, Prod.mk.injEq] at h
      have h1 := hfg x (by simp) p (by simp) h.1.1
      have h2 := filter_kv h.2 (fun y hy q hq => hfg y (by simp [hy]) q (by simp [hq]))
      cases hg : g p with
      | true => rw [List.filter_cons_of_pos (by rw [h1, hg]), List.filter_cons_of_pos hg, List.map_cons, List.map_cons, h2, h.1.1, h.1.2]
      | false => rw [List.filter_cons_of_neg (by rw [h1, hg]; simp), List.filter_cons_of_neg (by simp [hg]), h2]

theorem RawRg.next {P : Program} (hinj : ∀ a b, kenc a = kenc b → a = b) (h : RawRg W b r kenc m rem) (ty : TypeId) :
    (rem = [] ∧ (Instr.next (.pointer (some ⟨r, 0, none⟩)) false ty).run P W = .ok (.tuple #[.bool false]) W) ∨
    ∃ p ∈ rem, ∃ W' : World, (Instr.next (.pointer (some ⟨r, 0, none⟩)) false ty).run P W = .ok (.tuple #[.bool true, kenc p.1, p.2]) W' ∧ RawRg W' b r kenc m (rem.filter fun q => q.1 ≠ p.1) ∧ W.grownBy W' (some r) ∧ W'.heap.size = W.heap.size ∧
      (Instr.entry (.pointer (some ⟨r, 0, none⟩))).run P W' = .ok (.tuple #[kenc p.1, p.2]) W' := by
  obtain ⟨es, clock, since, seen, c0, hb, h1, h2, h3, hr, h4, h5, h6, hl⟩ := h
  have hne : r ≠ b := by
    intro e
    rw [e, hb] at hr
    cases hr
  rcases run_next_at (P := P) W ty r b since c0 seen es clock hr hb h4 h5 with ⟨h0, hrun⟩ | ⟨e, he, w1, hw1, hrun⟩
  · refine .inl ⟨?_, hrun⟩
    have := congrArg List.length hl
    simp [h0] at this
    exact List.eq_nil_of_length_eq_zero this.symm
  · have hm : (e.key, e.val) ∈ rem.map (fun p => (kenc p.1, p.2)) := by rw [← hl]; exact List.mem_map.2 ⟨e, he, rfl⟩
    obtain ⟨p, hp, hpe⟩ := List.mem_map.1 hm
    obtain ⟨ek, ev⟩ : kenc p.1 = e.key ∧ p.2 = e.val := by simpa using hpe
    have hin : ∀ x ∈ (leftOf es seen).toList, x ∈ es.toList := by
      intro x hx
      unfold leftOf at hx
      simp at hx
      simpa using hx.1
    have hkeys : (es.toList.map (fun e => e.key)).Nodup := by
      have := congrArg (List.map Prod.fst) h1
      rw [List.map_map, List.map_map] at this
      rw [show (es.toList.map fun e => e.key) = es.toList.map (Prod.fst ∘ fun e => (e.key, e.val)) from rfl, this]
      rw [show (m.map (Prod.fst ∘ fun p => (kenc p.1, p.2))) = (m.map (·.1)).map kenc from by rw [List.map_map]; rfl]
      exact nodup_of_inj hinj h2
    have hb1 : w1.heap[b]? = some (.map es clock) := by rcases hw1 with rfl | rfl <;> exact hb
    have hr1 : w1.heap[r]? = some (.mapIter (some b) since seen c0) := by rcases hw1 with rfl | rfl <;> exact hr
    have hrb : (ChangeMaps.setBlock w1 r (.mapIter (some b) since (seen.push e.born) clock)).heap[b]? = some (.map es clock) := (sb_other w1 _ (fun e => hne e.symm)).trans hb1
    have hrr : (ChangeMaps.setBlock w1 r (.mapIter (some b) since (seen.push e.born) clock)).heap[r]? = some (.mapIter (some b) since (seen.push e.born) clock) := sb_same (Array.getElem?_eq_some_iff.1 hr1).1 _
    refine .inr ⟨p, hp, _, by rw [ek, ev]; exact hrun, ⟨es, clock, since, _, clock, hrb, h1, h2, h3, hrr, h4, h6, h6, ?_⟩, ?_, ?_, ?_⟩
    · rw [leftOf_push]
      refine filter_kv hl fun x hx q hq hxq => ?_
      rw [decide_eq_decide]
      constructor
      · intro hn e1
        refine hn ?_
        have : x = e := inj_of_nodup (fun e => e.key) hkeys (hin x hx) (hin e he) (by show x.key = e.key; rw [hxq, ← ek, e1])
        rw [this]
      · intro hn e1
        have : x = e := inj_of_nodup (fun e => e.born) h3 (hin x hx) (hin e he) e1
        rw [this, ← ek] at hxq
        exact hn (hinj _ _ hxq).symm
    · rcases hw1 with rfl | rfl
      · exact ⟨rfl, rfl, rfl, by simp [ChangeMaps.setBlock], fun i _ hi => sb_other _ _ (fun e => hi (by rw [e]))⟩
      · exact ⟨rfl, rfl, rfl, by simp [ChangeMaps.setBlock], fun i _ hi => sb_other _ _ (fun e => hi (by rw [e]))⟩
    · rcases hw1 with rfl | rfl <;> simp [ChangeMaps.setBlock]
    · rw [ek, ev]
      exact run_entry_at _ r b since seen es clock e hrr hrb (hin e he) h3

/-! ### At the operation, inside a fence -/
variable {F : Fence} {nF : Nat} {P : Program} {ops : Array Oper} {rest : List Oper} {o : Oper} {a : Act} {Q : Exit → Act → World → Prop} {w : World}
omit [DecidableEq κ] in
theorem wpListIn_range_raw (hg : o.guard = none) (mo : Operand) (t kt e : TypeId) (hop : o.op = Op.range t mo) (ht : P.underlying t = some (.map kt e)) (hm : a.eval mo = .map (some b)) (h : RawMap w b kenc m)
    (hK : ∀ w', RawRg w' b w.heap.size kenc m m → w.grownBy w' none → w'.heap.size = w.heap.size + 1 → wpListIn F nF P ops Q rest (a.put o.dst (.pointer (some ⟨w.heap.size, 0, none⟩))) w') :
    wpListIn F nF P ops Q (o :: rest) a w := by
  refine wpListIn_plain hg fun K' hK' => ?_
  obtain ⟨w', hrun, r1, r2, r3⟩ := h.range (P := P) ht
  unfold Oper.wpIn
  refine ⟨by simp [Oper.about, hop], ?_⟩
  rw [Oper.semAt_plain F _ _ (by rw [hop]; intro c hc'; cases hc')]
  simp [execOp, hop, hm, hrun, Result.andThen]
  exact hK' _ _ (hK w' r1 r2 r3)
theorem wpListIn_next_raw (hg : o.guard = none) (it : Operand) (hop : o.op = Op.next it false) (hinj : ∀ a b, kenc a = kenc b → a = b) (hit : a.eval it = .pointer (some ⟨r, 0, none⟩)) (h : RawRg w b r kenc m rem)
    (hDone : rem = [] → wpListIn F nF P ops Q rest (a.put o.dst (.tuple #[.bool false])) w)
    (hMore : ∀ p w', p ∈ rem → RawRg w' b r kenc m (rem.filter fun q => q.1 ≠ p.1) → w.grownBy w' (some r) → w'.heap.size = w.heap.size → (Instr.entry (.pointer (some ⟨r, 0, none⟩))).run P w' = .ok (.tuple #[kenc p.1, p.2]) w' →
      wpListIn F nF P ops Q rest (a.put o.dst (.tuple #[.bool true, kenc p.1, p.2])) w') :
    wpListIn F nF P ops Q (o :: rest) a w := by
  refine wpListIn_plain hg fun K' hK' => ?_
  unfold Oper.wpIn
  refine ⟨by simp [Oper.about, hop], ?_⟩
  rw [Oper.semAt_plain F _ _ (by rw [hop]; intro c hc'; cases hc')]
  rcases h.next (P := P) hinj o.type with ⟨h0, hrun⟩ | ⟨p, hp, w', hrun, r1, r2, r3, r4⟩
  · simp [execOp, hop, hit, hrun, Result.andThen]
    exact hK' _ _ (hDone h0)
  · simp [execOp, hop, hit, hrun, Result.andThen]
    exact hK' _ _ (hMore p w' hp r1 r2 r3 r4)
end
end Go.Proofs.Ytoaegleieacokaa
