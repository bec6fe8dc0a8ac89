/- Maps as lists of keys and values: what a lookup, a store, a delete and len do to a map block, for any kind of key that passes the four tests of KeyOk. No function of the program is named here. 'range m' over a map block that is held by RawMap: what the first step and each further one do. No function of the program is named here. -/
import Derived.Test.YtoaegleieacokaaGreatBaseM
import Derived.MapKept
import Derived.WideKeyRuns
import Derived.Maps.OwnIn
import Derived.Maps.RangeRun
import Derived.Sort.MapsRangeIn
namespace Go.Proofs.YtoaegleieacokaaGreat
open Go.RowKit Go.Shelf Go.MapKept

/-- What the four laws ask of the keys kenc of a key type. -/
structure KeyOk (P : Program) (kt : TypeId) {κ : Type} (kenc : κ → Value) : Prop where
  check : ∀ e k w, (Instr.checkKey e 10000 kt (kenc k)).run P w = .ok () w
  find : ∀ k (l : List MapEntry) w, (∀ x ∈ l, ∃ k', x.key = kenc k') →
    ((Instr.findKey kt (kenc k) l).run P w = .ok none w ∧ ∀ x ∈ l, x.key ≠ kenc k) ∨ ∃ j e, (Instr.findKey kt (kenc k) l).run P w = .ok (some (j, e.val)) w ∧ l[j]? = some e ∧ e.key = kenc k
  stays : ∀ k w, (Instr.keyThatStays (kenc k) (kenc k)).run P w = .ok (kenc k) w
  inj : ∀ a b, kenc a = kenc b → a = b

theorem keyOk_string {P : Program} {kt : TypeId} (h : P.underlying kt = some .string) : KeyOk P kt Value.string where
  check e k w := run_checkKey (d := .string) h (by simp [IsKey]) e 9999
  find k l w hl := by
    rcases findNow_spec (d := .string) (k := .string k) (by simp [IsKey]) l 0 (fun x hx => by obtain ⟨k', e⟩ := hl x hx; rw [e]; simp [IsKey]) with ⟨h1, h2⟩ | ⟨j, e, h1, h2, h3⟩
    · exact .inl ⟨run_findKey h h1, h2⟩
    · exact .inr ⟨j, e, by rw [run_findKey h h1]; simp, h2, h3⟩
  stays k w := run_keyThatStays (d := .string) (by simp [IsKey])
  inj a b h := by simpa using h
theorem keyOk_int {P : Program} {kt : TypeId} {q : IntKind} (h : P.underlying kt = some (.int q)) : KeyOk P kt (Value.int q) where
  check e k w := run_checkKey (d := .int q) h (by simp [IsKey]) e 9999
  find k l w hl := by
    rcases findNow_spec (d := .int q) (k := .int q k) (by simp [IsKey]) l 0 (fun x hx => by obtain ⟨k', e⟩ := hl x hx; rw [e]; simp [IsKey]) with ⟨h1, h2⟩ | ⟨j, e, h1, h2, h3⟩
    · exact .inl ⟨run_findKey h h1, h2⟩
    · exact .inr ⟨j, e, by rw [run_findKey h h1]; simp, h2, h3⟩
  stays k w := run_keyThatStays (d := .int q) (by simp [IsKey])
  inj a b h := by simpa using h

section
variable {κ : Type}
/-- Block b of W is a map that holds the keys and values m. -/
def RawMap (W : World) (b : Nat) (kenc : κ → Value) (m : List (κ × Value)) : Prop :=
  ∃ es clock, W.heap[b]? = some (.map es clock) ∧ es.toList.map (fun e => (e.key, e.val)) = m.map (fun p => (kenc p.1, p.2)) ∧ (m.map (·.1)).Nodup ∧ (∀ x ∈ es.toList, x.born < clock) ∧ (es.toList.map (·.born)).Nodup

theorem RawMap.lt {W : World} {b : Nat} {kenc : κ → Value} {m : List (κ × Value)} (h : RawMap W b kenc m) : b < W.heap.size := by
  obtain ⟨es, clock, h1, _⟩ := h
  exact (Array.getElem?_eq_some_iff.1 h1).1
theorem RawMap.nodup {W : World} {b : Nat} {kenc : κ → Value} {m : List (κ × Value)} (h : RawMap W b kenc m) : (m.map (·.1)).Nodup := by
  obtain ⟨es, clock, _, _, h3, _⟩ := h
  exact h3
theorem RawMap.new (W : World) (kenc : κ → Value) : RawMap (W.alloc (.map #[] 0)) W.heap.size kenc [] := ⟨#[], 0, World.alloc_heap_new W _, by simp, by simp, by simp, by simp⟩
theorem RawMap.same {W W' : World} {b : Nat} {kenc : κ → Value} {m : List (κ × Value)} (h : RawMap W b kenc m) (he : W'.heap[b]? = W.heap[b]?) : RawMap W' b kenc m := by
  obtain ⟨es, clock, h1, h2⟩ := h
  exact ⟨es, clock, he.trans h1, h2⟩
theorem RawMap.kept {W W' : World} {row : Option Nat} {b : Nat} {kenc : κ → Value} {m : List (κ × Value)} (h : RawMap W b kenc m) (hg : W.grownBy W' row) (hne : some b ≠ row) : RawMap W' b kenc m := h.same (hg.block b h.lt hne)
theorem RawMap.alloc {W : World} {b : Nat} {kenc : κ → Value} {m : List (κ × Value)} (h : RawMap W b kenc m) (o : Obj) : RawMap (W.alloc o) b kenc m := h.kept (World.grownBy_alloc W o none) (by simp)
theorem RawMap.below {W W' : World} {k b : Nat} {kenc : κ → Value} {m : List (κ × Value)} (h : RawMap W b kenc m) (hb : Below k W W') (hk : b < k) : RawMap W' b kenc m := h.same (hb.block b hk)
theorem RawMap.setCell {W : World} {b : Nat} {kenc : κ → Value} {m : List (κ × Value)} (h : RawMap W b kenc m) (p : Addr) (u : Value) : RawMap (W.setCell p u) b kenc m := by
  obtain ⟨es, clock, h1, h2⟩ := h
  by_cases he : b = p.block
  · subst he
    refine ⟨es, clock, ?_, h2⟩
    simp only [World.setCell, Array.getElem?_modify, h1]
    simp
  · exact ⟨es, clock, (Below.heap_setCell _ _ _ _ he).trans h1, h2⟩

theorem kv_keys {kenc : κ → Value} {es : List MapEntry} {m : List (κ × Value)} (h : es.map (fun e => (e.key, e.val)) = m.map (fun p => (kenc p.1, p.2))) : ∀ x ∈ es, ∃ k', x.key = kenc k' := by
  intro x hx
  have h1 : (x.key, x.val) ∈ es.map (fun e => (e.key, e.val)) := List.mem_map.2 ⟨x, hx, rfl⟩
  rw [h] at h1
  obtain ⟨p, _, hp⟩ := List.mem_map.1 h1
  exact ⟨p.1, by simpa using (congrArg Prod.fst hp).symm⟩
theorem kv_at {kenc : κ → Value} {es : List MapEntry} {m : List (κ × Value)} (h : es.map (fun e => (e.key, e.val)) = m.map (fun p => (kenc p.1, p.2))) {j : Nat} {e : MapEntry} (he : es[j]? = some e) : ∃ p, m[j]? = some p ∧ e.key = kenc p.1 ∧ e.val = p.2 := by
  have h1 := congrArg (fun l => l[j]?) h
  simp only [List.getElem?_map, he, Option.map_some] at h1
  cases hm : m[j]? with
  | none => rw [hm] at h1; simp at h1
  | some p => rw [hm] at h1; simp at h1; exact ⟨p, rfl, h1.1, h1.2⟩
theorem kv_absent {kenc : κ → Value} {es : List MapEntry} {m : List (κ × Value)} (h : es.map (fun e => (e.key, e.val)) = m.map (fun p => (kenc p.1, p.2))) {k : κ} (hn : ∀ x ∈ es, x.key ≠ kenc k) : k ∉ m.map (·.1) := by
  intro hk
  obtain ⟨p, hp, rfl⟩ := List.mem_map.1 hk
  have h1 : (kenc p.1, p.2) ∈ m.map (fun p => (kenc p.1, p.2)) := List.mem_map.2 ⟨p, hp, rfl⟩
  rw [← h] at h1
  obtain ⟨x, hx, e⟩ := List.mem_map.1 h1
  exact hn x hx (by simpa using congrArg Prod.fst e)
end

section
variable {κ : Type} [DecidableEq κ]
def lk (m : List (κ × Value)) (k : κ) : Option Value := (m.find? fun p => p.1 = k).map (·.2)
def up (m : List (κ × Value)) (k : κ) (v : Value) : List (κ × Value) := if k ∈ m.map (·.1) then m.map (fun p => if p.1 = k then (k, v) else p) else m ++ [(k, v)]
def dl (m : List (κ × Value)) (k : κ) : List (κ × Value) := m.filter fun p => p.1 ≠ k

theorem up_keys (m : List (κ × Value)) (k : κ) (v : Value) : (up m k v).map (·.1) = if k ∈ m.map (·.1) then m.map (·.1) else m.map (·.1) ++ [k] := by
  unfold up
  split
  · rw [List.map_map]
    apply List.map_congr_left
    intro p hp
    simp only [Function.comp]
    split <;> simp_all
  · simp
theorem up_nodup {m : List (κ × Value)} (h : (m.map (·.1)).Nodup) (k : κ) (v : Value) : ((up m k v).map (·.1)).Nodup := by
  rw [up_keys]
  split
  · exact h
  · rename_i hk
    rw [List.nodup_append]
    refine ⟨h, by simp, ?_⟩
    intro a ha b hb
    simp at hb
    subst hb
    exact fun e => hk (e ▸ ha)
theorem dl_keys (m : List (κ × Value)) (k : κ) : (dl m k).map (·.1) = (m.map (·.1)).filter fun x => x ≠ k := by
  unfold dl
  rw [List.filter_map]
  rfl
theorem dl_nodup {m : List (κ × Value)} (h : (m.map (·.1)).Nodup) (k : κ) : ((dl m k).map (·.1)).Nodup := by rw [dl_keys]; exact h.filter _

theorem lk_none {m : List (κ × Value)} {k : κ} (h : k ∉ m.map (·.1)) : lk m k = none := by
  unfold lk
  rw [List.find?_eq_none.2]
  · rfl
  · intro p hp
    simp
    exact fun e => h (List.mem_map.2 ⟨p, hp, e⟩)
theorem lk_at {m : List (κ × Value)} (h : (m.map (·.1)).Nodup) {j : Nat} {p : κ × Value} (hp : m[j]? = some p) : lk m p.1 = some p.2 := by
  induction m generalizing j with
  | nil => simp at hp
  | cons q m ih =>
    unfold lk
    rw [List.map_cons, List.nodup_cons] at h
    cases j with
    | zero =>
      simp at hp
      subst hp
      simp
    | succ j =>
      simp at hp
      have hmem : p.1 ∈ m.map (·.1) := List.mem_map.2 ⟨p, List.mem_of_getElem? hp, rfl⟩
      have hne : ¬ q.1 = p.1 := fun e => h.1 (e ▸ hmem)
      simp only [List.find?_cons, hne, decide_false]
      exact ih h.2 hp
theorem lk_mem {m : List (κ × Value)} {k : κ} : (lk m k).isSome = true ↔ k ∈ m.map (·.1) := by
  unfold lk
  simp [List.find?_isSome]
theorem lk_some {m : List (κ × Value)} (h : (m.map (·.1)).Nodup) {k : κ} {v : Value} : lk m k = some v ↔ (k, v) ∈ m := by
  constructor
  · intro hl
    unfold lk at hl
    cases hf : m.find? (fun p => p.1 = k) with
    | none => rw [hf] at hl; simp at hl
    | some p =>
      rw [hf] at hl
      have h1 := List.find?_some hf
      have h2 := List.mem_of_find?_eq_some hf
      simp at h1 hl
      subst h1 hl
      exact h2
  · intro hm
    obtain ⟨j, hj, e⟩ := List.getElem_of_mem hm
    have := lk_at h (j := j) (p := (k, v)) (by rw [List.getElem?_eq_getElem hj, e])
    exact this

theorem map_replace {kenc : κ → Value} {f : MapEntry → MapEntry} {k : κ} {v : Value} (hf : ∀ e, (f e).key = kenc k ∧ (f e).val = v) :
    ∀ (es : List MapEntry) (m : List (κ × Value)) (j : Nat) (v' : Value), es.map (fun e => (e.key, e.val)) = m.map (fun p => (kenc p.1, p.2)) → (m.map (·.1)).Nodup → m[j]? = some (k, v') →
      (es.modify j f).map (fun e => (e.key, e.val)) = (m.map (fun p => if p.1 = k then (k, v) else p)).map (fun p => (kenc p.1, p.2))
  | [], m, j, v', h, _, hj => by
    cases m with
    | nil => simp at hj
    | cons => simp at h
  | e :: es, m, j, v', h, hn, hj => by
    cases m with
    | nil => simp at h
    | cons p m =>
      simp only [List.map_cons, List.cons.injEq] at h
      rw [List.map_cons, List.nodup_cons] at hn
      cases j with
      | zero =>
        simp at hj
        subst hj
        have hrest : m.map (fun p => if p.1 = k then (k, v) else p) = m := by
          conv => rhs; rw [← List.map_id m]
          apply List.map_congr_left
          intro q hq
          have : q.1 ≠ k := fun e => hn.1 (List.mem_map.2 ⟨q, hq, e⟩)
          simp [this]
        simp only [List.modify_zero_cons, List.map_cons, if_true, (hf e).1, (hf e).2, h.2, hrest]
      | succ j =>
        simp at hj
        have hne : p.1 ≠ k := fun e => hn.1 (List.mem_map.2 ⟨(k, v'), List.mem_of_getElem? hj, e.symm⟩)
        simp only [List.modify_succ_cons, List.map_cons, if_neg hne, h.1, map_replace hf es m j v' h.2 hn.2 hj]
theorem map_erase {kenc : κ → Value} {k : κ} : ∀ (es : List MapEntry) (m : List (κ × Value)) (j : Nat) (v' : Value), es.map (fun e => (e.key, e.val)) = m.map (fun p => (kenc p.1, p.2)) → (m.map (·.1)).Nodup → m[j]? = some (k, v') →
      (es.eraseIdx j).map (fun e => (e.key, e.val)) = (dl m k).map (fun p => (kenc p.1, p.2))
  | [], m, j, v', h, _, hj => by
    cases m with
    | nil => simp at hj
    | cons => simp at h
  | e :: es, m, j, v', h, hn, hj => by
    cases m with
    | nil => simp at h
    | cons p m =>
      simp only [List.map_cons, List.cons.injEq] at h
      rw [List.map_cons, List.nodup_cons] at hn
      cases j with
      | zero =>
        simp at hj
        subst hj
        have hrest : m.filter (fun p => p.1 ≠ k) = m := by
          rw [List.filter_eq_self]
          intro q hq
          have : q.1 ≠ k := fun e => hn.1 (List.mem_map.2 ⟨q, hq, e⟩)
          simp [this]
        simp only [List.eraseIdx_zero, List.tail_cons, dl, h.2]
        rw [List.filter_cons_of_neg (by simp), hrest]
      | succ j =>
        simp at hj
        have hne : p.1 ≠ k := fun e => hn.1 (List.mem_map.2 ⟨(k, v'), List.mem_of_getElem? hj, e.symm⟩)
        simp only [List.eraseIdx_cons_succ, List.map_cons, dl]
        rw [List.filter_cons_of_pos (by simpa using hne), List.map_cons, h.1]
        have := map_erase es m j v' h.2 hn.2 hj
        rw [this]
        rfl

/-! ### What the operations do -/
variable {P : Program} {T kt et : TypeId} {kenc : κ → Value} {b : Nat} {m : List (κ × Value)} {w : World}
theorem run_mapUpdate_raw (K : KeyOk P kt kenc) (ht : P.underlying T = some (.map kt et)) (h : RawMap w b kenc m) (k : κ) (v : Value) :
    ∃ w', (Instr.mapUpdate T (.map (some b)) (kenc k) v).run P w = .ok () w' ∧ RawMap w' b kenc (up m k v) ∧ w.grownBy w' (some b) := by
  obtain ⟨es, clock, hb, hkv, hn, hborn, hnb⟩ := h
  have hg : ∀ o', w.grownBy { w with heap := w.heap.setIfInBounds b o' } (some b) := fun o' => ⟨rfl, rfl, rfl, by simp, fun i _ hne => by simp at hne ⊢; rw [Array.getElem?_setIfInBounds_ne (fun e => hne e.symm)]⟩
  rcases K.find k es.toList w (kv_keys hkv) with ⟨h1, h2⟩ | ⟨j, e, h1, h2, h3⟩
  · refine ⟨_, by simp [Instr.mapUpdate, run_underlying ht, MapKept.run_getObj_map hb, K.check, h1, MapKept.run_setObj_map _ hb, Result.andThen]; rfl, ?_, hg _⟩
    have hk := kv_absent hkv h2
    refine ⟨_, _, (heap_set hb).1, ?_, up_nodup hn k v, ?_, ?_⟩
    · unfold up
      rw [if_neg hk]
      simp [hkv]
    · intro x hx
      simp at hx
      rcases hx with hx | rfl
      · have := hborn x (by simpa using hx); omega
      · simp
    · simp only [Array.toList_push, List.map_append, List.map_cons, List.map_nil]
      rw [List.nodup_append]
      refine ⟨hnb, by simp, ?_⟩
      intro a ha c hc
      simp at hc
      subst hc
      obtain ⟨x, hx, rfl⟩ := List.mem_map.1 ha
      have := hborn x hx
      omega
  · have hj : es[j]? = some e := by simpa using h2
    obtain ⟨p, hp, hpk, hpv⟩ := kv_at hkv h2
    have hpk' : p.1 = k := K.inj _ _ (hpk.symm.trans h3)
    have hmem : k ∈ m.map (·.1) := List.mem_map.2 ⟨p, List.mem_of_getElem? hp, hpk'⟩
    refine ⟨_, by simp [Instr.mapUpdate, run_underlying ht, MapKept.run_getObj_map hb, K.check, h1, hj, h3, K.stays, MapKept.run_setObj_map _ hb, Result.andThen]; rfl, ?_, hg _⟩
    refine ⟨_, _, (heap_set hb).1, ?_, up_nodup hn k v, ?_, ?_⟩
    · unfold up
      rw [if_pos hmem, Array.toList_modify]
      exact map_replace (kenc := kenc) (k := k) (v := v) (fun e => ⟨rfl, rfl⟩) _ m j p.2 hkv hn (by rw [hp, ← hpk'])
    · intro x hx
      rw [Array.toList_modify] at hx
      obtain ⟨i, hi, rfl⟩ := List.getElem_of_mem hx
      rw [List.getElem_modify]
      have hi' : i < es.toList.length := by simpa using hi
      have hb' := hborn _ (List.getElem_mem hi')
      split
      · exact hb'
      · exact hborn _ (List.getElem_mem _)
    · have : ((es.modify j fun e => { key := kenc k, val := v, born := e.born }).toList.map (·.born)) = es.toList.map (·.born) := by
        apply List.ext_getElem?
        intro i
        rw [Array.toList_modify]
        simp only [List.getElem?_map, List.getElem?_modify]
        cases es.toList[i]? with
        | none => simp
        | some x => by_cases hij : j = i <;> simp [hij]
      rw [this]
      exact hnb
theorem run_lookup_raw (K : KeyOk P kt kenc) (ht : P.underlying T = some (.map kt et)) {z : Value} (hz : ∀ w, (zeroValue et).run P w = .ok z w) (h : RawMap w b kenc m) (k : κ) (ok : Bool) :
    (Instr.lookup T (.map (some b)) (kenc k) ok).run P w = .ok (if ok then .tuple #[(lk m k).getD z, .bool (lk m k).isSome] else (lk m k).getD z) w := by
  obtain ⟨es, clock, hb, hkv, hn, _⟩ := h
  rcases K.find k es.toList w (kv_keys hkv) with ⟨h1, h2⟩ | ⟨j, e, h1, h2, h3⟩
  · have hl := lk_none (kv_absent hkv h2)
    cases ok <;> simp [Instr.lookup, run_underlying ht, MapKept.run_getObj_map hb, K.check, h1, hz, hl, Result.andThen]
  · obtain ⟨p, hp, hpk, hpv⟩ := kv_at hkv h2
    have hpk' : p.1 = k := K.inj _ _ (hpk.symm.trans h3)
    have hl := lk_at hn hp
    rw [hpk', ← hpv] at hl
    cases ok <;> simp [Instr.lookup, run_underlying ht, MapKept.run_getObj_map hb, K.check, h1, hl, Result.andThen]
theorem run_delete_raw (K : KeyOk P kt kenc) (ht : P.underlying T = some (.map kt et)) (h : RawMap w b kenc m) (k : κ) (ty : TypeId) (t2 : TypeId) :
    ∃ w', (Builtin.delete_ #[T, t2] ty #[.map (some b), kenc k]).run P w = .ok (.tuple #[]) w' ∧ RawMap w' b kenc (dl m k) ∧ w.grownBy w' (some b) := by
  obtain ⟨es, clock, hb, hkv, hn, hborn, hnb⟩ := h
  have hg : ∀ o', w.grownBy { w with heap := w.heap.setIfInBounds b o' } (some b) := fun o' => ⟨rfl, rfl, rfl, by simp, fun i _ hne => by simp at hne ⊢; rw [Array.getElem?_setIfInBounds_ne (fun e => hne e.symm)]⟩
  rcases K.find k es.toList w (kv_keys hkv) with ⟨h1, h2⟩ | ⟨j, e, h1, h2, h3⟩
  · refine ⟨_, by simp [Builtin.delete_, run_underlying ht, MapKept.run_getObj_map hb, K.check, h1, MapKept.run_setObj_map _ hb, Result.andThen]; rfl, ?_, hg _⟩
    have hk := kv_absent hkv h2
    refine ⟨_, _, (heap_set hb).1, ?_, dl_nodup hn k, hborn, hnb⟩
    unfold dl
    rw [List.filter_eq_self.2]
    · exact hkv
    · intro p hp
      simp
      exact fun e => hk (List.mem_map.2 ⟨p, hp, e⟩)
  · have hj : es[j]? = some e := by simpa using h2
    obtain ⟨p, hp, hpk, hpv⟩ := kv_at hkv h2
    have hpk' : p.1 = k := K.inj _ _ (hpk.symm.trans h3)
    have hlt : j < es.size := (Array.getElem?_eq_some_iff.1 hj).1
    have he : (es.eraseIdxIfInBounds j).toList = es.toList.eraseIdx j := by
      unfold Array.eraseIdxIfInBounds
      rw [dif_pos hlt, Array.toList_eraseIdx]
    refine ⟨_, by simp [Builtin.delete_, run_underlying ht, MapKept.run_getObj_map hb, K.check, h1, MapKept.run_setObj_map _ hb, Result.andThen]; rfl, ?_, hg _⟩
    refine ⟨_, _, (heap_set hb).1, ?_, dl_nodup hn k, ?_, ?_⟩
    · rw [he]
      exact map_erase _ _ j p.2 hkv hn (by rw [hp, ← hpk'])
    · intro x hx
      rw [he] at hx
      exact hborn x ((List.eraseIdx_sublist _ _).subset hx)
    · rw [he]
      exact ((List.eraseIdx_sublist _ _).map _).nodup hnb
omit [DecidableEq κ] in
theorem run_len_raw (ht : P.underlying T = some (.map kt et)) (h : RawMap w b kenc m) (ty : TypeId) : (Builtin.len_ #[T] ty #[.map (some b)]).run P w = .ok (goInt m.length) w := by
  obtain ⟨es, clock, hb, hkv, _⟩ := h
  have hl := congrArg List.length hkv
  simp at hl
  simp [Builtin.len_, run_underlying ht, MapKept.run_getObj_map hb, Result.andThen, hl]

/-! ### The same at the operation, for the walk, inside a fence and outside -/
variable {F : Fence} {nF : Nat} {ops : Array Oper} {rest : List Oper} {o : Oper} {a : Act} {Q : Exit → Act → World → Prop}
theorem wpListIn_mapUpdate_raw (hg : o.guard = none) (mo x vo : Operand) (hop : o.op = Op.mapUpdate T mo x vo) (K : KeyOk P kt kenc) (ht : P.underlying T = some (.map kt et))
    (hm : a.eval mo = .map (some b)) (h : RawMap w b kenc m) (k : κ) (v : Value) (hx : a.eval x = kenc k) (hv : a.eval vo = v)
    (hK : ∀ w', RawMap w' b kenc (up m k v) → w.grownBy w' (some b) → wpListIn F nF P ops Q rest (a.put o.dst undef) w') : wpListIn F nF P ops Q (o :: rest) a w := by
  refine wpListIn_plain hg fun K' hK' => ?_
  obtain ⟨w', hrun, r1, r2⟩ := run_mapUpdate_raw K ht h k v
  unfold Oper.wpIn
  refine ⟨by simp [Oper.about, hop], ?_⟩
  rw [Oper.semAt_plain F _ _ (by rw [hop]; intro c hc'; cases hc')]
  simp [execOp, hop, hm, hx, hv, hrun, Result.andThen]
  exact hK' _ _ (hK w' r1 r2)
theorem wpList_mapUpdate_raw (hg : o.guard = none) (mo x vo : Operand) (hop : o.op = Op.mapUpdate T mo x vo) (K : KeyOk P kt kenc) (ht : P.underlying T = some (.map kt et))
    (hm : a.eval mo = .map (some b)) (h : RawMap w b kenc m) (k : κ) (v : Value) (hx : a.eval x = kenc k) (hv : a.eval vo = v)
    (hK : ∀ w', RawMap w' b kenc (up m k v) → w.grownBy w' (some b) → wpList P ops Q rest (a.put o.dst undef) w') : wpList P ops Q (o :: rest) a w := by
  refine wpList_plain hg fun K' hK' => ?_
  obtain ⟨w', hrun, r1, r2⟩ := run_mapUpdate_raw K ht h k v
  unfold Oper.wp
  simp [execOp, hop, hm, hx, hv, hrun, Result.andThen]
  exact hK' _ _ (hK w' r1 r2)
theorem wpListIn_delete_raw (hg : o.guard = none) (mo x : Operand) (t2 : TypeId) (hop : o.op = Op.call { callee := Callee.builtin Builtin.delete, args := #[mo, x], argTypes := #[T, t2] }) (K : KeyOk P kt kenc) (ht : P.underlying T = some (.map kt et))
    (hm : a.eval mo = .map (some b)) (h : RawMap w b kenc m) (k : κ) (hx : a.eval x = kenc k)
    (hK : ∀ w', RawMap w' b kenc (dl m k) → w.grownBy w' (some b) → wpListIn F nF P ops Q rest (a.put o.dst (.tuple #[])) w') : wpListIn F nF P ops Q (o :: rest) a w := by
  refine wpListIn_plain hg fun K' hK' => ?_
  obtain ⟨w', hrun, r1, r2⟩ := run_delete_raw K ht h k o.type t2
  unfold Oper.wpIn
  refine ⟨by simp [Oper.about, hop, resolve, Target.leads, Sem.run_pure], ?_⟩
  rw [Oper.semAt_plain F _ _ (by rw [hop]; intro c hc'; cases hc')]
  simp [execOp, hop, resolve, invoke, builtin, hm, hx, hrun, Result.andThen]
  exact hK' _ _ (hK w' r1 r2)
theorem wpList_delete_raw (hg : o.guard = none) (mo x : Operand) (t2 : TypeId) (hop : o.op = Op.call { callee := Callee.builtin Builtin.delete, args := #[mo, x], argTypes := #[T, t2] }) (K : KeyOk P kt kenc) (ht : P.underlying T = some (.map kt et))
    (hm : a.eval mo = .map (some b)) (h : RawMap w b kenc m) (k : κ) (hx : a.eval x = kenc k)
    (hK : ∀ w', RawMap w' b kenc (dl m k) → w.grownBy w' (some b) → wpList P ops Q rest (a.put o.dst (.tuple #[])) w') : wpList P ops Q (o :: rest) a w := by
  refine wpList_plain hg fun K' hK' => ?_
  obtain ⟨w', hrun, r1, r2⟩ := run_delete_raw K ht h k o.type t2
  unfold Oper.wp
  simp [execOp, hop, resolve, invoke, builtin, hm, hx, hrun, Result.andThen]
  exact hK' _ _ (hK w' r1 r2)
theorem wpListIn_lookup_raw (hg : o.guard = none) (mo x : Operand) (ok : Bool) (hop : o.op = Op.lookup T mo x ok) (K : KeyOk P kt kenc) (ht : P.underlying T = some (.map kt et)) (z : Value) (hz : ∀ w, (zeroValue et).run P w = .ok z w)
    (hm : a.eval mo = .map (some b)) (h : RawMap w b kenc m) (k : κ) (hx : a.eval x = kenc k)
    (hK : wpListIn F nF P ops Q rest (a.put o.dst (if ok then .tuple #[(lk m k).getD z, .bool (lk m k).isSome] else (lk m k).getD z)) w) : wpListIn F nF P ops Q (o :: rest) a w := by
  refine wpListIn_plain hg fun K' hK' => ?_
  have hrun := run_lookup_raw K ht hz h k ok
  unfold Oper.wpIn
  refine ⟨by simp [Oper.about, hop], ?_⟩
  rw [Oper.semAt_plain F _ _ (by rw [hop]; intro c hc'; cases hc')]
  simp [execOp, hop, hm, hx, hrun, Result.andThen]
  exact hK' _ _ hK
theorem wpList_lookup_raw (hg : o.guard = none) (mo x : Operand) (ok : Bool) (hop : o.op = Op.lookup T mo x ok) (K : KeyOk P kt kenc) (ht : P.underlying T = some (.map kt et)) (z : Value) (hz : ∀ w, (zeroValue et).run P w = .ok z w)
    (hm : a.eval mo = .map (some b)) (h : RawMap w b kenc m) (k : κ) (hx : a.eval x = kenc k)
    (hK : wpList P ops Q rest (a.put o.dst (if ok then .tuple #[(lk m k).getD z, .bool (lk m k).isSome] else (lk m k).getD z)) w) : wpList P ops Q (o :: rest) a w := by
  refine wpList_plain hg fun K' hK' => ?_
  have hrun := run_lookup_raw K ht hz h k ok
  unfold Oper.wp
  simp [execOp, hop, hm, hx, hrun, Result.andThen]
  exact hK' _ _ hK
omit [DecidableEq κ] in
theorem wpListIn_len_raw (hg : o.guard = none) (mo : Operand) (hop : o.op = Op.call { callee := Callee.builtin Builtin.len, args := #[mo], argTypes := #[T] }) (ht : P.underlying T = some (.map kt et))
    (hm : a.eval mo = .map (some b)) (h : RawMap w b kenc m)
    (hK : wpListIn F nF P ops Q rest (a.put o.dst (.int .i64 m.length)) w) : wpListIn F nF P ops Q (o :: rest) a w := by
  refine wpListIn_plain hg fun K' hK' => ?_
  unfold Oper.wpIn
  refine ⟨by simp [Oper.about, hop, resolve, Target.leads, Sem.run_pure], ?_⟩
  rw [Oper.semAt_plain F _ _ (by rw [hop]; intro c hc'; cases hc')]
  simp [execOp, hop, resolve, invoke, builtin, hm, run_len_raw ht h o.type, Result.andThen]
  exact hK' _ _ hK
omit [DecidableEq κ] in
theorem wpList_len_raw (hg : o.guard = none) (mo : Operand) (hop : o.op = Op.call { callee := Callee.builtin Builtin.len, args := #[mo], argTypes := #[T] }) (ht : P.underlying T = some (.map kt et))
    (hm : a.eval mo = .map (some b)) (h : RawMap w b kenc m)
    (hK : wpList P ops Q rest (a.put o.dst (.int .i64 m.length)) w) : wpList P ops Q (o :: rest) a w := by
  refine wpList_plain hg fun K' hK' => ?_
  unfold Oper.wp
  simp [execOp, hop, resolve, invoke, builtin, hm, run_len_raw ht h o.type, Result.andThen]
  exact hK' _ _ hK
end
end Go.Proofs.YtoaegleieacokaaGreat
namespace Go.Proofs.YtoaegleieacokaaGreat
open Go.RowKit Go.Shelf Go.MapKept

theorem inj_of_nodup {α β : Type} (f : α → β) : ∀ {l : List α}, (l.map f).Nodup → ∀ {x y : α}, x ∈ l → y ∈ l → f x = f y → x = y
  | [], _, _, _, hx, _, _ => by simp at hx
  | a :: l, h, x, y, hx, hy, e => by
    rw [List.map_cons, List.nodup_cons] at h
    rcases List.mem_cons.1 hx with rfl | hx
    · rcases List.mem_cons.1 hy with rfl | hy
      · rfl
      · exact absurd (List.mem_map.2 ⟨y, hy, e.symm⟩) h.1
    · rcases List.mem_cons.1 hy with e1 | hy
      · exact absurd (List.mem_map.2 ⟨x, hx, e1 ▸ e⟩) h.1
      · exact inj_of_nodup f h.2 hx hy e
theorem nodup_of_inj {α β : Type} {f : α → β} (hf : ∀ a b, f a = f b → a = b) : ∀ {l : List α}, l.Nodup → (l.map f).Nodup
  | [], _ => by simp
  | a :: l, h => by
    rw [List.nodup_cons] at h
    rw [List.map_cons, List.nodup_cons]
    refine ⟨fun hm => ?_, nodup_of_inj hf h.2⟩
    obtain ⟨b, hb, e⟩ := List.mem_map.1 hm
    exact h.1 (hf _ _ e ▸ hb)
theorem perm_filter_key {κ β : Type} [DecidableEq κ] : ∀ {l : List (κ × β)}, (l.map (·.1)).Nodup → ∀ {p : κ × β}, p ∈ l → l.Perm (p :: l.filter fun q => q.1 ≠ p.1)
  | [], _, _, hp => by simp at hp
  | a :: l, h, p, hp => by
    rw [List.map_cons, List.nodup_cons] at h
    rcases List.mem_cons.1 hp with rfl | hp
    · have : (p :: l).filter (fun q => q.1 ≠ p.1) = l := by
        rw [List.filter_cons_of_neg (by simp), List.filter_eq_self]
        intro q hq
        simp only [ne_eq, decide_not, Bool.not_eq_eq_eq_not, Bool.not_true, decide_eq_false_iff_not]
        exact fun e => h.1 (List.mem_map.2 ⟨q, hq, e⟩)
      rw [this]
    · have hne : a.1 ≠ p.1 := fun e => h.1 (List.mem_map.2 ⟨p, hp, e.symm⟩)
      rw [List.filter_cons_of_pos (by simpa using hne)]
      exact ((perm_filter_key h.2 hp).cons a).trans (List.Perm.swap _ _ _)
theorem leftOf_push (es : Array MapEntry) (seen : Array Nat) (n : Nat) : (leftOf es (seen.push n)).toList = (leftOf es seen).toList.filter fun x => x.born ≠ n := by
  unfold leftOf
  rw [Array.toList_filter, Array.toList_filter, List.filter_filter]
  congr 1
  funext x
  by_cases h : x.born = n <;> simp [h]

section
variable {κ : Type} [DecidableEq κ]
/-- The iterator in block r goes over the map in block b; of its keys and values m those of rem are still to come. -/
def RawRg (W : World) (b r : Nat) (kenc : κ → Value) (m rem : List (κ × Value)) : Prop :=
  ∃ es clock since seen c0, W.heap[b]? = some (.map es clock) ∧ es.toList.map (fun e => (e.key, e.val)) = m.map (fun p => (kenc p.1, p.2)) ∧ (m.map (·.1)).Nodup ∧ (es.toList.map (·.born)).Nodup ∧
    W.heap[r]? = some (.mapIter (some b) since seen c0) ∧ (∀ x ∈ es.toList, x.born < since) ∧ since ≤ c0 ∧ since ≤ clock ∧ (leftOf es seen).toList.map (fun e => (e.key, e.val)) = rem.map (fun p => (kenc p.1, p.2))

variable {kenc : κ → Value} {W : World} {b r : Nat} {m rem : List (κ × Value)}
omit [DecidableEq κ] in
theorem RawRg.left_eq (h : RawRg W b r kenc m rem) : W.rangeLeft b r = rem.length := by
  obtain ⟨es, clock, since, seen, c0, hb, _, _, _, hr, _, _, _, hl⟩ := h
  simp only [World.rangeLeft, hb, hr]
  have := congrArg List.length hl
  simpa using this
omit [DecidableEq κ] in
theorem RawRg.iter_walk (h : RawRg W b r kenc m rem) : ∃ o : Obj, W.heap[r]? = some o ∧ o.isWalk = true := by
  obtain ⟨es, clock, since, seen, c0, _, _, _, _, hr, _⟩ := h
  exact ⟨_, hr, rfl⟩
omit [DecidableEq κ] in
theorem RawRg.of_walks {W' : World} (h : RawRg W b r kenc m rem) (k : KeepsWalks W W') : RawRg W' b r kenc m rem := by
  obtain ⟨es, clock, since, seen, c0, hb, h1, h2, h3, hr, h4⟩ := h
  exact ⟨es, clock, since, seen, c0, k.same _ _ hb rfl, h1, h2, h3, k.same _ _ hr rfl, h4⟩
omit [DecidableEq κ] in
theorem RawMap.range {P : Program} {t kt e : TypeId} (ht : P.underlying t = some (.map kt e)) (h : RawMap W b kenc m) :
    ∃ W', (Instr.range t (.map (some b))).run P W = .ok (.pointer (some ⟨W.heap.size, 0, none⟩)) W' ∧ RawRg W' b W.heap.size kenc m m ∧ W.grownBy W' none ∧ W'.heap.size = W.heap.size + 1 := by
  have hlt := h.lt
  obtain ⟨es, clock, hb, h1, h2, h3, h4⟩ := h
  refine ⟨_, run_range_map W t kt e b es clock ht hb, ⟨es, clock, clock, #[], clock, ((MapKept.heap_alloc W _).2 b hlt).trans hb, h1, h2, h4, (MapKept.heap_alloc W _).1, h3, Nat.le_refl _, Nat.le_refl _, ?_⟩, World.grownBy_alloc W _ none, by simp⟩
  rw [← h1]
  unfold leftOf
  simp
  rw [List.filter_eq_self.2 (fun _ _ => rfl)]
theorem sb_same {W : World} {r : Nat} (h : r < W.heap.size) (o : Obj) : (ChangeMaps.setBlock W r o).heap[r]? = some o := by simp [ChangeMaps.setBlock, h]
theorem sb_other (W : World) {r i : Nat} (o : Obj) (h : i ≠ r) : (ChangeMaps.setBlock W r o).heap[i]? = W.heap[i]? := by
  simp only [ChangeMaps.setBlock]
  exact Array.getElem?_setIfInBounds_ne (fun e => h e.symm)

omit [DecidableEq κ] in
theorem filter_kv {f : MapEntry → Bool} {g : κ × Value → Bool} : ∀ {L : List MapEntry} {R : List (κ × Value)}, L.map (fun e => (e.key, e.val)) = R.map (fun p => (kenc p.1, p.2)) → (∀ x ∈ L, ∀ p ∈ R, x.key = kenc p.1 → f x = g p) → (L.filter f).map (fun e => (e.key, e.val)) = (R.filter g).map (fun p => (kenc p.1, p.2))
  | [], R, h, _ => by
    cases R with
    | nil => rfl
    | cons => simp at h
  | x :: L, R, h, hfg => by
    cases R with
    | nil => simp at h
    | cons p R =>
      simp only [List.map_cons, List.cons.injEq, Prod.mk.injEq] at h
      have h1 := hfg x (by simp) p (by simp) h.1.1
      have h2 := filter_kv h.2 (fun y hy q hq => hfg y (by simp [hy]) q (by simp [hq]))
      cases hg : g p with
      | true => rw [List.filter_cons_of_pos (by rw [h1, hg]), List.filter_cons_of_pos hg, List.map_cons, List.map_cons, h2, h.1.1, h.1.2]
      | false => rw [List.filter_cons_of_neg (by rw [h1, hg]; simp), List.filter_cons_of_neg (by simp [hg]), h2]

theorem RawRg.next {P : Program} (hinj : ∀ a b, kenc a = kenc b → a = b) (h : RawRg W b r kenc m rem) (ty : TypeId) :
    (rem = [] ∧ (Instr.next (.pointer (some ⟨r, 0, none⟩)) false ty).run P W = .ok (.tuple #[.bool false]) W) ∨
    ∃ p ∈ rem, ∃ W' : World, (Instr.next (.pointer (some ⟨r, 0, none⟩)) false ty).run P W = .ok (.tuple #[.bool true, kenc p.1, p.2]) W' ∧ RawRg W' b r kenc m (rem.filter fun q => q.1 ≠ p.1) ∧ W.grownBy W' (some r) ∧ W'.heap.size = W.heap.size ∧
      (Instr.entry (.pointer (some ⟨r, 0, none⟩))).run P W' = .ok (.tuple #[kenc p.1, p.2]) W' := by
  obtain ⟨es, clock, since, seen, c0, hb, h1, h2, h3, hr, h4, h5, h6, hl⟩ := h
  have hne : r ≠ b := by
    intro e
    rw [e, hb] at hr
    cases hr
  rcases run_next_at (P := P) W ty r b since c0 seen es clock hr hb h4 h5 with ⟨h0, hrun⟩ | ⟨e, he, w1, hw1, hrun⟩
  · refine .inl ⟨?_, hrun⟩
    have := congrArg List.length hl
    simp [h0] at this
    exact List.eq_nil_of_length_eq_zero this.symm
  · have hm : (e.key, e.val) ∈ rem.map (fun p => (kenc p.1, p.2)) := by rw [← hl]; exact List.mem_map.2 ⟨e, he, rfl⟩
    obtain ⟨p, hp, hpe⟩ := List.mem_map.1 hm
    obtain ⟨ek, ev⟩ : kenc p.1 = e.key ∧ p.2 = e.val := by simpa using hpe
    have hin : ∀ x ∈ (leftOf es seen).toList, x ∈ es.toList := by
      intro x hx
      unfold leftOf at hx
      simp at hx
      simpa using hx.1
    have hkeys : (es.toList.map (fun e => e.key)).Nodup := by
      have := congrArg (List.map Prod.fst) h1
      rw [List.map_map, List.map_map] at this
      rw [show (es.toList.map fun e => e.key) = es.toList.map (Prod.fst ∘ fun e => (e.key, e.val)) from rfl, this]
      rw [show (m.map (Prod.fst ∘ fun p => (kenc p.1, p.2))) = (m.map (·.1)).map kenc from by rw [List.map_map]; rfl]
      exact nodup_of_inj hinj h2
    have hb1 : w1.heap[b]? = some (.map es clock) := by rcases hw1 with rfl | rfl <;> exact hb
    have hr1 : w1.heap[r]? = some (.mapIter (some b) since seen c0) := by rcases hw1 with rfl | rfl <;> exact hr
    have hrb : (ChangeMaps.setBlock w1 r (.mapIter (some b) since (seen.push e.born) clock)).heap[b]? = some (.map es clock) := (sb_other w1 _ (fun e => hne e.symm)).trans hb1
    have hrr : (ChangeMaps.setBlock w1 r (.mapIter (some b) since (seen.push e.born) clock)).heap[r]? = some (.mapIter (some b) since (seen.push e.born) clock) := sb_same (Array.getElem?_eq_some_iff.1 hr1).1 _
    refine .inr ⟨p, hp, _, by rw [ek, ev]; exact hrun, ⟨es, clock, since, _, clock, hrb, h1, h2, h3, hrr, h4, h6, h6, ?_⟩, ?_, ?_, ?_⟩
    · rw [leftOf_push]
      refine filter_kv hl fun x hx q hq hxq => ?_
      rw [decide_eq_decide]
      constructor
      · intro hn e1
        refine hn ?_
        have : x = e := inj_of_nodup (fun e => e.key) hkeys (hin x hx) (hin e he) (by show x.key = e.key; rw [hxq, ← ek, e1])
        rw [this]
      · intro hn e1
        have : x = e := inj_of_nodup (fun e => e.born) h3 (hin x hx) (hin e he) e1
        rw [this, ← ek] at hxq
        exact hn (hinj _ _ hxq).symm
    · rcases hw1 with rfl | rfl
      · exact ⟨rfl, rfl, rfl, by simp [ChangeMaps.setBlock], fun i _ hi => sb_other _ _ (fun e => hi (by rw [e]))⟩
      · exact ⟨rfl, rfl, rfl, by simp [ChangeMaps.setBlock], fun i _ hi => sb_other _ _ (fun e => hi (by rw [e]))⟩
    · rcases hw1 with rfl | rfl <;> simp [ChangeMaps.setBlock]
    · rw [ek, ev]
      exact run_entry_at _ r b since seen es clock e hrr hrb (hin e he) h3

/-! ### At the operation, inside a fence -/
variable {F : Fence} {nF : Nat} {P : Program} {ops : Array Oper} {rest : List Oper} {o : Oper} {a : Act} {Q : Exit → Act → World → Prop} {w : World}
omit [DecidableEq κ] in
theorem wpListIn_range_raw (hg : o.guard = none) (mo : Operand) (t kt e : TypeId) (hop : o.op = Op.range t mo) (ht : P.underlying t = some (.map kt e)) (hm : a.eval mo = .map (some b)) (h : RawMap w b kenc m)
    (hK : ∀ w', RawRg w' b w.heap.size kenc m m → w.grownBy w' none → w'.heap.size = w.heap.size + 1 → wpListIn F nF P ops Q rest (a.put o.dst (.pointer (some ⟨w.heap.size, 0, none⟩))) w') :
    wpListIn F nF P ops Q (o :: rest) a w := by
  refine wpListIn_plain hg fun K' hK' => ?_
  obtain ⟨w', hrun, r1, r2, r3⟩ := h.range (P := P) ht
  unfold Oper.wpIn
  refine ⟨by simp [Oper.about, hop], ?_⟩
  rw [Oper.semAt_plain F _ _ (by rw [hop]; intro c hc'; cases hc')]
  simp [execOp, hop, hm, hrun, Result.andThen]
  exact hK' _ _ (hK w' r1 r2 r3)
theorem wpListIn_next_raw (hg : o.guard = none) (it : Operand) (hop : o.op = Op.next it false) (hinj : ∀ a b, kenc a = kenc b → a = b) (hit : a.eval it = .pointer (some ⟨r, 0, none⟩)) (h : RawRg w b r kenc m rem)
    (hDone : rem = [] → wpListIn F nF P ops Q rest (a.put o.dst (.tuple #[.bool false])) w)
    (hMore : ∀ p w', p ∈ rem → RawRg w' b r kenc m (rem.filter fun q => q.1 ≠ p.1) → w.grownBy w' (some r) → w'.heap.size = w.heap.size → (Instr.entry (.pointer (some ⟨r, 0, none⟩))).run P w' = .ok (.tuple #[kenc p.1, p.2]) w' →
      wpListIn F nF P ops Q rest (a.put o.dst (.tuple #[.bool true, kenc p.1, p.2])) w') :
    wpListIn F nF P ops Q (o :: rest) a w := by
  refine wpListIn_plain hg fun K' hK' => ?_
  unfold Oper.wpIn
  refine ⟨by simp [Oper.about, hop], ?_⟩
  rw [Oper.semAt_plain F _ _ (by rw [hop]; intro c hc'; cases hc')]
  rcases h.next (P := P) hinj o.type with ⟨h0, hrun⟩ | ⟨p, hp, w', hrun, r1, r2, r3, r4⟩
  · simp [execOp, hop, hit, hrun, Result.andThen]
    exact hK' _ _ (hDone h0)
  · simp [execOp, hop, hit, hrun, Result.andThen]
    exact hK' _ _ (hMore p w' hp r1 r2 r3 r4)
end
end Go.Proofs.YtoaegleieacokaaGreat
