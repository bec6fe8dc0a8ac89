/- A region that draws its order, whose head only reads and whose tail is forced, inside a fence, in a round of a loop too. No function of the program is named here. -/
import Derived.StillTail
import Derived.StillTactics
import Derived.OrdersIn
import Derived.OwnWalkIn
namespace Go.Proofs.Ytoaegleieacokaa
open Go
section
variable {F : Fence} {nF : Nat} {P : Program} {ops : Array Oper} {Q : Exit → Act → World → Prop} {md : Region.Mode} {w : World}

def plainCallee : Callee → Bool
  | .builtin .len => true
  | .builtin .max => true
  | .builtin .min => true
  | _ => false
def plainOp : Op → Bool
  | .call c => plainCallee c.callee
  | .move _ => true
  | .assign _ => true
  | .load .. => true
  | .fieldAddr .. => true
  | .field .. => true
  | .nilCheck _ => true
  | .slice .. => true
  | .build .. => true
  | .lookup .. => true
  | .binOp .. => true
  | .convert .. => true
  | .indexAddr .. => true
  | .extract .. => true
  | .index .. => true
  | _ => false
theorem andThen_value (r : Result Value) (f : FuncId) (args : Array Value) (w' : World) : (r.andThen fun v w => Result.ok (Next.value v) w) ≠ .ok (.enter f args) w' := by
  cases r <;> simp [Result.andThen]
theorem plain_enter {o : Oper} (h : plainOp o.op = true) (ρ : Operand → Value) (w : World) (f : FuncId) (args : Array Value) (w' : World) : (execOp ρ o).run P w ≠ .ok (.enter f args) w' := by
  cases hop : o.op <;> rw [hop] at h <;> first | (simp [plainOp] at h; done) | skip
  case call c =>
    obtain ⟨callee, args', argTypes⟩ := c
    cases callee <;> first | (simp [plainOp, plainCallee] at h; done) | skip
    rename_i b
    cases b <;> first | (simp [plainOp, plainCallee] at h; done) | skip
    all_goals
      simp only [execOp, hop, resolve, invoke, builtin, Sem.run_bind, Sem.run_pure, Result.andThen]
      exact andThen_value _ _ _ _
  all_goals simp only [execOp, hop]
  case nilCheck x =>
    generalize ρ x = y
    split
    · simp [runtimePanic]
    · simp [runtimePanic]
    · simp [runtimePanic]
    · split
      · simp [runtimePanic]
      · intro h
        simp only [Sem.run_bind] at h
        generalize Sem.run P program w = r at h
        cases r with
        | halt x w1 => simp [Result.andThen] at h
        | ok a1 w1 =>
          simp only [Result.andThen] at h
          revert h
          generalize Sem.run P (nilAhead _ _ _ _) w1 = r
          intro h
          cases r with
          | halt x w2 => simp at h
          | ok a2 w2 =>
            simp only at h
            split at h
            · simp [unsupported, Sem.run] at h
            · simp [Sem.run_pure] at h
      · simp [Sem.run_pure]
    · simp [Sem.run_pure]
  all_goals
    simp only [Sem.run_bind, Sem.run_pure]
    first | exact andThen_value _ _ _ _ | simp
theorem plain_about {o : Oper} (h : plainOp o.op = true) (ρ : Operand → Value) (w : World) : o.about P w ρ = none := by
  cases hop : o.op <;> rw [hop] at h <;> first | (simp [plainOp] at h; done) | skip
  case call c =>
    obtain ⟨callee, args', argTypes⟩ := c
    cases callee <;> first | (simp [plainOp, plainCallee] at h; done) | skip
    rename_i b
    cases b <;> first | (simp [plainOp, plainCallee] at h; done) | skip
    all_goals simp [Oper.about, hop, resolve, Target.leads, Sem.run_pure]
  all_goals simp [Oper.about, hop]
theorem plain_defer {o : Oper} (h : plainOp o.op = true) : ∀ c, o.op ≠ .defer c := by
  intro c hc
  rw [hc] at h
  simp [plainOp] at h

theorem wpOpIn_of_stOp {i : Nat} {a : Act} {K : Act → Prop} {K' : Act → World → Prop} (hp : ∀ o, ops[i]? = some o → plainOp o.op = true) (hK : ∀ a, K a → K' a w) (h : stOp P ops w i K a) : wpOpIn F nF P ops Q i K' a w := by
  unfold stOp at h
  unfold wpOpIn
  cases ho : ops[i]? with
  | none => rw [ho] at h; exact hK _ h
  | some o =>
    rw [ho] at h
    have hpo := hp o ho
    simp only at h ⊢
    have hab : ∀ f, o.about P w a.eval = some f → F.fn f := fun f hf => by rw [plain_about hpo] at hf; cases hf
    split
    · rename_i hw
      rw [if_pos hw] at h
      refine ⟨hab, ?_⟩
      rw [Oper.semAt_plain F _ _ (plain_defer hpo)]
      have hne := plain_enter (P := P) hpo a.eval w
      unfold Oper.still at h
      generalize (execOp a.eval o).run P w = r at *
      cases r with
      | ok x w' =>
        cases x <;> simp only [Oper.stillUpon] at h
        case value v => obtain ⟨rfl, h⟩ := h; exact hK _ h
        case skip => obtain ⟨rfl, h⟩ := h; exact hK _ h
        case enter f args => exact absurd rfl (hne f args w')
      | halt x w' => simp only [Oper.stillUpon] at h
    · rename_i hw
      rw [if_neg hw] at h
      exact ⟨hab, hK _ h⟩

theorem wpAnyIn_of_head {n g : Nat} {L : Array Bool → Act → Prop} (hp : ∀ i o, i < n → ops[i]? = some o → plainOp o.op = true) (hL : ∀ listed a, L listed a → wpAnyIn F nF P md ops Q g listed a w) :
    ∀ (f : Nat) (listed : Array Bool) (a : Act), wpAnyL P md ops w n L f listed a → wpAnyIn F nF P md ops Q (f + g) listed a w
  | 0, listed, a, h => by rw [Nat.zero_add]; exact hL _ _ h
  | f + 1, listed, a, h => by
    rw [show f + 1 + g = (f + g) + 1 by omega]
    exact ⟨fun h0 => absurd h0 h.1, fun i hi => wpOpIn_of_stOp (fun o ho => hp i o (h.2 i hi).1 ho) (fun a' h' => wpAnyIn_of_head hp hL f _ a' h') (h.2 i hi).2⟩

theorem wpAnyIn_of_seq : ∀ (l : List Oper) (k : Nat) (listed : Array Bool) (a : Act) (w : World), (∀ j, l[j]? = ops[k + j]?) →
    Region.seqB md ops l.length k listed = true → wpListIn F nF P ops Q l a w → wpAnyIn F nF P md ops Q l.length listed a w
  | [], _, _, _, _, _, hB, h => ⟨by simpa [Region.seqB] using hB, h⟩
  | o :: l, k, listed, a, w, hl, hB, h => by
    have h0 : ops[k]? = some o := by simpa using (hl 0).symm
    simp only [List.length_cons, Region.seqB, Bool.and_eq_true, decide_eq_true_eq] at hB
    refine ⟨fun h1 => (by rw [hB.1] at h1; cases h1), fun i hi => ?_⟩
    rw [hB.1] at hi
    have hik : i = k := by simpa using hi
    subst hik
    have hw : wpOpIn F nF P ops Q i (wpListIn F nF P ops Q l) a w := by unfold wpOpIn; simp only [h0]; exact h
    exact wpOpIn_mono (fun a' w' h' => wpAnyIn_of_seq l (i + 1) _ a' w' (fun j => by have := hl (j + 1); simpa [Nat.add_assoc, Nat.add_comm 1 j] using this) hB.2 h') hw

/-- The head's operations only read; the tail's come in one order. -/
theorem wpIn_region_still_tail {id : Nat} {a : Act} {l : List Oper} (n : Nat) (hm : P.follows .mixedOrders = true) (hB : Region.lexTailB .any l.toArray n = true) (hp : (l.take n).all (fun o => plainOp o.op) = true)
    (h : wpStill P l.toArray w.drew (fun a' => wpListIn F nF P l.toArray Q (l.drop n) a' w.drew) (l.take n) a) : (Code.region id l.toArray true).wpIn F nF P Q a w := by
  simp only [Region.lexTailB, Bool.and_eq_true, decide_eq_true_eq] at hB
  obtain ⟨⟨⟨⟨hsel, hn⟩, hs⟩, hc⟩, hlex⟩ := hB
  have hn' : n < l.length := by simpa using hn
  have htl : (l.take n).length = n := by simp; omega
  have hdl : (l.drop n).length = l.toArray.size - n := by simp
  have inv0 : HeadInv .any l.toArray n (Array.replicate l.toArray.size false) :=
    ⟨by simp, fun j oj _ hl => (by rw [getD_replicate_false] at hl; cases hl), fun t _ ht => getD_in (by simpa using ht) (getD_replicate_false _ _)⟩
  have H := wpAnyL_lex (md := .any) (g := l.toArray.size - n) hsel hs hc hn (l.take n) 0 _ a (fun j hj => by
    have hj' : j < n := by rw [htl] at hj; exact hj
    simp [hj']) (by simpa using htl) inv0 (by rw [htl]; exact hlex) h
  refine wpIn_region_any hm ?_
  have := wpAnyIn_of_head (F := F) (nF := nF) (Q := Q) (g := l.toArray.size - n) (fun i o hi ho => List.all_eq_true.1 hp o (List.mem_of_getElem? (i := i) (by rw [List.getElem?_take_of_lt hi]; simpa using ho))) (fun listed a' hL => by
    have := wpAnyIn_of_seq (F := F) (nF := nF) (md := .any) (Q := Q) (l.drop n) n listed a' w.drew (fun j => by simp [List.getElem?_drop]) (by rw [hdl]; exact hL.1) hL.2
    rwa [hdl] at this) _ _ _ H
  rw [htl, show n + (l.toArray.size - n) = l.toArray.size by omega] at this
  exact this
end
end Go.Proofs.Ytoaegleieacokaa
