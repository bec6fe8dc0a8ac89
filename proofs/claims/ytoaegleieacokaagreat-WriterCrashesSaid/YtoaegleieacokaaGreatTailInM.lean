/- A region that draws its order, whose head only reads and whose tail is forced, inside a fence, in a round of a loop too. No function of the program is named here. A drawn region inside a fence, in a round too: one load may be taken first, though another operation makes memory meanwhile. No function of the program is named here. -/
import Derived.StillTail
import Derived.StillTactics
import Derived.OrdersIn
import Derived.OwnWalkIn
namespace Go.Proofs.YtoaegleieacokaaGreat
open Go
section
variable {F : Fence} {nF : Nat} {P : Program} {ops : Array Oper} {Q : Exit → Act → World → Prop} {md : Region.Mode} {w : World}

def plainCallee : Callee → Bool
  | .builtin .len => true
  | .builtin .max => true
  | .builtin .min => true
  | _ => false
def plainOp : Op → Bool
  | .call c => plainCallee c.callee
  | .move _ => true
  | .assign _ => true
  | .load .. => true
  | .fieldAddr .. => true
  | .field .. => true
  | .nilCheck _ => true
  | .slice .. => true
  | .build .. => true
  | .lookup .. => true
  | .binOp .. => true
  | .convert .. => true
  | .indexAddr .. => true
  | .extract .. => true
  | .index .. => true
  | _ => false
theorem andThen_value (r : Result Value) (f : FuncId) (args : Array Value) (w' : World) : (r.andThen fun v w => Result.ok (Next.value v) w) ≠ .ok (.enter f args) w' := by
  cases r <;> simp [Result.andThen]
theorem plain_enter {o : Oper} (h : plainOp o.op = true) (ρ : Operand → Value) (w : World) (f : FuncId) (args : Array Value) (w' : World) : (execOp ρ o).run P w ≠ .ok (.enter f args) w' := by
  cases hop : o.op <;> rw [hop] at h <;> first | (simp [plainOp] at h; done) | skip
  case call c =>
    obtain ⟨callee, args', argTypes⟩ := c
    cases callee <;> first | (simp [plainOp, plainCallee] at h; done) | skip
    rename_i b
    cases b <;> first | (simp [plainOp, plainCallee] at h; done) | skip
    all_goals
      simp only [execOp, hop, resolve, invoke, builtin, Sem.run_bind, Sem.run_pure, Result.andThen]
      exact andThen_value _ _ _ _
  all_goals simp only [execOp, hop]
  case nilCheck x =>
    generalize ρ x = y
    split
    · simp [runtimePanic]
    · simp [runtimePanic]
    · simp [runtimePanic]
    · split
      · simp [runtimePanic]
      · intro h
        simp only [Sem.run_bind] at h
        generalize Sem.run P program w = r at h
        cases r with
        | halt x w1 => simp [Result.andThen] at h
        | ok a1 w1 =>
          simp only [Result.andThen] at h
          revert h
          generalize Sem.run P (nilAhead _ _ _ _) w1 = r
          intro h
          cases r with
          | halt x w2 => simp at h
          | ok a2 w2 =>
            simp only at h
            split at h
            · simp [unsupported, Sem.run] at h
            · simp [Sem.run_pure] at h
      · simp [Sem.run_pure]
    · simp [Sem.run_pure]
  all_goals
    simp only [Sem.run_bind, Sem.run_pure]
    first | exact andThen_value _ _ _ _ | simp
theorem plain_about {o : Oper} (h : plainOp o.op = true) (ρ : Operand → Value) (w : World) : o.about P w ρ = none := by
  cases hop : o.op <;> rw [hop] at h <;> first | (simp [plainOp] at h; done) | skip
  case call c =>
    obtain ⟨callee, args', argTypes⟩ := c
    cases callee <;> first | (simp [plainOp, plainCallee] at h; done) | skip
    rename_i b
    cases b <;> first | (simp [plainOp, plainCallee] at h; done) | skip
    all_goals simp [Oper.about, hop, resolve, Target.leads, Sem.run_pure]
  all_goals simp [Oper.about, hop]
theorem plain_defer {o : Oper} (h : plainOp o.op = true) : ∀ c, o.op ≠ .defer c := by
  intro c hc
  rw [hc] at h
  simp [plainOp] at h

theorem wpOpIn_of_stOp {i : Nat} {a : Act} {K : Act → Prop} {K' : Act → World → Prop} (hp : ∀ o, ops[i]? = some o → plainOp o.op = true) (hK : ∀ a, K a → K' a w) (h : stOp P ops w i K a) : wpOpIn F nF P ops Q i K' a w := by
  unfold stOp at h
  unfold wpOpIn
  cases ho : ops[i]? with
  | none => rw [ho] at h; exact hK _ h
  | some o =>
    rw [ho] at h
    have hpo := hp o ho
    simp only at h ⊢
    have hab : ∀ f, o.about P w a.eval = some f → F.fn f := fun f hf => by rw [plain_about hpo] at hf; cases hf
    split
    · rename_i hw
      rw [if_pos hw] at h
      refine ⟨hab, ?_⟩
      rw [Oper.semAt_plain F _ _ (plain_defer hpo)]
      have hne := plain_enter (P := P) hpo a.eval w
      unfold Oper.still at h
      generalize (execOp a.eval o).run P w = r at *
      cases r with
      | ok x w' =>
        cases x <;> simp only [Oper.stillUpon] at h
        case value v => obtain ⟨rfl, h⟩ := h; exact hK _ h
        case skip => obtain ⟨rfl, h⟩ := h; exact hK _ h
        case enter f args => exact absurd rfl (hne f args w')
      | halt x w' => simp only [Oper.stillUpon] at h
    · rename_i hw
      rw [if_neg hw] at h
      exact ⟨hab, hK _ h⟩

theorem wpAnyIn_of_head {n g : Nat} {L : Array Bool → Act → Prop} (hp : ∀ i o, i < n → ops[i]? = some o → plainOp o.op = true) (hL : ∀ listed a, L listed a → wpAnyIn F nF P md ops Q g listed a w) :
    ∀ (f : Nat) (listed : Array Bool) (a : Act), wpAnyL P md ops w n L f listed a → wpAnyIn F nF P md ops Q (f + g) listed a w
  | 0, listed, a, h => by rw [Nat.zero_add]; exact hL _ _ h
  | f + 1, listed, a, h => by
    rw [show f + 1 + g = (f + g) + 1 by omega]
    exact ⟨fun h0 => absurd h0 h.1, fun i hi => wpOpIn_of_stOp (fun o ho => hp i o (h.2 i hi).1 ho) (fun a' h' => wpAnyIn_of_head hp hL f _ a' h') (h.2 i hi).2⟩

theorem wpAnyIn_of_seq : ∀ (l : List Oper) (k : Nat) (listed : Array Bool) (a : Act) (w : World), (∀ j, l[j]? = ops[k + j]?) →
    Region.seqB md ops l.length k listed = true → wpListIn F nF P ops Q l a w → wpAnyIn F nF P md ops Q l.length listed a w
  | [], _, _, _, _, _, hB, h => ⟨by simpa [Region.seqB] using hB, h⟩
  | o :: l, k, listed, a, w, hl, hB, h => by
    have h0 : ops[k]? = some o := by simpa using (hl 0).symm
    simp only [List.length_cons, Region.seqB, Bool.and_eq_true, decide_eq_true_eq] at hB
    refine ⟨fun h1 => (by rw [hB.1] at h1; cases h1), fun i hi => ?_⟩
    rw [hB.1] at hi
    have hik : i = k := by simpa using hi
    subst hik
    have hw : wpOpIn F nF P ops Q i (wpListIn F nF P ops Q l) a w := by unfold wpOpIn; simp only [h0]; exact h
    exact wpOpIn_mono (fun a' w' h' => wpAnyIn_of_seq l (i + 1) _ a' w' (fun j => by have := hl (j + 1); simpa [Nat.add_assoc, Nat.add_comm 1 j] using this) hB.2 h') hw

/-- The head's operations only read; the tail's come in one order. -/
theorem wpIn_region_still_tail {id : Nat} {a : Act} {l : List Oper} (n : Nat) (hm : P.follows .mixedOrders = true) (hB : Region.lexTailB .any l.toArray n = true) (hp : (l.take n).all (fun o => plainOp o.op) = true)
    (h : wpStill P l.toArray w.drew (fun a' => wpListIn F nF P l.toArray Q (l.drop n) a' w.drew) (l.take n) a) : (Code.region id l.toArray true).wpIn F nF P Q a w := by
  simp only [Region.lexTailB, Bool.and_eq_true, decide_eq_true_eq] at hB
  obtain ⟨⟨⟨⟨hsel, hn⟩, hs⟩, hc⟩, hlex⟩ := hB
  have hn' : n < l.length := by simpa using hn
  have htl : (l.take n).length = n := by simp; omega
  have hdl : (l.drop n).length = l.toArray.size - n := by simp
  have inv0 : HeadInv .any l.toArray n (Array.replicate l.toArray.size false) :=
    ⟨by simp, fun j oj _ hl => (by rw [getD_replicate_false] at hl; cases hl), fun t _ ht => getD_in (by simpa using ht) (getD_replicate_false _ _)⟩
  have H := wpAnyL_lex (md := .any) (g := l.toArray.size - n) hsel hs hc hn (l.take n) 0 _ a (fun j hj => by
    have hj' : j < n := by rw [htl] at hj; exact hj
    simp [hj']) (by simpa using htl) inv0 (by rw [htl]; exact hlex) h
  refine wpIn_region_any hm ?_
  have := wpAnyIn_of_head (F := F) (nF := nF) (Q := Q) (g := l.toArray.size - n) (fun i o hi ho => List.all_eq_true.1 hp o (List.mem_of_getElem? (i := i) (by rw [List.getElem?_take_of_lt hi]; simpa using ho))) (fun listed a' hL => by
    have := wpAnyIn_of_seq (F := F) (nF := nF) (md := .any) (Q := Q) (l.drop n) n listed a' w.drew (fun j => by simp [List.getElem?_drop]) (by rw [hdl]; exact hL.1) hL.2
    rwa [hdl] at this) _ _ _ H
  rw [htl, show n + (l.toArray.size - n) = l.toArray.size by omega] at this
  exact this
end
end Go.Proofs.YtoaegleieacokaaGreat
namespace Go.Proofs.YtoaegleieacokaaGreat
open Go
section
variable {F : Fence} {nF : Nat} {P : Program} {ops : Array Oper} {Q : Exit → Act → World → Prop} {md : Region.Mode} {S : World → Prop} {e : Nat}

/-- In whatever world of S the operation hands back v, and the world stands. -/
def YieldsS (P : Program) (ops : Array Oper) (S : World → Prop) (o : Oper) (v : Value) (a : Act) : Prop := Region.wanted o (yielded ops a.tmps) = true ∧ ∀ w, S w → (execOp a.eval o).run P w = .ok (.value v) w
theorem YieldsS.of_same {o : Oper} {v : Value} {a a' : Act} (hy : YieldsS P ops S o v a) (he : execOp a'.eval o = execOp a.eval o) (hw : Region.wanted o (yielded ops a'.tmps) = Region.wanted o (yielded ops a.tmps)) : YieldsS P ops S o v a' :=
  ⟨hw.trans hy.1, fun w hs => by rw [he]; exact hy.2 w hs⟩

theorem wpOpIn_putS {j : Nat} {oi oj : Oper} {v : Value} (hj : ops[j]? = some oj) (hap : oi.apart ops oj = true)
    (hsi : ∀ cs b, oi.op ≠ .select cs b) (hsj : ∀ cs b, oj.op ≠ .select cs b) (hdj : ∀ c, oj.op ≠ .defer c)
    (hQ : ∀ c a w, Q (.panic c) (a.put oi.dst v) w → Q (.panic c) a w) {K : Act → World → Prop} {a : Act} {w : World}
    (hy : YieldsS P ops S oi v a) (h : wpOpIn F nF P ops Q j K (a.put oi.dst v) w) :
    wpOpIn F nF P ops Q j (fun a' w' => YieldsS P ops S oi v a' ∧ K (a'.put oi.dst v) w') a w := by
  obtain ⟨h1, h2, h3⟩ := Oper.apart_spec hap
  have keep : ∀ (a : Act), YieldsS P ops S oi v a → ∀ u, YieldsS P ops S oi v (a.put oj.dst u) := fun a hy u =>
    hy.of_same (execOp_put oi hsi a oj.dst u h3) (wanted_put oi a oj.dst u h3)
  have keepD : ∀ d, YieldsS P ops S oi v { a with defers := d :: a.defers } := fun d => hy.of_same rfl rfl
  unfold wpOpIn at *
  simp only [hj] at *
  rw [wanted_put oj a oi.dst v h1, about_put oj w a oi.dst v h1] at h
  split
  · rename_i hw
    simp only [hw, if_true] at h
    unfold Oper.wpIn at *
    rw [about_put oj w a oi.dst v h1] at h
    refine ⟨h.1, ?_⟩
    have h := h.2
    rw [Oper.semAt_plain F _ _ hdj, execOp_put oj hsj a oi.dst v h1] at h
    rw [Oper.semAt_plain F _ _ hdj]
    generalize (execOp a.eval oj).run P w = r at *
    cases r with
    | ok x w' =>
      cases x <;> simp only [Oper.uponIn] at h ⊢
      case value u => exact ⟨keep a hy u, by rw [← Act.put_comm a v u h2]; exact h⟩
      case skip => exact ⟨keep a hy _, by rw [← Act.put_comm a v undef h2]; exact h⟩
      case defer d =>
        refine ⟨(keepD d).of_same (execOp_put oi hsi _ oj.dst _ h3) (wanted_put oi _ oj.dst _ h3), ?_⟩
        rw [← Act.put_comm _ v undef h2, ← Act.put_defers]
        exact h
      case enter f args =>
        refine ⟨h.1, CallsIn.mono h.2 fun e w'' he => ?_⟩
        cases e with
        | returned u => exact ⟨keep a hy u, by rw [← Act.put_comm a v u h2]; exact he⟩
        | panicked c => exact hQ _ _ _ he
        | outgrown => exact he
      case row row args => exact ⟨h.1, RowsIn.mono h.2 fun u w'' he => ⟨keep a hy u, by rw [← Act.put_comm a v u h2]; exact he⟩⟩
      case round l f tmps assign body =>
        refine ⟨h.1, RoundIn.mono h.2 fun e w'' he => ?_⟩
        cases e with
        | returned u => exact ⟨keep a hy u, by rw [← Act.put_comm a v u h2]; exact he⟩
        | panicked c => exact hQ _ _ _ he
        | outgrown => exact he
    | halt x w' =>
      cases x <;> simp only [Oper.uponIn] at h ⊢
      case panic u => exact hQ _ _ _ h
  · rename_i hw
    simp only [hw] at h
    exact ⟨h.1, keep a hy _, by rw [← Act.put_comm a v undef h2]; exact h.2⟩

/-- wpAnyIn, each node told, as long as e is not yet listed, that its world lies in S. -/
def wpAnyS (F : Fence) (n : Nat) (P : Program) (md : Region.Mode) (ops : Array Oper) (Q : Exit → Act → World → Prop) (S : World → Prop) (e : Nat) : Nat → Array Bool → Act → World → Prop
  | 0, listed, a, w => (listed.getD e false = false → S w) ∧ Region.ready md ops listed = [] ∧ Q .normal a w
  | fuel + 1, listed, a, w => (listed.getD e false = false → S w) ∧ (Region.ready md ops listed = [] → Q .normal a w) ∧
    ∀ i ∈ Region.ready md ops listed, wpOpIn F n P ops Q i (wpAnyS F n P md ops Q S e fuel (listed.setIfInBounds i true)) a w
theorem wpAnyS.here {fuel : Nat} {listed : Array Bool} {a : Act} {w : World} (h : wpAnyS F nF P md ops Q S e fuel listed a w) (hl : listed.getD e false = false) : S w := by
  cases fuel <;> exact h.1 hl
theorem wpAnyS.forget : ∀ {fuel : Nat} {listed : Array Bool} {a : Act} {w : World}, wpAnyS F nF P md ops Q S e fuel listed a w → wpAnyIn F nF P md ops Q fuel listed a w
  | 0, _, _, _, h => h.2
  | _ + 1, _, _, _, h => ⟨h.2.1, fun i hi => wpOpIn_mono (fun _ _ h' => h'.forget) (h.2.2 i hi)⟩
theorem wpAnyS.of_any : ∀ {fuel : Nat} {listed : Array Bool} {a : Act} {w : World}, listed.getD e false = true → wpAnyIn F nF P md ops Q fuel listed a w → wpAnyS F nF P md ops Q S e fuel listed a w
  | 0, _, _, _, hl, h => ⟨fun h0 => (by rw [hl] at h0; cases h0), h⟩
  | fuel + 1, listed, _, _, hl, h => ⟨fun h0 => (by rw [hl] at h0; cases h0), h.1, fun i hi => wpOpIn_mono (fun _ _ h' => wpAnyS.of_any (by
      by_cases hie : e = i
      · subst hie; exact getD_set_true hl
      · rw [getD_set_ne false (fun h => hie h.symm)]; exact hl) h') (h.2 i hi)⟩

theorem YieldsS.wpOpIn {i : Nat} {o : Oper} {v : Value} {a : Act} (hi : ops[i]? = some o) (hp : plainOp o.op = true) (hy : YieldsS P ops S o v a)
    {K : Act → World → Prop} {w : World} (hs : S w) (h : K (a.put o.dst v) w) : wpOpIn F nF P ops Q i K a w := by
  unfold Go.wpOpIn
  simp only [hi]
  rw [if_pos hy.1]
  refine ⟨fun f hf => (by rw [plain_about hp] at hf; cases hf), ?_⟩
  rw [Oper.semAt_plain F _ _ (plain_defer hp), hy.2 w hs]
  exact h

/-- An operation that e waits for, and that hands back v in whatever world of S, may be taken first. -/
theorem wpAnyS_first {i : Nat} {oi : Oper} {v : Value} (hi : ops[i]? = some oi) (hp : plainOp oi.op = true) (hsel : ∀ (j : Nat) (o : Oper) cs b, ops[j]? = some o → o.op ≠ .select cs b) (hdef : ∀ (j : Nat) (o : Oper) c, ops[j]? = some o → o.op ≠ .defer c)
    (hQ : ∀ c a w, Q (.panic c) (a.put oi.dst v) w → Q (.panic c) a w) (he : Region.waitsFor md ops e i = true) :
    ∀ (fuel : Nat) (listed : Array Bool) (a : Act) (w : World),
      (∀ j oj, ops[j]? = some oj → j ≠ i → listed.getD j true = false → (∀ e ∈ oj.after, Region.binds md e = true → e.on ≠ i) → oi.apart ops oj = true) →
      listed.getD e false = false → e ≠ i → i ∈ Region.ready md ops listed → YieldsS P ops S oi v a →
      wpAnyS F nF P md ops Q S e fuel (listed.setIfInBounds i true) (a.put oi.dst v) w → wpAnyS F nF P md ops Q S e (fuel + 1) listed a w := by
  intro fuel
  obtain ⟨oe, hoe, xe, hxe, hbe, hone⟩ := Region.waitsFor_spec he
  induction fuel with
  | zero =>
    intro listed a w _ hle hei hr hy H
    have hs : S w := H.here (by rw [getD_set_ne false (fun h => hei h.symm)]; exact hle)
    refine ⟨fun _ => hs, fun h => (by rw [h] at hr; cases hr), fun j hj => ?_⟩
    by_cases hji : j = i
    · subst hji; exact hy.wpOpIn hi hp hs H
    · have := ready_mono hj hji
      rw [H.2.1] at this
      cases this
  | succ fuel ih =>
    intro listed a w hfree hle hei hr hy H
    have hs : S w := H.here (by rw [getD_set_ne false (fun h => hei h.symm)]; exact hle)
    refine ⟨fun _ => hs, fun h => (by rw [h] at hr; cases hr), fun j hj => ?_⟩
    by_cases hji : j = i
    · subst hji; exact hy.wpOpIn hi hp hs H
    · have h1 := H.2.2 j (ready_mono hj hji)
      obtain ⟨hjun, oj, hoj, hall⟩ := mem_ready.1 hj
      have hun := (mem_ready.1 hr).1
      have hnot : ∀ e ∈ oj.after, Region.binds md e = true → e.on ≠ i := fun e he hb heq => by
        have h1 := hall e he hb
        rw [heq, getD_both hun] at h1
        cases h1
      have hje : j ≠ e := fun h => by
        subst h
        have : oj = oe := Option.some.inj (hoj.symm.trans hoe)
        subst this
        exact hnot xe hxe hbe hone
      have h2 := wpOpIn_putS hoj (hfree j oj hoj hji hjun hnot) (fun cs b => hsel i oi cs b hi) (fun cs b => hsel j oj cs b hoj) (fun c => hdef j oj c hoj) hQ hy h1
      have hfree' : ∀ k ok, ops[k]? = some ok → k ≠ i → (listed.setIfInBounds j true).getD k true = false →
          (∀ e ∈ ok.after, Region.binds md e = true → e.on ≠ i) → oi.apart ops ok = true := fun k ok hk hki hun hno => by
        refine hfree k ok hk hki ?_ hno
        by_cases hjk : j = k
        · subst hjk; exact hjun
        · rw [getD_set_ne true hjk] at hun; exact hun
      refine wpOpIn_mono (fun a' w' h3 => ih (listed.setIfInBounds j true) a' w' hfree' (by rw [getD_set_ne false hje]; exact hle) hei (ready_mono hr (Ne.symm hji)) h3.1 ?_) h2
      rw [Array.setIfInBounds_comm _ _ hji]
      exact h3.2

/-- The head: each operation hands back a value in whatever world of S. -/
def wpHeadS (P : Program) (ops : Array Oper) (S : World → Prop) (K : Act → Prop) : List Oper → Act → Prop
  | [], a => K a
  | o :: l, a => ∃ v, YieldsS P ops S o v a ∧ wpHeadS P ops S K l (a.put o.dst v)

theorem wpHeadS_mono {K K' : Act → Prop} (hK : ∀ a, K a → K' a) : ∀ (l : List Oper) (a : Act), wpHeadS P ops S K l a → wpHeadS P ops S K' l a
  | [], a, h => hK a h
  | _ :: l, _, ⟨v, hy, h⟩ => ⟨v, hy, wpHeadS_mono hK l _ h⟩

theorem wpAnyS_lex {g n m : Nat} {w : World} (hsel : Region.noSelect ops = true) (hdef : ∀ (j : Nat) (o : Oper) c, ops[j]? = some o → o.op ≠ .defer c) (hQ : ∀ c a d v w, Q (.panic c) (a.put d v) w → Q (.panic c) a w) (hen : n ≤ e) :
    ∀ (l : List Oper) (k : Nat) (listed : Array Bool) (a : Act), (∀ j, j < l.length → l[j]? = ops[k + j]?) → k + l.length = n → (∀ i, k ≤ i → i < n → Region.waitsFor md ops e i = true) → listed.getD e false = false → l.all (fun o => plainOp o.op) = true →
    Region.lexHead md ops g l.length k listed = true → listed.size = m → wpHeadS P ops S (fun a' => ∀ listed', listed'.size = m → listed'.getD e false = false → Region.seqB md ops g n listed' = true → wpAnyS F nF P md ops Q S e g listed' a' w) l a →
    wpAnyS F nF P md ops Q S e (l.length + g) listed a w
  | [], k, listed, a, _, hk, _, hle, _, hB, hm, h => by
    have : k = n := by simpa using hk
    subst this
    simp only [List.length_nil, Nat.zero_add]
    exact h listed hm hle (by simpa [Region.lexHead] using hB)
  | o :: l, k, listed, a, hl, hk, hw, hle, hpl, hB, hm, h => by
    have h0 : ops[k]? = some o := by simpa using (hl 0 (by simp)).symm
    simp only [List.length_cons, Region.lexHead, Bool.and_eq_true] at hB
    obtain ⟨⟨hr, hf⟩, hB'⟩ := hB
    have hkn : k < n := by simp only [List.length_cons] at hk; omega
    have hr' : k ∈ Region.ready md ops listed := by simpa using hr
    obtain ⟨v, hy, hK⟩ := h
    rw [List.all_cons, Bool.and_eq_true] at hpl
    rw [List.length_cons, show l.length + 1 + g = (l.length + g) + 1 by omega]
    exact wpAnyS_first h0 hpl.1 (Region.noSelect_spec hsel) hdef (fun c a w => hQ c a _ _ w) (hw k (Nat.le_refl _) hkn) (l.length + g) listed a w (Region.free_spec h0 hf) hle (by omega) hr' hy
      (wpAnyS_lex hsel hdef hQ hen l (k + 1) _ _ (fun j hj => by have := hl (j + 1) (by simp; omega); simpa [Nat.add_assoc, Nat.add_comm 1 j] using this) (by simp only [List.length_cons] at hk; omega) (fun i h1 h2 => hw i (by omega) h2) (by rw [getD_set_ne false (by omega)]; exact hle) hpl.2 hB' (by simpa using hm) hK)

def NormalTo (K : Act → World → Prop) : Exit → Act → World → Prop
  | .normal, a, w => K a w
  | _, _, _ => False
theorem wpOpIn_of_list {i : Nat} {o : Oper} {K : Act → World → Prop} {a : Act} {w : World} (hi : ops[i]? = some o) (h : wpListIn F nF P ops (NormalTo K) [o] a w) : wpOpIn F nF P ops Q i K a w := by
  unfold wpOpIn
  unfold wpListIn at h
  simp only [hi]
  have hlets : ¬ LetsOut (NormalTo K) := fun ⟨_, _, h⟩ => h
  split
  · rename_i hw
    rw [if_pos hw] at h
    refine ⟨h.1, ?_⟩
    have h := h.2
    generalize (o.semAt F.round a.eval).run P w = r at *
    cases r with
    | ok x w' =>
      cases x <;> simp only [Oper.uponIn] at h ⊢
      case value u => exact h
      case skip => exact h
      case defer d => exact h
      case enter f args =>
        refine ⟨h.1, CallsIn.mono h.2 fun e w'' he => ?_⟩
        cases e with
        | returned u => exact he
        | panicked c => exact (he : False).elim
        | outgrown => exact absurd he hlets
      case row row args => exact ⟨h.1, RowsIn.mono h.2 fun u w'' he => he⟩
      case round l f tmps assign body =>
        refine ⟨h.1, RoundIn.mono h.2 fun e w'' he => ?_⟩
        cases e with
        | returned u => exact he
        | panicked c => exact (he : False).elim
        | outgrown => exact absurd he hlets
    | halt x w' =>
      cases x <;> simp only [Oper.uponIn] at h ⊢
      case panic u => exact (h : False).elim
  · rename_i hw
    rw [if_neg hw] at h
    exact h

/-- The tail: one operation behind the other; ahead of each the world lies in S. -/
def wpTailS (F : Fence) (n : Nat) (P : Program) (ops : Array Oper) (Q : Exit → Act → World → Prop) (S : World → Prop) : List Oper → Act → World → Prop
  | [], a, w => Q .normal a w
  | o :: l, a, w => S w ∧ wpListIn F n P ops (NormalTo (wpTailS F n P ops Q S l)) [o] a w
theorem wpAnyS_of_tail : ∀ (l : List Oper) (k : Nat) (listed : Array Bool) (a : Act) (w : World), (∀ j, l[j]? = ops[k + j]?) → k + l.length = e + 1 → e < listed.size → (l = [] → listed.getD e false = true) →
    Region.seqB md ops l.length k listed = true → wpTailS F nF P ops Q S l a w → wpAnyS F nF P md ops Q S e l.length listed a w
  | [], k, listed, a, w, _, _, _, he, hB, h => ⟨fun h0 => (by rw [he rfl] at h0; cases h0), by simpa [Region.seqB] using hB, h⟩
  | o :: l, k, listed, a, w, hl, hk, hes, _, hB, h => by
    have h0 : ops[k]? = some o := by simpa using (hl 0).symm
    simp only [List.length_cons, Region.seqB, Bool.and_eq_true, decide_eq_true_eq] at hB
    refine ⟨fun _ => h.1, fun h1 => (by rw [hB.1] at h1; cases h1), fun i hi => ?_⟩
    rw [hB.1] at hi
    have hik : i = k := by simpa using hi
    subst hik
    refine wpOpIn_mono (fun a' w' h' => wpAnyS_of_tail l (i + 1) _ a' w' (fun j => by have := hl (j + 1); simpa [Nat.add_assoc, Nat.add_comm 1 j] using this) (by simp only [List.length_cons] at hk; omega) (by simpa using hes) ?_ hB.2 h') (wpOpIn_of_list h0 h.2)
    intro hl0
    subst hl0
    have : i = e := by simp at hk; omega
    subst this
    simp [hes]

def takeB (ops : Array Oper) (n e : Nat) : Bool :=
  Region.noSelect ops && Region.lexHead .any ops (ops.size - n) n 0 (Array.replicate ops.size false) && (List.range n).all (fun i => Region.waitsFor .any ops e i) && decide (n ≤ e) && decide (e + 1 = ops.size)
def noDefer : Op → Bool
  | .defer _ => false
  | _ => true

theorem wpIn_region_take {id : Nat} {a : Act} {l : List Oper} {w : World} (n e : Nat) (S : World → Prop) (hm : P.follows .mixedOrders = true) (hB : takeB l.toArray n e = true) (hp : (l.take n).all (fun o => plainOp o.op) = true) (hd : l.all (fun o => noDefer o.op) = true)
    (hQ : ∀ c a d v w, Q (.panic c) (a.put d v) w → Q (.panic c) a w)
    (h : wpHeadS P l.toArray S (fun a' => wpTailS F nF P l.toArray Q S (l.drop n) a' w.drew) (l.take n) a) : (Code.region id l.toArray true).wpIn F nF P Q a w := by
  simp only [takeB, Bool.and_eq_true, decide_eq_true_eq] at hB
  obtain ⟨⟨⟨⟨hsel, hlex⟩, hw⟩, hne⟩, hes⟩ := hB
  have hes' : e + 1 = l.length := by simpa using hes
  have htl : (l.take n).length = n := by simp; omega
  have hdl : (l.drop n).length = l.toArray.size - n := by simp
  refine wpIn_region_any hm (wpAnyS.forget (S := S) (e := e) ?_)
  have hgd : ∀ m j, (Array.replicate m false).getD j false = false := fun m j => getD_replicate_false m j
  have H := wpAnyS_lex (P := P) (m := l.toArray.size) (F := F) (nF := nF) (Q := Q) (md := .any) (S := S) (e := e) (g := l.toArray.size - n) (w := w.drew) hsel
    (fun j o c hj hc => by
      have := List.all_eq_true.1 hd o (List.mem_of_getElem? (i := j) (by simpa using hj))
      rw [hc] at this
      cases this) hQ hne (l.take n) 0 (Array.replicate l.toArray.size false) a (fun j hj => by
    have hj' : j < n := by rw [htl] at hj; exact hj
    simp [hj']) (by simpa using htl) (fun i _ hi => List.all_eq_true.1 hw i (List.mem_range.2 hi)) (hgd _ _) hp (by rw [htl]; exact hlex) (by simp) ?_
  · rw [htl, show n + (l.toArray.size - n) = l.toArray.size by simp; omega] at H
    exact H
  · refine wpHeadS_mono (fun a' ha' listed' hsz hle hseq => ?_) _ _ h
    have h2 := wpAnyS_of_tail (F := F) (nF := nF) (Q := Q) (md := .any) (S := S) (e := e) (l.drop n) n listed' a' w.drew (fun j => by simp [List.getElem?_drop]) (by rw [hdl]; omega) (by omega) (fun h0 => by
      have := congrArg List.length h0
      rw [hdl] at this
      simp at this
      omega) (by rw [hdl]; exact hseq) ha'
    rwa [hdl] at h2
end
end Go.Proofs.YtoaegleieacokaaGreat
