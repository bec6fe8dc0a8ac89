/- The check sum tells a burst of flipped bits. -/
import Derived.Test.YtoaegleieacokaaBytesIn
namespace Go.Proofs.Ytoaegleieacokaa

def top (c : Nat) : Nat := if c % 2 = 1 then 2197175160 else 0
theorem st1_eq (c : Nat) : st1 c = (c >>> 1) ^^^ top c := by
  unfold st1 top
  rw [show c >>> 1 = c / 2 from rfl]
  split
  · rfl
  · rw [Nat.xor_zero]
theorem mod2_xor (a b : Nat) : (a ^^^ b) % 2 = (a % 2 + b % 2) % 2 := by
  have h := Nat.testBit_xor a b 0
  simp only [Nat.testBit_zero] at h
  rcases Nat.mod_two_eq_zero_or_one a with ha | ha <;> rcases Nat.mod_two_eq_zero_or_one b with hb | hb <;> rcases Nat.mod_two_eq_zero_or_one (a ^^^ b) with hc | hc <;> simp [ha, hb, hc] at h ⊢
theorem top_xor (a b : Nat) : top (a ^^^ b) = top a ^^^ top b := by
  unfold top
  rw [mod2_xor]
  rcases Nat.mod_two_eq_zero_or_one a with ha | ha <;> rcases Nat.mod_two_eq_zero_or_one b with hb | hb <;> simp [ha, hb]
theorem st1_xor (a b : Nat) : st1 (a ^^^ b) = st1 a ^^^ st1 b := by
  rw [st1_eq, st1_eq, st1_eq, Nat.shiftRight_xor_distrib, top_xor]
  simp only [Nat.xor_assoc]
  congr 1
  rw [← Nat.xor_assoc, Nat.xor_comm (b >>> 1) (top a), Nat.xor_assoc]
theorem stN_xor (a b : Nat) : ∀ k, stN k (a ^^^ b) = stN k a ^^^ stN k b
  | 0 => rfl
  | k + 1 => by rw [stN, stN_xor a b k, st1_xor]; rfl
theorem stN_add (c : Nat) (j : Nat) : ∀ k, stN (k + j) c = stN k (stN j c)
  | 0 => by rw [Nat.zero_add]; rfl
  | k + 1 => by rw [Nat.add_right_comm, stN, stN_add c j k]; rfl
theorem st1_double (x : Nat) : st1 (x <<< 1) = x := by
  have h : x <<< 1 = 2 * x := by rw [Nat.shiftLeft_eq]; omega
  rw [h]
  unfold st1
  rw [if_neg (by omega)]
  omega
theorem stN_shift (x : Nat) : ∀ k, stN k (x <<< k) = x
  | 0 => by simp [stN]
  | k + 1 => by
    rw [show x <<< (k + 1) = (x <<< 1) <<< k from by rw [← Nat.shiftLeft_add, Nat.add_comm], stN, stN_shift (x <<< 1) k, st1_double]
theorem st1_zero {c : Nat} (h : c < 4294967296) (hz : st1 c = 0) : c = 0 := by
  unfold st1 at hz
  split at hz
  · exfalso
    have h1 : (c / 2 ^^^ 2197175160).testBit 31 = true := by
      rw [Nat.testBit_xor, Nat.testBit_lt_two_pow (by omega : c / 2 < 2 ^ 31)]
      decide
    rw [hz] at h1
    simp at h1
  · omega
theorem stN_zero {c : Nat} (h : c < 4294967296) : ∀ k, stN k c = 0 → c = 0
  | 0, hz => hz
  | k + 1, hz => stN_zero h k (st1_zero (stN_lt h k) hz)
/-- The bytes as one number, the first the lowest. -/
def valL : List UInt8 → Nat
  | [] => 0
  | b :: l => b.toNat ^^^ (valL l <<< 8)
theorem crcL_val : ∀ (l : List UInt8) (c : Nat), crcL c l = stN (8 * l.length) (c ^^^ valL l)
  | [], c => by simp [crcL, valL, stN]
  | b :: l, c => by
    have h := crcL_val l (crcB c b)
    have e : crcL c (b :: l) = crcL (crcB c b) l := rfl
    rw [e, h, List.length_cons, show 8 * (l.length + 1) = 8 * l.length + 8 from by omega, stN_add]
    congr 1
    unfold crcB
    rw [valL, ← Nat.xor_assoc, stN_xor _ (valL l <<< 8), stN_shift]
theorem valL_flip : ∀ (l : List UInt8) (k r : Nat) (u : UInt8) (h : k < l.length), u.toNat = 1 <<< r → valL (l.set k (l[k] ^^^ u)) = valL l ^^^ (1 <<< (8 * k + r))
  | [], _, _, _, h, _ => by simp at h
  | b :: l, 0, r, u, _, hu => by
    simp only [List.set_cons_zero, List.getElem_cons_zero, valL]
    rw [UInt8.toNat_xor, hu, Nat.mul_zero, Nat.zero_add, Nat.xor_assoc, Nat.xor_assoc, Nat.xor_comm (1 <<< r)]
  | b :: l, k + 1, r, u, h, hu => by
    have ih := valL_flip l k r u (by simpa using h) hu
    simp only [List.set_cons_succ, List.getElem_cons_succ, valL]
    rw [ih, Nat.shiftLeft_xor_distrib, ← Nat.shiftLeft_add, Nat.xor_assoc, show 8 * k + r + 8 = 8 * (k + 1) + r from by omega]
/-- Bits that are flipped within 32 in a row. -/
def Burst (B0 B : List UInt8) (j i : Nat) (ch : Bool) : Prop := B.length = B0.length ∧ (ch = false → B = B0) ∧ ∃ w, w < 2 ^ i ∧ (ch = true → w ≠ 0) ∧ valL B = valL B0 ^^^ (w <<< j)
theorem burst_0 (B0 : List UInt8) (j : Nat) : Burst B0 B0 j 0 false := ⟨rfl, fun _ => rfl, 0, by simp, fun h => by simp at h, by simp⟩
theorem burst_keep {B0 B : List UInt8} {j i : Nat} {ch : Bool} (h : Burst B0 B j i ch) : Burst B0 B j (i + 1) ch := by
  obtain ⟨h1, h2, w, h3, h4, h5⟩ := h
  exact ⟨h1, h2, w, by rw [Nat.pow_succ]; omega, h4, h5⟩
theorem burst_flip {B0 B : List UInt8} {j i : Nat} {ch : Bool} (h : Burst B0 B j i ch) (k r : Nat) (hk : k < B.length) (hp : 8 * k + r = j + i) (u : UInt8) (hu : u.toNat = 1 <<< r) : Burst B0 (B.set k (B[k] ^^^ u)) j (i + 1) true := by
  obtain ⟨h1, h2, w, h3, h4, h5⟩ := h
  refine ⟨by rw [List.length_set]; exact h1, (fun e => by cases e), w ^^^ (1 <<< i), ?_, fun _ => ?_, ?_⟩
  · exact Nat.xor_lt_two_pow (by rw [Nat.pow_succ]; omega) (by rw [Nat.shiftLeft_eq, Nat.one_mul, Nat.pow_succ]; have := Nat.two_pow_pos i; omega)
  · intro e
    have h6 : (w ^^^ (1 <<< i)).testBit i = true := by
      rw [Nat.testBit_xor, Nat.testBit_lt_two_pow h3, Nat.shiftLeft_eq, Nat.one_mul, Nat.testBit_two_pow_self]
      rfl
    rw [e] at h6
    simp at h6
  · rw [valL_flip B k r u hk hu, h5, hp, Nat.shiftLeft_xor_distrib, Nat.xor_assoc, ← Nat.shiftLeft_add, Nat.add_comm j i]
theorem fixedL_inj {a b : Nat} (ha : a < 4294967296) (hb : b < 4294967296) (h : fixedL a = fixedL b) : a = b := by
  unfold fixedL at h
  simp only [List.cons.injEq, and_true] at h
  obtain ⟨h0, h1, h2, h3⟩ := h
  replace h0 := congrArg UInt8.toNat h0
  replace h1 := congrArg UInt8.toNat h1
  replace h2 := congrArg UInt8.toNat h2
  replace h3 := congrArg UInt8.toNat h3
  simp at h0 h1 h2 h3
  omega
/-- A sheet whose bits are flipped so is none. -/
theorem burst_bad {l : List Int} {B : List UInt8} {j i : Nat} (h : Burst (bodyL l) B j i true) (hi : i ≤ 32) (hj : j ≤ 8 * (bodyL l).length) (m : List Int) : fixedL (crcMore 0 ⟨(bodyL l).toArray⟩) ++ B ≠ bytesL m := by
  intro e
  obtain ⟨h1, _, w, h3, h4, h5⟩ := h
  unfold bytesL at e
  obtain ⟨e1, e2⟩ := List.append_inj e rfl
  have hlt : ∀ b, crcMore 0 b < 4294967296 := fun b => by unfold crcMore; omega
  have e3 := fixedL_inj (hlt _) (hlt _) e1
  rw [← e2] at e3
  unfold crcMore at e3
  simp only at e3
  have c0 : 4294967295 - 0 < 4294967296 := by decide
  have l1 := crcL_lt (bodyL l) c0
  have l2 := crcL_lt B c0
  have e4 : crcL (4294967295 - 0) (bodyL l) = crcL (4294967295 - 0) B := by omega
  rw [crcL_val, crcL_val, h5, h1, ← Nat.xor_assoc, stN_xor _ (w <<< j)] at e4
  generalize stN (8 * (bodyL l).length) ((4294967295 - 0) ^^^ valL (bodyL l)) = x at e4
  have e5 : stN (8 * (bodyL l).length) (w <<< j) = 0 := by
    have := congrArg (fun y => x ^^^ y) e4
    simp only [Nat.xor_self, ← Nat.xor_assoc, Nat.zero_xor] at this
    exact this.symm
  rw [show 8 * (bodyL l).length = (8 * (bodyL l).length - j) + j from by omega, stN_add, stN_shift] at e5
  have hw : w < 4294967296 := Nat.lt_of_lt_of_le h3 (Nat.pow_le_pow_right (by decide) hi : 2 ^ i ≤ 2 ^ 32)
  exact h4 rfl (stN_zero hw _ e5)
end Go.Proofs.Ytoaegleieacokaa
