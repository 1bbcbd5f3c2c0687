/- The check is linear, and no burst of up to 32 bits goes unseen. Plain Lean. -/
import Derived.Test.YteeplbabnleanaaWireSpec
set_option linter.unusedSectionVars false
set_option linter.unusedSimpArgs false
set_option linter.unusedVariables false
namespace Go.Vm
theorem and1_nat (r : UInt32) : (r &&& UInt32.ofNat 1).toNat = r.toNat % 2 := by
  rw [UInt32.toNat_and]
  exact Nat.and_one_is_mod _
theorem and1_iff (r : UInt32) : r &&& UInt32.ofNat 1 = UInt32.ofNat 1 ↔ r.toNat % 2 = 1 := by
  rw [← and1_nat]
  constructor
  · intro h; rw [h]; rfl
  · intro h; exact UInt32.toNat_inj.1 (by rw [h]; rfl)
theorem shr1_nat (r : UInt32) : (r >>> UInt32.ofNat 1).toNat = r.toNat / 2 := by
  rw [UInt32.toNat_shiftRight]
  exact Nat.shiftRight_eq_div_pow _ 1
theorem xor_cancel {a b : UInt32} (h : a ^^^ b = 0) : a = b := by
  have : a ^^^ b ^^^ b = 0 ^^^ b := by rw [h]
  simpa [UInt32.xor_assoc] using this
theorem crcBit_zero {r : UInt32} (h : crcBit r = 0) : r = 0 := by
  have hr := r.toNat_lt
  unfold crcBit at h
  by_cases h1 : r &&& UInt32.ofNat 1 = UInt32.ofNat 1
  · rw [if_pos h1] at h
    have h2 := congrArg UInt32.toNat (xor_cancel h)
    rw [shr1_nat] at h2
    have : (UInt32.ofNat 2197175160).toNat = 2197175160 := rfl
    omega
  · rw [if_neg h1] at h
    have h2 := congrArg UInt32.toNat h
    rw [shr1_nat] at h2
    rw [and1_iff] at h1
    have : (0 : UInt32).toNat = 0 := rfl
    exact UInt32.toNat_inj.1 (by omega)
theorem xor_mod2 (a b : UInt32) : (a ^^^ b).toNat % 2 = (a.toNat % 2 + b.toNat % 2) % 2 := by
  have h := Nat.xor_mod_two_pow (a := a.toNat) (b := b.toNat) (n := 1)
  rw [Nat.pow_one] at h
  rw [UInt32.toNat_xor, h]
  have ha : a.toNat % 2 = 0 ∨ a.toNat % 2 = 1 := by omega
  have hb : b.toNat % 2 = 0 ∨ b.toNat % 2 = 1 := by omega
  rcases ha with ha | ha <;> rcases hb with hb | hb <;> rw [ha, hb] <;> rfl
theorem shr_xor (a b : UInt32) : (a ^^^ b) >>> UInt32.ofNat 1 = (a >>> UInt32.ofNat 1) ^^^ (b >>> UInt32.ofNat 1) := by
  apply UInt32.toNat_inj.1
  rw [shr1_nat, UInt32.toNat_xor, UInt32.toNat_xor, shr1_nat, shr1_nat]
  have h := Nat.shiftRight_xor_distrib (a := a.toNat) (b := b.toNat) (i := 1)
  simp only [Nat.shiftRight_eq_div_pow, Nat.pow_one] at h
  exact h
theorem crcBit_xor (a b : UInt32) : crcBit (a ^^^ b) = crcBit a ^^^ crcBit b := by
  unfold crcBit
  have h := xor_mod2 a b
  rw [shr_xor]
  generalize UInt32.ofNat 2197175160 = P
  generalize a >>> UInt32.ofNat 1 = x
  generalize b >>> UInt32.ofNat 1 = y
  have e3 : P ^^^ P = 0 := UInt32.xor_self
  by_cases ha : a.toNat % 2 = 1
  · by_cases hb : b.toNat % 2 = 1
    · rw [if_neg (by rw [and1_iff]; omega), if_pos ((and1_iff _).2 ha), if_pos ((and1_iff _).2 hb)]
      rw [UInt32.xor_assoc, ← UInt32.xor_assoc P y P, UInt32.xor_comm P y, UInt32.xor_assoc y P P, e3, UInt32.xor_zero]
    · rw [if_pos ((and1_iff _).2 (by omega)), if_pos ((and1_iff _).2 ha), if_neg (by rw [and1_iff]; omega)]
      rw [UInt32.xor_assoc, UInt32.xor_comm y P, UInt32.xor_assoc]
  · by_cases hb : b.toNat % 2 = 1
    · rw [if_pos ((and1_iff _).2 (by omega)), if_neg (by rw [and1_iff]; omega), if_pos ((and1_iff _).2 hb)]
      rw [UInt32.xor_assoc]
    · rw [if_neg (by rw [and1_iff]; omega), if_neg (by rw [and1_iff]; omega), if_neg (by rw [and1_iff]; omega)]
theorem crcBits_xor (n : Nat) : ∀ a b : UInt32, crcBits (a ^^^ b) n = crcBits a n ^^^ crcBits b n := by
  induction n with
  | zero => intro a b; rfl
  | succ n ih => intro a b; simp only [crcBits, ih, crcBit_xor]
theorem crcBits_zero (n : Nat) : ∀ {r : UInt32}, crcBits r n = 0 → r = 0 := by
  induction n with
  | zero => intro r h; exact h
  | succ n ih =>
    intro r h
    simp only [crcBits] at h
    first
    | exact crcBit_zero (ih h)
    | exact ih (crcBit_zero h)
theorem crcBits_add (r : UInt32) (m : Nat) : ∀ n, crcBits r (m + n) = crcBits (crcBits r m) n
  | 0 => rfl
  | n + 1 => by
    show crcBit (crcBits r (m + n)) = crcBit (crcBits (crcBits r m) n)
    rw [crcBits_add r m n]
/-- A word of one bit. -/
def pw (k : Nat) : UInt32 := UInt32.ofNat (2 ^ k)
theorem pw_down : ∀ k, k < 31 → crcBit (pw (k + 1)) = pw k := by decide +kernel
theorem pw_bits (m : Nat) : ∀ k, k < 32 → crcBits (pw k) (k + m) = crcBits (pw 0) m
  | 0, _ => by rw [Nat.zero_add]
  | k + 1, h => by
    rw [show k + 1 + m = 1 + (k + m) by omega, crcBits_add]
    have : crcBits (pw (k + 1)) 1 = pw k := pw_down k (by omega)
    rw [this]
    exact pw_bits m k (by omega)
theorem crcFrom_xor (d : UInt32) (C : List UInt8) : ∀ a, crcFrom (a ^^^ d) C = crcFrom a C ^^^ crcBits d (8 * C.length) := by
  induction C generalizing d with
  | nil => intro a; rfl
  | cons b C ih =>
    intro a
    have e : crcByte (a ^^^ d) b = crcByte a b ^^^ crcBits d 8 := by
      unfold crcByte
      rw [UInt32.xor_assoc, UInt32.xor_comm d, ← UInt32.xor_assoc, crcBits_xor]
    show crcFrom (crcByte (a ^^^ d) b) C = crcFrom (crcByte a b) C ^^^ _
    rw [e, ih, ← crcBits_add, List.length_cons, show 8 + 8 * C.length = 8 * (C.length + 1) by omega]
def pb (j : Nat) : UInt8 := UInt8.ofNat (2 ^ j)
theorem pb_pw : ∀ j, j < 8 → (pb j).toUInt32 = pw j := by decide +kernel
/-- One bit of the bytes, turned. -/
theorem crc_flip (r : UInt32) (A C : List UInt8) (x : UInt8) (j : Nat) (hj : j < 8) : crcFrom r (A ++ (x ^^^ pb j) :: C) = crcFrom r (A ++ x :: C) ^^^ crcBits (pw 0) (8 * (C.length + 1) - j) := by
  have e : crcByte (crcFrom r A) (x ^^^ pb j) = crcByte (crcFrom r A) x ^^^ crcBits (pw j) 8 := by
    unfold crcByte
    rw [UInt8.toUInt32_xor, ← UInt32.xor_assoc, crcBits_xor, pb_pw j hj]
  have ha : ∀ y : UInt8, crcFrom r (A ++ y :: C) = crcFrom (crcByte (crcFrom r A) y) C := fun y => by simp [crcFrom]
  rw [ha, ha, e, crcFrom_xor, ← crcBits_add]
  have := pw_bits (8 * (C.length + 1) - j) j (by omega)
  rw [← this, show j + (8 * (C.length + 1) - j) = 8 + 8 * C.length by omega]
/-- A burst: the bits k of w below n, from the bit `first`. -/
def burst (s : List UInt8) (first n : Nat) (w : UInt32) : Nat → List UInt8 × UInt32
  | 0 => (s, 0)
  | k + 1 =>
    let q := burst s first n w k
    if first + k < n ∧ w.toNat / 2 ^ k % 2 = 1 then (q.1.set ((first + k) / 8) (q.1.getD ((first + k) / 8) 0 ^^^ pb ((first + k) % 8)), q.2 ^^^ pw k) else q
theorem burst_len (s : List UInt8) (first n : Nat) (w : UInt32) : ∀ k, (burst s first n w k).1.length = s.length
  | 0 => rfl
  | k + 1 => by
    have := burst_len s first n w k
    simp only [burst]
    split
    · rw [List.length_set, this]
    · exact this
theorem burst_crc (s : List UInt8) (first n : Nat) (w : UInt32) (hn : n = 8 * s.length) (hf : first ≤ n) (r : UInt32) : ∀ k, k ≤ 32 → crcFrom r (burst s first n w k).1 = crcFrom r s ^^^ crcBits (burst s first n w k).2 (n - first)
  | 0, _ => by
    have : ∀ m, crcBits 0 m = 0 := fun m => by
      induction m with
      | zero => rfl
      | succ m ih => simp only [crcBits, ih]; rfl
    simp only [burst, this, UInt32.xor_zero]
  | k + 1, hk => by
    have ih := burst_crc s first n w hn hf r k (by omega)
    have hl := burst_len s first n w k
    simp only [burst]
    split
    · rename_i h
      generalize burst s first n w k = q at *
      obtain ⟨b, v⟩ := q
      simp only at ih hl ⊢
      have hq : (first + k) / 8 < b.length := by omega
      have hs := List.take_append_drop ((first + k) / 8) b
      rw [List.drop_eq_getElem_cons hq] at hs
      have e1 : b.set ((first + k) / 8) (b.getD ((first + k) / 8) 0 ^^^ pb ((first + k) % 8)) = b.take ((first + k) / 8) ++ (b[(first + k) / 8] ^^^ pb ((first + k) % 8)) :: b.drop ((first + k) / 8 + 1) := by
        rw [List.set_eq_take_append_cons_drop, if_pos hq, List.getD_eq_getElem?_getD, List.getElem?_eq_getElem hq]
        rfl
      rw [e1, crc_flip _ _ _ _ _ (by omega), hs, ih, UInt32.xor_assoc, crcBits_xor]
      have := pw_bits (n - first - k) k (by omega)
      rw [List.length_drop, show k + (n - first - k) = n - first by omega] at *
      rw [this]
      congr 3
      omega
    · exact ih
theorem burst_some (s : List UInt8) (first n : Nat) (w : UInt32) : ∀ k, k ≤ 32 → (burst s first n w k).2.toNat < 2 ^ k ∧ ((burst s first n w k).2 = 0 ↔ ∀ i, i < k → ¬ (first + i < n ∧ w.toNat / 2 ^ i % 2 = 1))
  | 0, _ => ⟨by simp [burst], by simp [burst]⟩
  | k + 1, hk => by
    obtain ⟨h1, h2⟩ := burst_some s first n w k (by omega)
    simp only [burst]
    have hp : 2 ^ k < 2 ^ (k + 1) := Nat.pow_lt_pow_right (by omega) (by omega)
    have hp2 : 2 ^ k < 2 ^ 32 := Nat.pow_lt_pow_right (by omega) (by omega)
    have hpw : (pw k).toNat = 2 ^ k := UInt32.toNat_ofNat_of_lt' hp2
    split
    · rename_i h
      generalize burst s first n w k = q at *
      obtain ⟨b, v⟩ := q
      simp only at h1 h2 ⊢
      refine ⟨?_, ?_⟩
      · rw [UInt32.toNat_xor]
        exact Nat.xor_lt_two_pow (by omega) (by omega)
      · constructor
        · intro h0
          have := congrArg UInt32.toNat (xor_cancel h0)
          omega
        · intro h0
          exact absurd h (h0 k (by omega))
    · rename_i h
      refine ⟨by omega, h2.trans ⟨fun g i hi => ?_, fun g i hi => g i (by omega)⟩⟩
      by_cases hik : i = k
      · subst hik; exact h
      · exact g i (by omega)
/-- The check sees each burst. -/
theorem burst_seen (s : List UInt8) (first n : Nat) (w : UInt32) (hn : n = 8 * s.length) (hf : first ≤ n) (r : UInt32) : crcFrom r (burst s first n w 32).1 = crcFrom r s ↔ (burst s first n w 32).2 = 0 := by
  have h := burst_crc s first n w hn hf r 32 (by omega)
  rw [h]
  constructor
  · intro e
    apply crcBits_zero (n - first)
    have : crcFrom r s ^^^ (crcFrom r s ^^^ crcBits (burst s first n w 32).2 (n - first)) = crcFrom r s ^^^ crcFrom r s := by rw [e]
    rwa [← UInt32.xor_assoc, UInt32.xor_self, UInt32.zero_xor] at this
  · intro e
    have z : ∀ m, crcBits 0 m = 0 := fun m => by
      induction m with
      | zero => rfl
      | succ m ih => simp only [crcBits, ih]; rfl
    rw [e, z, UInt32.xor_zero]
end Go.Vm
