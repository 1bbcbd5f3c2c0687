/- Lists of those that take part, by the bits of numbers: plain facts. -/
import Derived.Test.YtihoclophfldjaaVmFit
set_option linter.unusedSectionVars false
set_option linter.unusedSimpArgs false
set_option linter.unusedVariables false
namespace Go.Vm
theorem wrapi64_id {x : Int} (h0 : -9223372036854775808 ≤ x) (h1 : x ≤ 9223372036854775807) : IntKind.i64.wrap x = x := by
  rw [IntKind.wrap_i64]; omega
theorem ofInt_toNat (x : Int) : (BitVec.ofInt 64 x).toNat = (x % 18446744073709551616).toNat := by
  rw [BitVec.toNat_ofInt]; rfl
/-- Behind a mask of the lowest bits a number's rest is left. -/
theorem and_mask (x : Int) (j : Nat) (hj : j < 63) : Go.bits .and .i64 x (2 ^ j - 1) = x % 2 ^ j := by
  have hp : (2 : Nat) ^ j < 2 ^ 63 := Nat.pow_lt_pow_right (by decide) hj
  have hpos : 0 < (2 : Nat) ^ j := Nat.two_pow_pos j
  have hpi : ((2 : Int) ^ j) = ((2 ^ j : Nat) : Int) := by simp
  have h2 : (BitVec.ofInt 64 ((2 : Int) ^ j - 1)).toNat = 2 ^ j - 1 := by
    rw [ofInt_toNat, hpi]
    omega
  have e : Go.bits .and .i64 x (2 ^ j - 1) = IntKind.i64.wrap ((BitVec.ofInt 64 x &&& BitVec.ofInt 64 ((2 : Int) ^ j - 1)).toNat : Int) := rfl
  rw [e, BitVec.toNat_and, h2, Nat.and_two_pow_sub_one_eq_mod, ofInt_toNat]
  have hm : (((x % 18446744073709551616).toNat % 2 ^ j : Nat) : Int) = x % 2 ^ j := by
    rw [Int.natCast_emod, Int.toNat_of_nonneg (by omega), hpi, Int.emod_emod_of_dvd]
    have : (18446744073709551616 : Int) = ((2 ^ 64 : Nat) : Int) := by decide
    rw [this]
    exact Int.natCast_dvd_natCast.2 (Nat.pow_dvd_pow 2 (by omega))
  rw [hm]
  have h3 : 0 ≤ x % 2 ^ j := Int.emod_nonneg _ (by rw [hpi]; omega)
  have h4 : x % 2 ^ j < 2 ^ j := Int.emod_lt_of_pos _ (by rw [hpi]; omega)
  rw [hpi] at h4
  exact wrapi64_id (by omega) (by omega)
theorem and_16 (x : Int) : Go.bits .and .i64 x 65535 = ((x % 65536).toNat : Int) := by
  rw [show Go.bits .and .i64 x 65535 = x % 65536 from and_mask x 16 (by omega)]; omega
theorem and_4 (x : Int) : Go.bits .and .i64 x 15 = ((x % 16).toNat : Int) := by
  rw [show Go.bits .and .i64 x 15 = x % 16 from and_mask x 4 (by omega)]; omega
theorem and_1n (x : Nat) : Go.bits .and .i64 (x : Int) 1 = ((x % 2 : Nat) : Int) := by
  have : Go.bits .and .i64 (x : Int) 1 = (x : Int) % 2 := by simpa using and_mask x 1 (by omega)
  rw [this]; omega
theorem bits_xor_nat {a b : Nat} (ha : a < 2 ^ 62) (hb : b < 2 ^ 62) : Go.bits .xor .i64 (a : Int) (b : Int) = ((a ^^^ b : Nat) : Int) := by
  have e : Go.bits .xor .i64 (a : Int) (b : Int) = IntKind.i64.wrap ((BitVec.ofInt 64 (a : Int) ^^^ BitVec.ofInt 64 (b : Int)).toNat : Int) := rfl
  have hx : a ^^^ b < 2 ^ 62 := Nat.xor_lt_two_pow ha hb
  rw [e, BitVec.toNat_xor, ofInt_toNat, ofInt_toNat, show ((a : Int) % 18446744073709551616).toNat = a by omega, show ((b : Int) % 18446744073709551616).toNat = b by omega]
  exact wrapi64_id (by omega) (by omega)
theorem bits_or_nat {a b : Nat} (ha : a < 2 ^ 62) (hb : b < 2 ^ 62) : Go.bits .or .i64 (a : Int) (b : Int) = ((a ||| b : Nat) : Int) := by
  have e : Go.bits .or .i64 (a : Int) (b : Int) = IntKind.i64.wrap ((BitVec.ofInt 64 (a : Int) ||| BitVec.ofInt 64 (b : Int)).toNat : Int) := rfl
  have hx : a ||| b < 2 ^ 62 := Nat.or_lt_two_pow ha hb
  rw [e, BitVec.toNat_or, ofInt_toNat, ofInt_toNat, show ((a : Int) % 18446744073709551616).toNat = a by omega, show ((b : Int) % 18446744073709551616).toNat = b by omega]
  exact wrapi64_id (by omega) (by omega)
theorem bits_and_nat (x : Int) {b : Nat} (hb : b < 2 ^ 16) : Go.bits .and .i64 x (b : Int) = (((x % 65536).toNat &&& b : Nat) : Int) := by
  have e : Go.bits .and .i64 x (b : Int) = IntKind.i64.wrap ((BitVec.ofInt 64 x &&& BitVec.ofInt 64 (b : Int)).toNat : Int) := rfl
  have e2 : (x % 18446744073709551616).toNat &&& b = (x % 65536).toNat &&& b := by
    apply Nat.eq_of_testBit_eq
    intro i
    rw [Nat.testBit_and, Nat.testBit_and]
    by_cases hi : i < 16
    · have h1 : (x % 65536).toNat = (x % 18446744073709551616).toNat % 2 ^ 16 := by omega
      rw [h1, Nat.testBit_mod_two_pow]
      simp [hi]
    · have : b.testBit i = false := Nat.testBit_lt_two_pow (Nat.lt_of_lt_of_le hb (Nat.pow_le_pow_right (by decide) (by omega)))
      simp [this]
  have hx : (x % 65536).toNat &&& b < 2 ^ 16 := Nat.and_lt_two_pow _ hb
  rw [e, BitVec.toNat_and, ofInt_toNat, ofInt_toNat, show ((b : Int) % 18446744073709551616).toNat = b by omega, e2]
  exact wrapi64_id (by omega) (by omega)
/-- Who takes part, by the bits of a number. -/
def listN (n : Nat) : List Nat := (List.range 16).filter fun i => n.testBit i
def iv (i : Nat) : V := .int .i64 (i : Int)
def listUp (n i : Nat) : List Nat := (List.range i).filter fun i => n.testBit i
theorem listUp_succ (n i : Nat) : listUp n (i + 1) = if n.testBit i then listUp n i ++ [i] else listUp n i := by
  unfold listUp
  rw [List.range_succ, List.filter_append]
  by_cases h : n.testBit i = true
  · simp [h]
  · simp [h]
theorem listUp_len (n i : Nat) : (listUp n i).length ≤ i := by
  unfold listUp
  exact Nat.le_trans (List.length_filter_le _ _) (by simp)
theorem bit_iff (n i : Nat) : (n / 2 ^ i % 2 = 1) = (n.testBit i = true) := by
  rw [Nat.testBit_eq_decide_div_mod_eq, decide_eq_true_eq]
theorem listN_zero (n : Nat) (hn : n < 65536) : ((listN n).length = 0) = (n = 0) := by
  refine propext ⟨fun h => ?_, fun h => by subst h; decide⟩
  apply Nat.eq_of_testBit_eq
  intro i
  rw [Nat.zero_testBit]
  by_cases hi : i < 16
  · cases hb : n.testBit i
    · rfl
    · have : i ∈ listN n := by simp [listN, hi, hb]
      rw [List.length_eq_zero_iff.1 h] at this
      cases this
  · exact Nat.testBit_lt_two_pow (Nat.lt_of_lt_of_le hn (show 65536 ≤ 2 ^ i from Nat.pow_le_pow_right (n := 2) (by decide) (Nat.le_of_not_lt hi)))
theorem count_sub (a p : Nat) (l : List Nat) (h : ∀ i, p.testBit i = true → a.testBit i = true) : ((l.filter fun i => a.testBit i).countP fun i => p.testBit i) = (l.filter fun i => p.testBit i).length := by
  rw [List.countP_filter, List.countP_eq_length_filter]
  congr 1
  apply List.filter_congr
  intro i _
  cases hp : p.testBit i
  · simp
  · simp [h i hp]
/-- Of two sets that differ in one place, more than half of the one and more than half of the other have one in common. -/
theorem meets (a p q w : Nat) (hw : w < 16) (hp : ∀ i, p.testBit i = true → a.testBit i = true) (hq : ∀ i, q.testBit i = true → (a ^^^ 2 ^ w).testBit i = true)
    (h1 : (listN a).length < 2 * (listN p).length) (h2 : (listN (a ^^^ 2 ^ w)).length < 2 * (listN q).length) : p &&& q ≠ 0 := by
  intro h0
  have hd : ∀ i, ¬ (p.testBit i = true ∧ q.testBit i = true) := fun i ⟨x, y⟩ => by
    have := congrArg (fun n => n.testBit i) h0
    simp [x, y] at this
  have hx : ∀ i, (a ^^^ 2 ^ w).testBit i = (a.testBit i != decide (w = i)) := fun i => by rw [Nat.testBit_xor, Nat.testBit_two_pow]
  have key : ∀ n, (((List.range n).filter fun i => p.testBit i).length + ((List.range n).filter fun i => q.testBit i).length ≤ ((List.range n).filter fun i => a.testBit i).length + (if w < n then (if a.testBit w then 0 else 1) else 0)) ∧
      ((List.range n).filter fun i => (a ^^^ 2 ^ w).testBit i).length + (if w < n then (if a.testBit w then 1 else 0) else 0) = ((List.range n).filter fun i => a.testBit i).length + (if w < n then (if a.testBit w then 0 else 1) else 0) := by
    intro n
    induction n with
    | zero => simp
    | succ n ih =>
      simp only [List.range_succ, List.filter_append, List.length_append]
      have hb := hx n
      have hpn := hp n
      have hqn := hq n
      rw [hb] at hqn
      have hdn := hd n
      have one : ∀ f : Nat → Bool, (List.filter f [n]).length = if f n = true then 1 else 0 := fun f => by cases h : f n <;> simp [h]
      simp only [one, hb]
      by_cases hwn : w = n
      · subst hwn
        simp only [decide_true] at hqn ⊢
        simp only [Nat.lt_irrefl, if_false, Nat.lt_succ_self, if_true] at ih ⊢
        cases hp1 : p.testBit w <;> cases hq1 : q.testBit w <;> cases ha1 : a.testBit w <;> simp_all <;> (try omega)
      · have e1 : decide (w = n) = false := by simp [hwn]
        simp only [e1] at hqn ⊢
        have e2 : (w < n + 1) = (w < n) := by apply propext; omega
        simp only [e2]
        cases hp1 : p.testBit n <;> cases hq1 : q.testBit n <;> cases ha1 : a.testBit n <;> simp_all <;> (try omega)
  have := key 16
  simp only [hw, if_true] at this
  unfold listN at h1 h2
  obtain ⟨k1, k2⟩ := this
  cases ha : a.testBit w <;> simp only [ha, Bool.false_eq_true, if_false, if_true] at k1 k2 <;> omega
end Go.Vm
