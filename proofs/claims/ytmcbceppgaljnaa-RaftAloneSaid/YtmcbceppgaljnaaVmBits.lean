/- Bits of numbers without sign, as Lean's own. -/
import Derived.Test.YtmcbceppgaljnaaVmSim
set_option linter.unusedSectionVars false
set_option linter.unusedSimpArgs false
set_option linter.unusedVariables false
namespace Go.Vm

theorem bv_u8 (a : UInt8) : BitVec.ofInt 8 (a.toNat : Int) = a.toBitVec := by
  rw [BitVec.ofInt_natCast]
  apply BitVec.eq_of_toNat_eq
  rw [BitVec.toNat_ofNat, Nat.mod_eq_of_lt a.toNat_lt]
  rfl
theorem lt_u8 (a : UInt8) : a.toNat < 256 := a.toNat_lt
theorem wn_u8 {n : Nat} (h : n < 256) : IntKind.u8.wrap (n : Int) = n := by
  simp [IntKind.wrap, IntKind.signed, IntKind.bits]; omega
theorem wt_u8 (a : UInt8) : IntKind.u8.wrap (a.toNat : Int) = a.toNat := wn_u8 (lt_u8 a)
theorem xor_u8 (a b : UInt8) : bits .xor .u8 (a.toNat : Int) (b.toNat : Int) = ((a ^^^ b).toNat : Int) := by
  have e : bits .xor .u8 (a.toNat : Int) (b.toNat : Int) = IntKind.u8.wrap ((BitVec.ofInt 8 (a.toNat : Int) ^^^ BitVec.ofInt 8 (b.toNat : Int)).toNat : Int) := rfl
  rw [e, bv_u8, bv_u8]
  exact wt_u8 (a ^^^ b)
theorem lit_xor_u8 (n : Nat) (h : n < 256) : (((UInt8.ofNat n).toNat : Nat) : Int) = (n : Int) := by rw [UInt8.toNat_ofNat_of_lt' h]
theorem xor_u8_l (a : UInt8) (n : Nat) (h : (OfNat.ofNat n : Nat) < 256) : bits .xor .u8 (a.toNat : Int) (no_index (OfNat.ofNat n) : Int) = ((a ^^^ UInt8.ofNat (OfNat.ofNat n)).toNat : Int) := by
  rw [← xor_u8, lit_xor_u8 _ h]
  rfl
theorem xor_u8_r (a : UInt8) (n : Nat) (h : (OfNat.ofNat n : Nat) < 256) : bits .xor .u8 (no_index (OfNat.ofNat n) : Int) (a.toNat : Int) = ((UInt8.ofNat (OfNat.ofNat n) ^^^ a).toNat : Int) := by
  rw [← xor_u8, lit_xor_u8 _ h]
  rfl
theorem and_u8 (a b : UInt8) : bits .and .u8 (a.toNat : Int) (b.toNat : Int) = ((a &&& b).toNat : Int) := by
  have e : bits .and .u8 (a.toNat : Int) (b.toNat : Int) = IntKind.u8.wrap ((BitVec.ofInt 8 (a.toNat : Int) &&& BitVec.ofInt 8 (b.toNat : Int)).toNat : Int) := rfl
  rw [e, bv_u8, bv_u8]
  exact wt_u8 (a &&& b)

theorem and_u8_l (a : UInt8) (n : Nat) (h : (OfNat.ofNat n : Nat) < 256) : bits .and .u8 (a.toNat : Int) (no_index (OfNat.ofNat n) : Int) = ((a &&& UInt8.ofNat (OfNat.ofNat n)).toNat : Int) := by
  rw [← and_u8, lit_xor_u8 _ h]
  rfl
theorem and_u8_r (a : UInt8) (n : Nat) (h : (OfNat.ofNat n : Nat) < 256) : bits .and .u8 (no_index (OfNat.ofNat n) : Int) (a.toNat : Int) = ((UInt8.ofNat (OfNat.ofNat n) &&& a).toNat : Int) := by
  rw [← and_u8, lit_xor_u8 _ h]
  rfl
theorem or_u8 (a b : UInt8) : bits .or .u8 (a.toNat : Int) (b.toNat : Int) = ((a ||| b).toNat : Int) := by
  have e : bits .or .u8 (a.toNat : Int) (b.toNat : Int) = IntKind.u8.wrap ((BitVec.ofInt 8 (a.toNat : Int) ||| BitVec.ofInt 8 (b.toNat : Int)).toNat : Int) := rfl
  rw [e, bv_u8, bv_u8]
  exact wt_u8 (a ||| b)

theorem or_u8_l (a : UInt8) (n : Nat) (h : (OfNat.ofNat n : Nat) < 256) : bits .or .u8 (a.toNat : Int) (no_index (OfNat.ofNat n) : Int) = ((a ||| UInt8.ofNat (OfNat.ofNat n)).toNat : Int) := by
  rw [← or_u8, lit_xor_u8 _ h]
  rfl
theorem or_u8_r (a : UInt8) (n : Nat) (h : (OfNat.ofNat n : Nat) < 256) : bits .or .u8 (no_index (OfNat.ofNat n) : Int) (a.toNat : Int) = ((UInt8.ofNat (OfNat.ofNat n) ||| a).toNat : Int) := by
  rw [← or_u8, lit_xor_u8 _ h]
  rfl
theorem add_u8 (a b : UInt8) : IntKind.u8.wrap ((a.toNat + b.toNat : Nat) : Int) = ((a + b).toNat : Int) := by
  rw [UInt8.toNat_add]
  simp [IntKind.wrap, IntKind.signed, IntKind.bits]
theorem mul_u8 (a b : UInt8) : IntKind.u8.wrap ((a.toNat * b.toNat : Nat) : Int) = ((a * b).toNat : Int) := by
  rw [UInt8.toNat_mul]
  simp [IntKind.wrap, IntKind.signed, IntKind.bits]
theorem shl_u8 (a : UInt8) (n : Nat) (h : n < 8) : IntKind.u8.wrap ((a.toNat * 2 ^ n : Nat) : Int) = ((a <<< UInt8.ofNat n).toNat : Int) := by
  have h2 : (UInt8.ofNat n).toNat = n := UInt8.toNat_ofNat_of_lt' (by show _ < 256; omega)
  rw [UInt8.toNat_shiftLeft, h2, Nat.mod_eq_of_lt h, Nat.shiftLeft_eq]
  simp only [IntKind.wrap, IntKind.signed, IntKind.bits]
  simp
theorem shr_u8 (a : UInt8) (n : Nat) (h : n < 8) : a.toNat / 2 ^ n = (a >>> UInt8.ofNat n).toNat := by
  have h2 : (UInt8.ofNat n).toNat = n := UInt8.toNat_ofNat_of_lt' (by show _ < 256; omega)
  rw [UInt8.toNat_shiftRight, h2, Nat.mod_eq_of_lt h, Nat.shiftRight_eq_div_pow]
theorem inj_u8 (a b : UInt8) : (a.toNat = b.toNat) = (a = b) := propext UInt8.toNat_inj
theorem eql_u8 (a : UInt8) (n : Nat) (h : (OfNat.ofNat n : Nat) < 256) : (a.toNat = (no_index (OfNat.ofNat n) : Nat)) = (a = UInt8.ofNat (OfNat.ofNat n)) := by
  refine propext ⟨fun e => ?_, fun e => ?_⟩
  · rw [← e, UInt8.ofNat_toNat]
  · rw [e, UInt8.toNat_ofNat_of_lt' h]
theorem of_u8 (x : Int) (h : (Lit.int .u8 x).wf = true) : ∃ a : UInt8, x = (a.toNat : Int) := by
  have h1 : 0 ≤ x ∧ x < 256 := by
    simp [Lit.wf, IntKind.min, IntKind.max, IntKind.signed, IntKind.bits] at h
    omega
  refine ⟨UInt8.ofNat x.toNat, ?_⟩
  rw [UInt8.toNat_ofNat_of_lt' (by show _ < 256; omega)]
  omega
theorem bv_u32 (a : UInt32) : BitVec.ofInt 32 (a.toNat : Int) = a.toBitVec := by
  rw [BitVec.ofInt_natCast]
  apply BitVec.eq_of_toNat_eq
  rw [BitVec.toNat_ofNat, Nat.mod_eq_of_lt a.toNat_lt]
  rfl
theorem lt_u32 (a : UInt32) : a.toNat < 4294967296 := a.toNat_lt
theorem wn_u32 {n : Nat} (h : n < 4294967296) : IntKind.u32.wrap (n : Int) = n := by
  simp [IntKind.wrap, IntKind.signed, IntKind.bits]; omega
theorem wt_u32 (a : UInt32) : IntKind.u32.wrap (a.toNat : Int) = a.toNat := wn_u32 (lt_u32 a)
theorem xor_u32 (a b : UInt32) : bits .xor .u32 (a.toNat : Int) (b.toNat : Int) = ((a ^^^ b).toNat : Int) := by
  have e : bits .xor .u32 (a.toNat : Int) (b.toNat : Int) = IntKind.u32.wrap ((BitVec.ofInt 32 (a.toNat : Int) ^^^ BitVec.ofInt 32 (b.toNat : Int)).toNat : Int) := rfl
  rw [e, bv_u32, bv_u32]
  exact wt_u32 (a ^^^ b)
theorem lit_xor_u32 (n : Nat) (h : n < 4294967296) : (((UInt32.ofNat n).toNat : Nat) : Int) = (n : Int) := by rw [UInt32.toNat_ofNat_of_lt' h]
theorem xor_u32_l (a : UInt32) (n : Nat) (h : (OfNat.ofNat n : Nat) < 4294967296) : bits .xor .u32 (a.toNat : Int) (no_index (OfNat.ofNat n) : Int) = ((a ^^^ UInt32.ofNat (OfNat.ofNat n)).toNat : Int) := by
  rw [← xor_u32, lit_xor_u32 _ h]
  rfl
theorem xor_u32_r (a : UInt32) (n : Nat) (h : (OfNat.ofNat n : Nat) < 4294967296) : bits .xor .u32 (no_index (OfNat.ofNat n) : Int) (a.toNat : Int) = ((UInt32.ofNat (OfNat.ofNat n) ^^^ a).toNat : Int) := by
  rw [← xor_u32, lit_xor_u32 _ h]
  rfl
theorem and_u32 (a b : UInt32) : bits .and .u32 (a.toNat : Int) (b.toNat : Int) = ((a &&& b).toNat : Int) := by
  have e : bits .and .u32 (a.toNat : Int) (b.toNat : Int) = IntKind.u32.wrap ((BitVec.ofInt 32 (a.toNat : Int) &&& BitVec.ofInt 32 (b.toNat : Int)).toNat : Int) := rfl
  rw [e, bv_u32, bv_u32]
  exact wt_u32 (a &&& b)

theorem and_u32_l (a : UInt32) (n : Nat) (h : (OfNat.ofNat n : Nat) < 4294967296) : bits .and .u32 (a.toNat : Int) (no_index (OfNat.ofNat n) : Int) = ((a &&& UInt32.ofNat (OfNat.ofNat n)).toNat : Int) := by
  rw [← and_u32, lit_xor_u32 _ h]
  rfl
theorem and_u32_r (a : UInt32) (n : Nat) (h : (OfNat.ofNat n : Nat) < 4294967296) : bits .and .u32 (no_index (OfNat.ofNat n) : Int) (a.toNat : Int) = ((UInt32.ofNat (OfNat.ofNat n) &&& a).toNat : Int) := by
  rw [← and_u32, lit_xor_u32 _ h]
  rfl
theorem or_u32 (a b : UInt32) : bits .or .u32 (a.toNat : Int) (b.toNat : Int) = ((a ||| b).toNat : Int) := by
  have e : bits .or .u32 (a.toNat : Int) (b.toNat : Int) = IntKind.u32.wrap ((BitVec.ofInt 32 (a.toNat : Int) ||| BitVec.ofInt 32 (b.toNat : Int)).toNat : Int) := rfl
  rw [e, bv_u32, bv_u32]
  exact wt_u32 (a ||| b)

theorem or_u32_l (a : UInt32) (n : Nat) (h : (OfNat.ofNat n : Nat) < 4294967296) : bits .or .u32 (a.toNat : Int) (no_index (OfNat.ofNat n) : Int) = ((a ||| UInt32.ofNat (OfNat.ofNat n)).toNat : Int) := by
  rw [← or_u32, lit_xor_u32 _ h]
  rfl
theorem or_u32_r (a : UInt32) (n : Nat) (h : (OfNat.ofNat n : Nat) < 4294967296) : bits .or .u32 (no_index (OfNat.ofNat n) : Int) (a.toNat : Int) = ((UInt32.ofNat (OfNat.ofNat n) ||| a).toNat : Int) := by
  rw [← or_u32, lit_xor_u32 _ h]
  rfl
theorem add_u32 (a b : UInt32) : IntKind.u32.wrap ((a.toNat + b.toNat : Nat) : Int) = ((a + b).toNat : Int) := by
  rw [UInt32.toNat_add]
  simp [IntKind.wrap, IntKind.signed, IntKind.bits]
theorem mul_u32 (a b : UInt32) : IntKind.u32.wrap ((a.toNat * b.toNat : Nat) : Int) = ((a * b).toNat : Int) := by
  rw [UInt32.toNat_mul]
  simp [IntKind.wrap, IntKind.signed, IntKind.bits]
theorem shl_u32 (a : UInt32) (n : Nat) (h : n < 32) : IntKind.u32.wrap ((a.toNat * 2 ^ n : Nat) : Int) = ((a <<< UInt32.ofNat n).toNat : Int) := by
  have h2 : (UInt32.ofNat n).toNat = n := UInt32.toNat_ofNat_of_lt' (by show _ < 4294967296; omega)
  rw [UInt32.toNat_shiftLeft, h2, Nat.mod_eq_of_lt h, Nat.shiftLeft_eq]
  simp only [IntKind.wrap, IntKind.signed, IntKind.bits]
  simp
theorem shr_u32 (a : UInt32) (n : Nat) (h : n < 32) : a.toNat / 2 ^ n = (a >>> UInt32.ofNat n).toNat := by
  have h2 : (UInt32.ofNat n).toNat = n := UInt32.toNat_ofNat_of_lt' (by show _ < 4294967296; omega)
  rw [UInt32.toNat_shiftRight, h2, Nat.mod_eq_of_lt h, Nat.shiftRight_eq_div_pow]
theorem inj_u32 (a b : UInt32) : (a.toNat = b.toNat) = (a = b) := propext UInt32.toNat_inj
theorem eql_u32 (a : UInt32) (n : Nat) (h : (OfNat.ofNat n : Nat) < 4294967296) : (a.toNat = (no_index (OfNat.ofNat n) : Nat)) = (a = UInt32.ofNat (OfNat.ofNat n)) := by
  refine propext ⟨fun e => ?_, fun e => ?_⟩
  · rw [← e, UInt32.ofNat_toNat]
  · rw [e, UInt32.toNat_ofNat_of_lt' h]
theorem of_u32 (x : Int) (h : (Lit.int .u32 x).wf = true) : ∃ a : UInt32, x = (a.toNat : Int) := by
  have h1 : 0 ≤ x ∧ x < 4294967296 := by
    simp [Lit.wf, IntKind.min, IntKind.max, IntKind.signed, IntKind.bits] at h
    omega
  refine ⟨UInt32.ofNat x.toNat, ?_⟩
  rw [UInt32.toNat_ofNat_of_lt' (by show _ < 4294967296; omega)]
  omega
theorem bv_u64 (a : UInt64) : BitVec.ofInt 64 (a.toNat : Int) = a.toBitVec := by
  rw [BitVec.ofInt_natCast]
  apply BitVec.eq_of_toNat_eq
  rw [BitVec.toNat_ofNat, Nat.mod_eq_of_lt a.toNat_lt]
  rfl
theorem lt_u64 (a : UInt64) : a.toNat < 18446744073709551616 := a.toNat_lt
theorem wn_u64 {n : Nat} (h : n < 18446744073709551616) : IntKind.u64.wrap (n : Int) = n := by
  simp [IntKind.wrap, IntKind.signed, IntKind.bits]; omega
theorem wt_u64 (a : UInt64) : IntKind.u64.wrap (a.toNat : Int) = a.toNat := wn_u64 (lt_u64 a)
theorem xor_u64 (a b : UInt64) : bits .xor .u64 (a.toNat : Int) (b.toNat : Int) = ((a ^^^ b).toNat : Int) := by
  have e : bits .xor .u64 (a.toNat : Int) (b.toNat : Int) = IntKind.u64.wrap ((BitVec.ofInt 64 (a.toNat : Int) ^^^ BitVec.ofInt 64 (b.toNat : Int)).toNat : Int) := rfl
  rw [e, bv_u64, bv_u64]
  exact wt_u64 (a ^^^ b)
theorem lit_xor_u64 (n : Nat) (h : n < 18446744073709551616) : (((UInt64.ofNat n).toNat : Nat) : Int) = (n : Int) := by rw [UInt64.toNat_ofNat_of_lt' h]
theorem xor_u64_l (a : UInt64) (n : Nat) (h : (OfNat.ofNat n : Nat) < 18446744073709551616) : bits .xor .u64 (a.toNat : Int) (no_index (OfNat.ofNat n) : Int) = ((a ^^^ UInt64.ofNat (OfNat.ofNat n)).toNat : Int) := by
  rw [← xor_u64, lit_xor_u64 _ h]
  rfl
theorem xor_u64_r (a : UInt64) (n : Nat) (h : (OfNat.ofNat n : Nat) < 18446744073709551616) : bits .xor .u64 (no_index (OfNat.ofNat n) : Int) (a.toNat : Int) = ((UInt64.ofNat (OfNat.ofNat n) ^^^ a).toNat : Int) := by
  rw [← xor_u64, lit_xor_u64 _ h]
  rfl
theorem and_u64 (a b : UInt64) : bits .and .u64 (a.toNat : Int) (b.toNat : Int) = ((a &&& b).toNat : Int) := by
  have e : bits .and .u64 (a.toNat : Int) (b.toNat : Int) = IntKind.u64.wrap ((BitVec.ofInt 64 (a.toNat : Int) &&& BitVec.ofInt 64 (b.toNat : Int)).toNat : Int) := rfl
  rw [e, bv_u64, bv_u64]
  exact wt_u64 (a &&& b)

theorem and_u64_l (a : UInt64) (n : Nat) (h : (OfNat.ofNat n : Nat) < 18446744073709551616) : bits .and .u64 (a.toNat : Int) (no_index (OfNat.ofNat n) : Int) = ((a &&& UInt64.ofNat (OfNat.ofNat n)).toNat : Int) := by
  rw [← and_u64, lit_xor_u64 _ h]
  rfl
theorem and_u64_r (a : UInt64) (n : Nat) (h : (OfNat.ofNat n : Nat) < 18446744073709551616) : bits .and .u64 (no_index (OfNat.ofNat n) : Int) (a.toNat : Int) = ((UInt64.ofNat (OfNat.ofNat n) &&& a).toNat : Int) := by
  rw [← and_u64, lit_xor_u64 _ h]
  rfl
theorem or_u64 (a b : UInt64) : bits .or .u64 (a.toNat : Int) (b.toNat : Int) = ((a ||| b).toNat : Int) := by
  have e : bits .or .u64 (a.toNat : Int) (b.toNat : Int) = IntKind.u64.wrap ((BitVec.ofInt 64 (a.toNat : Int) ||| BitVec.ofInt 64 (b.toNat : Int)).toNat : Int) := rfl
  rw [e, bv_u64, bv_u64]
  exact wt_u64 (a ||| b)

theorem or_u64_l (a : UInt64) (n : Nat) (h : (OfNat.ofNat n : Nat) < 18446744073709551616) : bits .or .u64 (a.toNat : Int) (no_index (OfNat.ofNat n) : Int) = ((a ||| UInt64.ofNat (OfNat.ofNat n)).toNat : Int) := by
  rw [← or_u64, lit_xor_u64 _ h]
  rfl
theorem or_u64_r (a : UInt64) (n : Nat) (h : (OfNat.ofNat n : Nat) < 18446744073709551616) : bits .or .u64 (no_index (OfNat.ofNat n) : Int) (a.toNat : Int) = ((UInt64.ofNat (OfNat.ofNat n) ||| a).toNat : Int) := by
  rw [← or_u64, lit_xor_u64 _ h]
  rfl
theorem add_u64 (a b : UInt64) : IntKind.u64.wrap ((a.toNat + b.toNat : Nat) : Int) = ((a + b).toNat : Int) := by
  rw [UInt64.toNat_add]
  simp [IntKind.wrap, IntKind.signed, IntKind.bits]
theorem mul_u64 (a b : UInt64) : IntKind.u64.wrap ((a.toNat * b.toNat : Nat) : Int) = ((a * b).toNat : Int) := by
  rw [UInt64.toNat_mul]
  simp [IntKind.wrap, IntKind.signed, IntKind.bits]
theorem shl_u64 (a : UInt64) (n : Nat) (h : n < 64) : IntKind.u64.wrap ((a.toNat * 2 ^ n : Nat) : Int) = ((a <<< UInt64.ofNat n).toNat : Int) := by
  have h2 : (UInt64.ofNat n).toNat = n := UInt64.toNat_ofNat_of_lt' (by show _ < 18446744073709551616; omega)
  rw [UInt64.toNat_shiftLeft, h2, Nat.mod_eq_of_lt h, Nat.shiftLeft_eq]
  simp only [IntKind.wrap, IntKind.signed, IntKind.bits]
  simp
theorem shr_u64 (a : UInt64) (n : Nat) (h : n < 64) : a.toNat / 2 ^ n = (a >>> UInt64.ofNat n).toNat := by
  have h2 : (UInt64.ofNat n).toNat = n := UInt64.toNat_ofNat_of_lt' (by show _ < 18446744073709551616; omega)
  rw [UInt64.toNat_shiftRight, h2, Nat.mod_eq_of_lt h, Nat.shiftRight_eq_div_pow]
theorem inj_u64 (a b : UInt64) : (a.toNat = b.toNat) = (a = b) := propext UInt64.toNat_inj
theorem eql_u64 (a : UInt64) (n : Nat) (h : (OfNat.ofNat n : Nat) < 18446744073709551616) : (a.toNat = (no_index (OfNat.ofNat n) : Nat)) = (a = UInt64.ofNat (OfNat.ofNat n)) := by
  refine propext ⟨fun e => ?_, fun e => ?_⟩
  · rw [← e, UInt64.ofNat_toNat]
  · rw [e, UInt64.toNat_ofNat_of_lt' h]
theorem of_u64 (x : Int) (h : (Lit.int .u64 x).wf = true) : ∃ a : UInt64, x = (a.toNat : Int) := by
  have h1 : 0 ≤ x ∧ x < 18446744073709551616 := by
    simp [Lit.wf, IntKind.min, IntKind.max, IntKind.signed, IntKind.bits] at h
    omega
  refine ⟨UInt64.ofNat x.toNat, ?_⟩
  rw [UInt64.toNat_ofNat_of_lt' (by show _ < 18446744073709551616; omega)]
  omega
theorem bv_u16 (a : UInt16) : BitVec.ofInt 16 (a.toNat : Int) = a.toBitVec := by
  rw [BitVec.ofInt_natCast]
  apply BitVec.eq_of_toNat_eq
  rw [BitVec.toNat_ofNat, Nat.mod_eq_of_lt a.toNat_lt]
  rfl
theorem lt_u16 (a : UInt16) : a.toNat < 65536 := a.toNat_lt
theorem wn_u16 {n : Nat} (h : n < 65536) : IntKind.u16.wrap (n : Int) = n := by
  simp [IntKind.wrap, IntKind.signed, IntKind.bits]; omega
theorem wt_u16 (a : UInt16) : IntKind.u16.wrap (a.toNat : Int) = a.toNat := wn_u16 (lt_u16 a)
theorem xor_u16 (a b : UInt16) : bits .xor .u16 (a.toNat : Int) (b.toNat : Int) = ((a ^^^ b).toNat : Int) := by
  have e : bits .xor .u16 (a.toNat : Int) (b.toNat : Int) = IntKind.u16.wrap ((BitVec.ofInt 16 (a.toNat : Int) ^^^ BitVec.ofInt 16 (b.toNat : Int)).toNat : Int) := rfl
  rw [e, bv_u16, bv_u16]
  exact wt_u16 (a ^^^ b)
theorem lit_xor_u16 (n : Nat) (h : n < 65536) : (((UInt16.ofNat n).toNat : Nat) : Int) = (n : Int) := by rw [UInt16.toNat_ofNat_of_lt' h]
theorem xor_u16_l (a : UInt16) (n : Nat) (h : (OfNat.ofNat n : Nat) < 65536) : bits .xor .u16 (a.toNat : Int) (no_index (OfNat.ofNat n) : Int) = ((a ^^^ UInt16.ofNat (OfNat.ofNat n)).toNat : Int) := by
  rw [← xor_u16, lit_xor_u16 _ h]
  rfl
theorem xor_u16_r (a : UInt16) (n : Nat) (h : (OfNat.ofNat n : Nat) < 65536) : bits .xor .u16 (no_index (OfNat.ofNat n) : Int) (a.toNat : Int) = ((UInt16.ofNat (OfNat.ofNat n) ^^^ a).toNat : Int) := by
  rw [← xor_u16, lit_xor_u16 _ h]
  rfl
theorem and_u16 (a b : UInt16) : bits .and .u16 (a.toNat : Int) (b.toNat : Int) = ((a &&& b).toNat : Int) := by
  have e : bits .and .u16 (a.toNat : Int) (b.toNat : Int) = IntKind.u16.wrap ((BitVec.ofInt 16 (a.toNat : Int) &&& BitVec.ofInt 16 (b.toNat : Int)).toNat : Int) := rfl
  rw [e, bv_u16, bv_u16]
  exact wt_u16 (a &&& b)

theorem and_u16_l (a : UInt16) (n : Nat) (h : (OfNat.ofNat n : Nat) < 65536) : bits .and .u16 (a.toNat : Int) (no_index (OfNat.ofNat n) : Int) = ((a &&& UInt16.ofNat (OfNat.ofNat n)).toNat : Int) := by
  rw [← and_u16, lit_xor_u16 _ h]
  rfl
theorem and_u16_r (a : UInt16) (n : Nat) (h : (OfNat.ofNat n : Nat) < 65536) : bits .and .u16 (no_index (OfNat.ofNat n) : Int) (a.toNat : Int) = ((UInt16.ofNat (OfNat.ofNat n) &&& a).toNat : Int) := by
  rw [← and_u16, lit_xor_u16 _ h]
  rfl
theorem or_u16 (a b : UInt16) : bits .or .u16 (a.toNat : Int) (b.toNat : Int) = ((a ||| b).toNat : Int) := by
  have e : bits .or .u16 (a.toNat : Int) (b.toNat : Int) = IntKind.u16.wrap ((BitVec.ofInt 16 (a.toNat : Int) ||| BitVec.ofInt 16 (b.toNat : Int)).toNat : Int) := rfl
  rw [e, bv_u16, bv_u16]
  exact wt_u16 (a ||| b)

theorem or_u16_l (a : UInt16) (n : Nat) (h : (OfNat.ofNat n : Nat) < 65536) : bits .or .u16 (a.toNat : Int) (no_index (OfNat.ofNat n) : Int) = ((a ||| UInt16.ofNat (OfNat.ofNat n)).toNat : Int) := by
  rw [← or_u16, lit_xor_u16 _ h]
  rfl
theorem or_u16_r (a : UInt16) (n : Nat) (h : (OfNat.ofNat n : Nat) < 65536) : bits .or .u16 (no_index (OfNat.ofNat n) : Int) (a.toNat : Int) = ((UInt16.ofNat (OfNat.ofNat n) ||| a).toNat : Int) := by
  rw [← or_u16, lit_xor_u16 _ h]
  rfl
theorem add_u16 (a b : UInt16) : IntKind.u16.wrap ((a.toNat + b.toNat : Nat) : Int) = ((a + b).toNat : Int) := by
  rw [UInt16.toNat_add]
  simp [IntKind.wrap, IntKind.signed, IntKind.bits]
theorem mul_u16 (a b : UInt16) : IntKind.u16.wrap ((a.toNat * b.toNat : Nat) : Int) = ((a * b).toNat : Int) := by
  rw [UInt16.toNat_mul]
  simp [IntKind.wrap, IntKind.signed, IntKind.bits]
theorem shl_u16 (a : UInt16) (n : Nat) (h : n < 16) : IntKind.u16.wrap ((a.toNat * 2 ^ n : Nat) : Int) = ((a <<< UInt16.ofNat n).toNat : Int) := by
  have h2 : (UInt16.ofNat n).toNat = n := UInt16.toNat_ofNat_of_lt' (by show _ < 65536; omega)
  rw [UInt16.toNat_shiftLeft, h2, Nat.mod_eq_of_lt h, Nat.shiftLeft_eq]
  simp only [IntKind.wrap, IntKind.signed, IntKind.bits]
  simp
theorem shr_u16 (a : UInt16) (n : Nat) (h : n < 16) : a.toNat / 2 ^ n = (a >>> UInt16.ofNat n).toNat := by
  have h2 : (UInt16.ofNat n).toNat = n := UInt16.toNat_ofNat_of_lt' (by show _ < 65536; omega)
  rw [UInt16.toNat_shiftRight, h2, Nat.mod_eq_of_lt h, Nat.shiftRight_eq_div_pow]
theorem inj_u16 (a b : UInt16) : (a.toNat = b.toNat) = (a = b) := propext UInt16.toNat_inj
theorem eql_u16 (a : UInt16) (n : Nat) (h : (OfNat.ofNat n : Nat) < 65536) : (a.toNat = (no_index (OfNat.ofNat n) : Nat)) = (a = UInt16.ofNat (OfNat.ofNat n)) := by
  refine propext ⟨fun e => ?_, fun e => ?_⟩
  · rw [← e, UInt16.ofNat_toNat]
  · rw [e, UInt16.toNat_ofNat_of_lt' h]
theorem of_u16 (x : Int) (h : (Lit.int .u16 x).wf = true) : ∃ a : UInt16, x = (a.toNat : Int) := by
  have h1 : 0 ≤ x ∧ x < 65536 := by
    simp [Lit.wf, IntKind.min, IntKind.max, IntKind.signed, IntKind.bits] at h
    omega
  refine ⟨UInt16.ofNat x.toNat, ?_⟩
  rw [UInt16.toNat_ofNat_of_lt' (by show _ < 65536; omega)]
  omega
theorem to_u8_u16 (a : UInt8) : IntKind.u16.wrap (a.toNat : Int) = (a.toUInt16.toNat : Int) := by
  have := lt_u8 a
  rw [UInt8.toNat_toUInt16]
  exact wn_u16 (by omega)
theorem to_u8_u32 (a : UInt8) : IntKind.u32.wrap (a.toNat : Int) = (a.toUInt32.toNat : Int) := by
  have := lt_u8 a
  rw [UInt8.toNat_toUInt32]
  exact wn_u32 (by omega)
theorem to_u8_u64 (a : UInt8) : IntKind.u64.wrap (a.toNat : Int) = (a.toUInt64.toNat : Int) := by
  have := lt_u8 a
  rw [UInt8.toNat_toUInt64]
  exact wn_u64 (by omega)
theorem to_u8_i64 (a : UInt8) : IntKind.i64.wrap (a.toNat : Int) = (a.toNat : Int) := by
  have := lt_u8 a
  exact w_i64 (by omega)
theorem to_u16_u8 (a : UInt16) : IntKind.u8.wrap (a.toNat : Int) = (a.toUInt8.toNat : Int) := by
  have := lt_u16 a
  rw [UInt16.toNat_toUInt8]
  simp [IntKind.wrap, IntKind.signed, IntKind.bits]
theorem to_u16_u32 (a : UInt16) : IntKind.u32.wrap (a.toNat : Int) = (a.toUInt32.toNat : Int) := by
  have := lt_u16 a
  rw [UInt16.toNat_toUInt32]
  exact wn_u32 (by omega)
theorem to_u16_u64 (a : UInt16) : IntKind.u64.wrap (a.toNat : Int) = (a.toUInt64.toNat : Int) := by
  have := lt_u16 a
  rw [UInt16.toNat_toUInt64]
  exact wn_u64 (by omega)
theorem to_u16_i64 (a : UInt16) : IntKind.i64.wrap (a.toNat : Int) = (a.toNat : Int) := by
  have := lt_u16 a
  exact w_i64 (by omega)
theorem to_u32_u8 (a : UInt32) : IntKind.u8.wrap (a.toNat : Int) = (a.toUInt8.toNat : Int) := by
  have := lt_u32 a
  rw [UInt32.toNat_toUInt8]
  simp [IntKind.wrap, IntKind.signed, IntKind.bits]
theorem to_u32_u16 (a : UInt32) : IntKind.u16.wrap (a.toNat : Int) = (a.toUInt16.toNat : Int) := by
  have := lt_u32 a
  rw [UInt32.toNat_toUInt16]
  simp [IntKind.wrap, IntKind.signed, IntKind.bits]
theorem to_u32_u64 (a : UInt32) : IntKind.u64.wrap (a.toNat : Int) = (a.toUInt64.toNat : Int) := by
  have := lt_u32 a
  rw [UInt32.toNat_toUInt64]
  exact wn_u64 (by omega)
theorem to_u32_i64 (a : UInt32) : IntKind.i64.wrap (a.toNat : Int) = (a.toNat : Int) := by
  have := lt_u32 a
  exact w_i64 (by omega)
theorem to_u64_u8 (a : UInt64) : IntKind.u8.wrap (a.toNat : Int) = (a.toUInt8.toNat : Int) := by
  have := lt_u64 a
  rw [UInt64.toNat_toUInt8]
  simp [IntKind.wrap, IntKind.signed, IntKind.bits]
theorem to_u64_u16 (a : UInt64) : IntKind.u16.wrap (a.toNat : Int) = (a.toUInt16.toNat : Int) := by
  have := lt_u64 a
  rw [UInt64.toNat_toUInt16]
  simp [IntKind.wrap, IntKind.signed, IntKind.bits]
theorem to_u64_u32 (a : UInt64) : IntKind.u32.wrap (a.toNat : Int) = (a.toUInt32.toNat : Int) := by
  have := lt_u64 a
  rw [UInt64.toNat_toUInt32]
  simp [IntKind.wrap, IntKind.signed, IntKind.bits]
attribute [go_sem]
  wt_u8 xor_u8   and_u8   or_u8   add_u8 mul_u8
  shl_u8 shr_u8 inj_u8  wt_u32 xor_u32   and_u32   or_u32
    add_u32 mul_u32 shl_u32 shr_u32 inj_u32  wt_u64 xor_u64  
  and_u64   or_u64   add_u64 mul_u64 shl_u64 shr_u64 inj_u64 
  wt_u16 xor_u16   and_u16   or_u16   add_u16 mul_u16
  shl_u16 shr_u16 inj_u16  to_u8_u16 to_u8_u32 to_u8_u64 to_u8_i64 to_u16_u8 to_u16_u32 to_u16_u64 to_u16_i64
  to_u32_u8 to_u32_u16 to_u32_u64 to_u32_i64 to_u64_u8 to_u64_u16 to_u64_u32
attribute [go_sem low]
  xor_u8_l xor_u8_r and_u8_l and_u8_r or_u8_l or_u8_r eql_u8 xor_u32_l xor_u32_r and_u32_l and_u32_r or_u32_l or_u32_r eql_u32 xor_u64_l xor_u64_r and_u64_l and_u64_r or_u64_l or_u64_r eql_u64 xor_u16_l xor_u16_r and_u16_l and_u16_r or_u16_l or_u16_r eql_u16
end Go.Vm
