/- Layer 3's helpers, and the law of readers and writers that are none. -/
import Derived.Test.YtnmcmcgbhlgniaaWireE
set_option linter.unusedSectionVars false
set_option linter.unusedSimpArgs false
set_option linter.unusedVariables false
set_option maxHeartbeats 1000000
set_option maxRecDepth 100000
namespace Go.Vm
structure Act where
  kind : Int
  n : Int
  x : UInt64
  s : List UInt8
def Act.v (a : Act) : List V := [.int .i64 a.kind, .int .i64 a.n, .int .u64 (a.x.toNat : Int), .str a.s]
def Act.ok (a : Act) : Prop := -9223372036854775808 ≤ a.n ∧ a.n < 9223372036854775808
theorem crc_check : crc [49, 50, 51, 52, 53, 54, 55, 56, 57] = 0xe3069283 := by decide +kernel
end Go.Vm
namespace Go.Vm.Ytnmcmcgbhlgniaa
open Go.Proofs
theorem take_le (s : List UInt8) : (s.take 3000).length ≤ 3000 := by simp; omega
theorem WBytes_nil (s : List UInt8) : Gf fns 51 [.nilp, .str s] = some (.tup [], [.nilp]) := by
  refine Gf_start rfl rfl ?_
  simp -implicitDefEqProofs (disch := omega) only [go_sem, Nat.reduceAdd, Nat.reduceMul, Nat.reduceSub, Nat.reduceEqDiff, Nat.reduceLT, Nat.reduceLeDiff, reduceIte, reduceCtorEq, Int.reduceLE, Int.reduceLT, Int.reduceGE, Int.reduceGT, Int.reduceAdd, Int.reduceSub, Int.reduceMul, Int.reduceToNat, Int.reduceBEq, Int.reduceBNe, Nat.reduceBEq, Nat.reduceDiv, Nat.reduceMod, Int.reduceNeg, Int.reduceEq, go_sem]
theorem WNumber_nil (n : UInt64) (b : Int) (hb : -9223372036854775808 ≤ b ∧ b < 9223372036854775808) : Gf fns 50 [.nilp, .int .u64 (n.toNat : Int), .int .i64 b] = some (.tup [], [.nilp]) := by
  refine Gf_start rfl rfl ?_
  simp -implicitDefEqProofs (disch := omega) only [go_sem, Nat.reduceAdd, Nat.reduceMul, Nat.reduceSub, Nat.reduceEqDiff, Nat.reduceLT, Nat.reduceLeDiff, reduceIte, reduceCtorEq, Int.reduceLE, Int.reduceLT, Int.reduceGE, Int.reduceGT, Int.reduceAdd, Int.reduceSub, Int.reduceMul, Int.reduceToNat, Int.reduceBEq, Int.reduceBNe, Nat.reduceBEq, Nat.reduceDiv, Nat.reduceMod, Int.reduceNeg, Int.reduceEq, Number_ok n b hb, callr51, WBytes_nil]
theorem WCount_nil (n : Int) (hn : n < 9223372036854775808) : Gf fns 33 [.nilp, .int .i64 n] = some (.tup [], [.nilp]) := by
  have hm : max n 0 = ((UInt64.ofNat n.toNat).toNat : Int) := by
    rw [UInt64.toNat_ofNat_of_lt' (by show n.toNat < 18446744073709551616; omega)]
    omega
  have h := WNumber_nil (UInt64.ofNat n.toNat) 4 (by omega)
  refine Gf_start rfl rfl ?_
  simp -implicitDefEqProofs (disch := omega) only [go_sem, Nat.reduceAdd, Nat.reduceMul, Nat.reduceSub, Nat.reduceEqDiff, Nat.reduceLT, Nat.reduceLeDiff, reduceIte, reduceCtorEq, Int.reduceLE, Int.reduceLT, Int.reduceGE, Int.reduceGT, Int.reduceAdd, Int.reduceSub, Int.reduceMul, Int.reduceToNat, Int.reduceBEq, Int.reduceBNe, Nat.reduceBEq, Nat.reduceDiv, Nat.reduceMod, Int.reduceNeg, Int.reduceEq, hm, callr50, h]
theorem WText_nil (s : List UInt8) (hs : s.length ≤ 100000000000) : Gf fns 35 [.nilp, .str s] = some (.tup [], [.nilp]) := by
  have h := WCount_nil (s.length : Int) (by omega)
  refine Gf_start rfl rfl ?_
  simp -implicitDefEqProofs (disch := omega) only [go_sem, Nat.reduceAdd, Nat.reduceMul, Nat.reduceSub, Nat.reduceEqDiff, Nat.reduceLT, Nat.reduceLeDiff, reduceIte, reduceCtorEq, Int.reduceLE, Int.reduceLT, Int.reduceGE, Int.reduceGT, Int.reduceAdd, Int.reduceSub, Int.reduceMul, Int.reduceToNat, Int.reduceBEq, Int.reduceBNe, Nat.reduceBEq, Nat.reduceDiv, Nat.reduceMod, Int.reduceNeg, Int.reduceEq, callr33, h, callr51, WBytes_nil]
theorem WBool_nil (b : Bool) : Gf fns 34 [.nilp, .bool b] = some (.tup [], [.nilp]) := by
  have h0 := WNumber_nil 0 1 (by omega)
  have h1 := WNumber_nil 1 1 (by omega)
  have z0 : ((0 : UInt64).toNat : Int) = 0 := rfl
  have z1 : ((1 : UInt64).toNat : Int) = 1 := rfl
  rw [z0] at h0
  rw [z1] at h1
  refine Gf_start rfl rfl ?_
  cases b with
  | true => simp -implicitDefEqProofs (disch := omega) only [go_sem, Nat.reduceAdd, Nat.reduceMul, Nat.reduceSub, Nat.reduceEqDiff, Nat.reduceLT, Nat.reduceLeDiff, reduceIte, reduceCtorEq, Int.reduceLE, Int.reduceLT, Int.reduceGE, Int.reduceGT, Int.reduceAdd, Int.reduceSub, Int.reduceMul, Int.reduceToNat, Int.reduceBEq, Int.reduceBNe, Nat.reduceBEq, Nat.reduceDiv, Nat.reduceMod, Int.reduceNeg, Int.reduceEq, callr50, h1]
  | false => simp -implicitDefEqProofs (disch := omega) only [go_sem, Nat.reduceAdd, Nat.reduceMul, Nat.reduceSub, Nat.reduceEqDiff, Nat.reduceLT, Nat.reduceLeDiff, reduceIte, reduceCtorEq, Int.reduceLE, Int.reduceLT, Int.reduceGE, Int.reduceGT, Int.reduceAdd, Int.reduceSub, Int.reduceMul, Int.reduceToNat, Int.reduceBEq, Int.reduceBNe, Nat.reduceBEq, Nat.reduceDiv, Nat.reduceMod, Int.reduceNeg, Int.reduceEq, callr50, h0]
theorem RefText_ok (s : List UInt8) (hs : s.length ≤ 100000000000) : Gf fns 26 [.str s] = some (.str (numB (UInt64.ofNat s.length) 4 ++ s), []) := by
  have hm : (s.length : Int) = ((UInt64.ofNat s.length).toNat : Int) := by
    rw [UInt64.toNat_ofNat_of_lt' (by show s.length < 18446744073709551616; omega)]
  have h := RefNumberAny_ok (UInt64.ofNat s.length) 4
  have e4 : bytes8 4 = 4 := rfl
  rw [e4, ← hm] at h
  have hl := numB_len 4 (UInt64.ofNat s.length)
  refine Gf_start rfl rfl ?_
  simp -implicitDefEqProofs (disch := omega) only [go_sem, Nat.reduceAdd, Nat.reduceMul, Nat.reduceSub, Nat.reduceEqDiff, Nat.reduceLT, Nat.reduceLeDiff, reduceIte, reduceCtorEq, Int.reduceLE, Int.reduceLT, Int.reduceGE, Int.reduceGT, Int.reduceAdd, Int.reduceSub, Int.reduceMul, Int.reduceToNat, Int.reduceBEq, Int.reduceBNe, Nat.reduceBEq, Nat.reduceDiv, Nat.reduceMod, Int.reduceNeg, Int.reduceEq, h]
def rhS (s0 : List UInt8) (x : List UInt8) (st : St) : Prop := x.length ≤ max 32 s0.length ∧ hash32 x = hash32 s0 ∧ st.t 0 = .str x
theorem hash32_snoc (s : List UInt8) (h : s.length < 32) : hash32 (s ++ [0]) = hash32 s := by
  unfold hash32
  rw [List.take_of_length_le (show s.length ≤ 32 by omega), List.take_of_length_le (show (s ++ [0]).length ≤ 32 by simp; omega), List.length_append, List.append_assoc]
  rw [show 32 - s.length = (32 - (s.length + [(0 : UInt8)].length)) + 1 by simp; omega, List.replicate_succ]
  rfl
theorem hash32_long (s : List UInt8) (h : 32 ≤ s.length) : hash32 s = s.take 32 := by
  unfold hash32
  rw [show 32 - s.length = 0 by omega]
  simp
def putB (a : Act) : List UInt8 :=
  if a.kind = 0 then a.s.take 3000 else if a.kind = 1 then numB a.x 8 else if a.kind = 2 then numB (UInt64.ofNat (a.n.tmod 65536).toNat) 4
  else if a.kind = 3 then numB (UInt64.ofNat (a.s.take 3000).length) 4 ++ a.s.take 3000 else if a.kind = 4 then hash32 (a.s.take 3000) else numB (a.x % 2) 1
theorem rem2 (x : UInt64) : ((x.toNat % 2 : Nat) : Int) = ((x % 2).toNat : Int) := by rw [UInt64.toNat_mod]; rfl
theorem tmod_lt (n : Int) : -65536 < n.tmod 65536 ∧ n.tmod 65536 < 65536 := by
  constructor
  · have := Int.lt_tmod_of_pos n (show (0 : Int) < 65536 by omega); omega
  · exact Int.tmod_lt_of_pos n (by omega)
theorem WAll_nil : Gf fns 13 [.nilp] = some (.str [], []) := by
  refine Gf_start rfl rfl ?_
  simp -implicitDefEqProofs (disch := omega) only [go_sem, Nat.reduceAdd, Nat.reduceMul, Nat.reduceSub, Nat.reduceEqDiff, Nat.reduceLT, Nat.reduceLeDiff, reduceIte, reduceCtorEq, Int.reduceLE, Int.reduceLT, Int.reduceGE, Int.reduceGT, Int.reduceAdd, Int.reduceSub, Int.reduceMul, Int.reduceToNat, Int.reduceBEq, Int.reduceBNe, Nat.reduceBEq, Nat.reduceDiv, Nat.reduceMod, Int.reduceNeg, Int.reduceEq, go_sem]
theorem uInt : Try.prog.underlying 3 = some (.int .i64) := by kernel_rfl
theorem uU64 : Try.prog.underlying 54 = some (.int .u64) := by kernel_rfl
theorem uU32 : Try.prog.underlying 110 = some (.int .u32) := by kernel_rfl
theorem uStr : Try.prog.underlying 9 = some .string := by kernel_rfl
theorem fitL_act {d : Nat} {vs : List V} (h : FitsL Try.prog (d + 1) [3, 3, 54, 9] vs) : ∃ a : Act, vs = a.v ∧ a.ok := by
  obtain ⟨a1, b1, rfl, h1, a2, b2, rfl, h2, a3, b3, rfl, h3, a4, b4, rfl, h4, rfl⟩ := h
  obtain ⟨k, rfl, _⟩ := fits_int uInt h1
  obtain ⟨n, rfl, hn⟩ := fits_int uInt h2
  obtain ⟨x, rfl, hx⟩ := fits_int uU64 h3
  obtain ⟨y, rfl⟩ := of_u64 x hx
  obtain ⟨s, rfl, _⟩ := fits_str uStr h4
  exact ⟨⟨k, n, y, s⟩, rfl, i64_wf hn⟩
end Go.Vm.Ytnmcmcgbhlgniaa
