/- Layer 3's helpers, and the law of readers and writers that are none. -/
import Derived.Test.YteeplbabnleanaaWireE
set_option linter.unusedSectionVars false
set_option linter.unusedSimpArgs false
set_option linter.unusedVariables false
set_option maxHeartbeats 1000000
set_option maxRecDepth 100000
namespace Go.Vm
structure Act where
  kind : Int
  n : Int
  x : UInt64
  s : List UInt8
def Act.v (a : Act) : List V := [.int .i64 a.kind, .int .i64 a.n, .int .u64 (a.x.toNat : Int), .str a.s]
def Act.ok (a : Act) : Prop := -9223372036854775808 ≤ a.n ∧ a.n < 9223372036854775808
theorem crc_check : crc [49, 50, 51, 52, 53, 54, 55, 56, 57] = 0xe3069283 := by decide +kernel
end Go.Vm
namespace Go.Vm.Yteeplbabnleanaa
open Go.Proofs
theorem few_ok (s : List UInt8) : Gf fns 17 [.str s] = some (.str (s.take 3000), []) := by
  refine Gf_start rfl rfl ?_
  simp -implicitDefEqProofs (disch := omega) only [go_sem, Nat.reduceAdd, Nat.reduceMul, Nat.reduceSub, Nat.reduceEqDiff, Nat.reduceLT, Nat.reduceLeDiff, reduceIte, reduceCtorEq, Int.reduceLE, Int.reduceLT, Int.reduceGE, Int.reduceGT, Int.reduceAdd, Int.reduceSub, Int.reduceMul, Int.reduceToNat, Int.reduceBEq, Int.reduceBNe, Nat.reduceBEq, Nat.reduceDiv, Nat.reduceMod, Nat.reduceBEq, Int.reduceNeg, Int.reduceToNat, Int.reduceEq, Nat.reduceLeDiff, go_sem]
  refine condC_dec (fun h => ?_) (fun h => ?_)
  · simp -implicitDefEqProofs (disch := omega) only [go_sem, Nat.reduceAdd, Nat.reduceMul, Nat.reduceSub, Nat.reduceEqDiff, Nat.reduceLT, Nat.reduceLeDiff, reduceIte, reduceCtorEq, Int.reduceLE, Int.reduceLT, Int.reduceGE, Int.reduceGT, Int.reduceAdd, Int.reduceSub, Int.reduceMul, Int.reduceToNat, Int.reduceBEq, Int.reduceBNe, Nat.reduceBEq, Nat.reduceDiv, Nat.reduceMod, Nat.reduceBEq, Int.reduceNeg, Int.reduceToNat, Int.reduceEq, Nat.reduceLeDiff, h]
  · simp -implicitDefEqProofs (disch := omega) only [go_sem, Nat.reduceAdd, Nat.reduceMul, Nat.reduceSub, Nat.reduceEqDiff, Nat.reduceLT, Nat.reduceLeDiff, reduceIte, reduceCtorEq, Int.reduceLE, Int.reduceLT, Int.reduceGE, Int.reduceGT, Int.reduceAdd, Int.reduceSub, Int.reduceMul, Int.reduceToNat, Int.reduceBEq, Int.reduceBNe, Nat.reduceBEq, Nat.reduceDiv, Nat.reduceMod, Nat.reduceBEq, Int.reduceNeg, Int.reduceToNat, Int.reduceEq, Nat.reduceLeDiff, h, take_all]
theorem take_le (s : List UInt8) : (s.take 3000).length ≤ 3000 := by simp; omega
theorem awake_ok : Gf fns 13 [] = some (.bool true, []) := by
  have h := Crc_ok [49, 50, 51, 52, 53, 54, 55, 56, 57] (by decide)
  rw [crc_check] at h
  have hn := Number_ok 258 2 (by omega)
  have e : numB 258 (bytes8 2) = [1, 2] := by decide +kernel
  rw [e] at hn
  have z1 : ((258 : UInt64).toNat : Int) = 258 := rfl
  have z2 : (((0xe3069283 : UInt32)).toNat : Int) = 0xe3069283 := rfl
  rw [z1] at hn
  rw [z2] at h
  refine Gf_start rfl rfl ?_
  simp -implicitDefEqProofs (disch := omega) only [go_sem, Nat.reduceAdd, Nat.reduceMul, Nat.reduceSub, Nat.reduceEqDiff, Nat.reduceLT, Nat.reduceLeDiff, reduceIte, reduceCtorEq, Int.reduceLE, Int.reduceLT, Int.reduceGE, Int.reduceGT, Int.reduceAdd, Int.reduceSub, Int.reduceMul, Int.reduceToNat, Int.reduceBEq, Int.reduceBNe, Nat.reduceBEq, Nat.reduceDiv, Nat.reduceMod, Nat.reduceBEq, Int.reduceNeg, Int.reduceToNat, Int.reduceEq, Nat.reduceLeDiff, h, hn]
theorem WBytes_nil (s : List UInt8) : Gf fns 63 [.nilp, .str s] = some (.tup [], [.nilp]) := by
  refine Gf_start rfl rfl ?_
  simp -implicitDefEqProofs (disch := omega) only [go_sem, Nat.reduceAdd, Nat.reduceMul, Nat.reduceSub, Nat.reduceEqDiff, Nat.reduceLT, Nat.reduceLeDiff, reduceIte, reduceCtorEq, Int.reduceLE, Int.reduceLT, Int.reduceGE, Int.reduceGT, Int.reduceAdd, Int.reduceSub, Int.reduceMul, Int.reduceToNat, Int.reduceBEq, Int.reduceBNe, Nat.reduceBEq, Nat.reduceDiv, Nat.reduceMod, Nat.reduceBEq, Int.reduceNeg, Int.reduceToNat, Int.reduceEq, Nat.reduceLeDiff, go_sem]
theorem WNumber_nil (n : UInt64) (b : Int) (hb : -9223372036854775808 ≤ b ∧ b < 9223372036854775808) : Gf fns 62 [.nilp, .int .u64 (n.toNat : Int), .int .i64 b] = some (.tup [], [.nilp]) := by
  refine Gf_start rfl rfl ?_
  simp -implicitDefEqProofs (disch := omega) only [go_sem, Nat.reduceAdd, Nat.reduceMul, Nat.reduceSub, Nat.reduceEqDiff, Nat.reduceLT, Nat.reduceLeDiff, reduceIte, reduceCtorEq, Int.reduceLE, Int.reduceLT, Int.reduceGE, Int.reduceGT, Int.reduceAdd, Int.reduceSub, Int.reduceMul, Int.reduceToNat, Int.reduceBEq, Int.reduceBNe, Nat.reduceBEq, Nat.reduceDiv, Nat.reduceMod, Nat.reduceBEq, Int.reduceNeg, Int.reduceToNat, Int.reduceEq, Nat.reduceLeDiff, Number_ok n b hb, callr63, WBytes_nil]
theorem WCount_nil (n : Int) (hn : n < 9223372036854775808) : Gf fns 61 [.nilp, .int .i64 n] = some (.tup [], [.nilp]) := by
  have hm : max n 0 = ((UInt64.ofNat n.toNat).toNat : Int) := by
    rw [UInt64.toNat_ofNat_of_lt' (by show n.toNat < 18446744073709551616; omega)]
    omega
  have h := WNumber_nil (UInt64.ofNat n.toNat) 4 (by omega)
  refine Gf_start rfl rfl ?_
  simp -implicitDefEqProofs (disch := omega) only [go_sem, Nat.reduceAdd, Nat.reduceMul, Nat.reduceSub, Nat.reduceEqDiff, Nat.reduceLT, Nat.reduceLeDiff, reduceIte, reduceCtorEq, Int.reduceLE, Int.reduceLT, Int.reduceGE, Int.reduceGT, Int.reduceAdd, Int.reduceSub, Int.reduceMul, Int.reduceToNat, Int.reduceBEq, Int.reduceBNe, Nat.reduceBEq, Nat.reduceDiv, Nat.reduceMod, Nat.reduceBEq, Int.reduceNeg, Int.reduceToNat, Int.reduceEq, Nat.reduceLeDiff, hm, callr62, h]
theorem WText_nil (s : List UInt8) (hs : s.length ≤ 100000000000) : Gf fns 64 [.nilp, .str s] = some (.tup [], [.nilp]) := by
  have h := WCount_nil (s.length : Int) (by omega)
  refine Gf_start rfl rfl ?_
  simp -implicitDefEqProofs (disch := omega) only [go_sem, Nat.reduceAdd, Nat.reduceMul, Nat.reduceSub, Nat.reduceEqDiff, Nat.reduceLT, Nat.reduceLeDiff, reduceIte, reduceCtorEq, Int.reduceLE, Int.reduceLT, Int.reduceGE, Int.reduceGT, Int.reduceAdd, Int.reduceSub, Int.reduceMul, Int.reduceToNat, Int.reduceBEq, Int.reduceBNe, Nat.reduceBEq, Nat.reduceDiv, Nat.reduceMod, Nat.reduceBEq, Int.reduceNeg, Int.reduceToNat, Int.reduceEq, Nat.reduceLeDiff, callr61, h, callr63, WBytes_nil]
theorem WBool_nil (b : Bool) : Gf fns 67 [.nilp, .bool b] = some (.tup [], [.nilp]) := by
  have h0 := WNumber_nil 0 1 (by omega)
  have h1 := WNumber_nil 1 1 (by omega)
  have z0 : ((0 : UInt64).toNat : Int) = 0 := rfl
  have z1 : ((1 : UInt64).toNat : Int) = 1 := rfl
  rw [z0] at h0
  rw [z1] at h1
  refine Gf_start rfl rfl ?_
  cases b with
  | true => simp -implicitDefEqProofs (disch := omega) only [go_sem, Nat.reduceAdd, Nat.reduceMul, Nat.reduceSub, Nat.reduceEqDiff, Nat.reduceLT, Nat.reduceLeDiff, reduceIte, reduceCtorEq, Int.reduceLE, Int.reduceLT, Int.reduceGE, Int.reduceGT, Int.reduceAdd, Int.reduceSub, Int.reduceMul, Int.reduceToNat, Int.reduceBEq, Int.reduceBNe, Nat.reduceBEq, Nat.reduceDiv, Nat.reduceMod, Nat.reduceBEq, Int.reduceNeg, Int.reduceToNat, Int.reduceEq, Nat.reduceLeDiff, callr62, h1]
  | false => simp -implicitDefEqProofs (disch := omega) only [go_sem, Nat.reduceAdd, Nat.reduceMul, Nat.reduceSub, Nat.reduceEqDiff, Nat.reduceLT, Nat.reduceLeDiff, reduceIte, reduceCtorEq, Int.reduceLE, Int.reduceLT, Int.reduceGE, Int.reduceGT, Int.reduceAdd, Int.reduceSub, Int.reduceMul, Int.reduceToNat, Int.reduceBEq, Int.reduceBNe, Nat.reduceBEq, Nat.reduceDiv, Nat.reduceMod, Nat.reduceBEq, Int.reduceNeg, Int.reduceToNat, Int.reduceEq, Nat.reduceLeDiff, callr62, h0]
theorem WHash_nil (s : List UInt8) : Gf fns 66 [.nilp, .str s] = some (.tup [], [.nilp]) := by
  refine Gf_start rfl rfl ?_
  by_cases h32 : 32 ≤ s.length
  · have hl2 : (s.take 32).length = 32 := by simp; omega
    simp -implicitDefEqProofs (disch := omega) only [go_sem, Nat.reduceAdd, Nat.reduceMul, Nat.reduceSub, Nat.reduceEqDiff, Nat.reduceLT, Nat.reduceLeDiff, reduceIte, reduceCtorEq, Int.reduceLE, Int.reduceLT, Int.reduceGE, Int.reduceGT, Int.reduceAdd, Int.reduceSub, Int.reduceMul, Int.reduceToNat, Int.reduceBEq, Int.reduceBNe, Nat.reduceBEq, Nat.reduceDiv, Nat.reduceMod, Nat.reduceBEq, Int.reduceNeg, Int.reduceToNat, Int.reduceEq, Nat.reduceLeDiff, rep32, i_copy, hl2, callr63, WBytes_nil]
  · have hl2 : (s ++ List.drop s.length (List.replicate 32 (0 : UInt8))).length = 32 := by simp; omega
    simp -implicitDefEqProofs (disch := omega) only [go_sem, Nat.reduceAdd, Nat.reduceMul, Nat.reduceSub, Nat.reduceEqDiff, Nat.reduceLT, Nat.reduceLeDiff, reduceIte, reduceCtorEq, Int.reduceLE, Int.reduceLT, Int.reduceGE, Int.reduceGT, Int.reduceAdd, Int.reduceSub, Int.reduceMul, Int.reduceToNat, Int.reduceBEq, Int.reduceBNe, Nat.reduceBEq, Nat.reduceDiv, Nat.reduceMod, Nat.reduceBEq, Int.reduceNeg, Int.reduceToNat, Int.reduceEq, Nat.reduceLeDiff, rep32, i_copy, hl2, callr63, WBytes_nil]
theorem RefText_ok (s : List UInt8) (hs : s.length ≤ 100000000000) : Gf fns 65 [.str s] = some (.str (numB (UInt64.ofNat s.length) 4 ++ s), []) := by
  have hm : (s.length : Int) = ((UInt64.ofNat s.length).toNat : Int) := by
    rw [UInt64.toNat_ofNat_of_lt' (by show s.length < 18446744073709551616; omega)]
  have h := RefNumberAny_ok (UInt64.ofNat s.length) 4
  have e4 : bytes8 4 = 4 := rfl
  rw [e4, ← hm] at h
  have hl := numB_len 4 (UInt64.ofNat s.length)
  refine Gf_start rfl rfl ?_
  simp -implicitDefEqProofs (disch := omega) only [go_sem, Nat.reduceAdd, Nat.reduceMul, Nat.reduceSub, Nat.reduceEqDiff, Nat.reduceLT, Nat.reduceLeDiff, reduceIte, reduceCtorEq, Int.reduceLE, Int.reduceLT, Int.reduceGE, Int.reduceGT, Int.reduceAdd, Int.reduceSub, Int.reduceMul, Int.reduceToNat, Int.reduceBEq, Int.reduceBNe, Nat.reduceBEq, Nat.reduceDiv, Nat.reduceMod, Nat.reduceBEq, Int.reduceNeg, Int.reduceToNat, Int.reduceEq, Nat.reduceLeDiff, h]
def rhS (s0 : List UInt8) (x : List UInt8) (st : St) : Prop := x.length ≤ max 32 s0.length ∧ hash32 x = hash32 s0 ∧ st.t 0 = .str x
theorem hash32_snoc (s : List UInt8) (h : s.length < 32) : hash32 (s ++ [0]) = hash32 s := by
  unfold hash32
  rw [List.take_of_length_le (show s.length ≤ 32 by omega), List.take_of_length_le (show (s ++ [0]).length ≤ 32 by simp; omega), List.length_append, List.append_assoc]
  rw [show 32 - s.length = (32 - (s.length + [(0 : UInt8)].length)) + 1 by simp; omega, List.replicate_succ]
  rfl
theorem hash32_long (s : List UInt8) (h : 32 ≤ s.length) : hash32 s = s.take 32 := by
  unfold hash32
  rw [show 32 - s.length = 0 by omega]
  simp
theorem RefHash_ok (s : List UInt8) (hs : s.length ≤ 100000000000) : Gf fns 51 [.str s] = some (.str (hash32 s), []) := by
  refine Gf_start rfl rfl ?_
  simp -implicitDefEqProofs (disch := omega) only [go_sem, Nat.reduceAdd, Nat.reduceMul, Nat.reduceSub, Nat.reduceEqDiff, Nat.reduceLT, Nat.reduceLeDiff, reduceIte, reduceCtorEq, Int.reduceLE, Int.reduceLT, Int.reduceGE, Int.reduceGT, Int.reduceAdd, Int.reduceSub, Int.reduceMul, Int.reduceToNat, Int.reduceBEq, Int.reduceBNe, Nat.reduceBEq, Nat.reduceDiv, Nat.reduceMod, Nat.reduceBEq, Int.reduceNeg, Int.reduceToNat, Int.reduceEq, Nat.reduceLeDiff, go_sem]
  refine wp_loopS (rhS s) (fun x => 32 - x.length) s ⟨by omega, rfl, by simp -implicitDefEqProofs (disch := omega) only [go_sem, Nat.reduceAdd, Nat.reduceMul, Nat.reduceSub, Nat.reduceEqDiff, Nat.reduceLT, Nat.reduceLeDiff, reduceIte, reduceCtorEq, Int.reduceLE, Int.reduceLT, Int.reduceGE, Int.reduceGT, Int.reduceAdd, Int.reduceSub, Int.reduceMul, Int.reduceToNat, Int.reduceBEq, Int.reduceBNe, Nat.reduceBEq, Nat.reduceDiv, Nat.reduceMod, Nat.reduceBEq, Int.reduceNeg, Int.reduceToNat, Int.reduceEq, Nat.reduceLeDiff, go_sem]⟩ ?_
  rintro x ⟨t, σ⟩ ⟨hl, hx, h0⟩
  simp only at h0
  simp -implicitDefEqProofs (disch := omega) only [go_sem, Nat.reduceAdd, Nat.reduceMul, Nat.reduceSub, Nat.reduceEqDiff, Nat.reduceLT, Nat.reduceLeDiff, reduceIte, reduceCtorEq, Int.reduceLE, Int.reduceLT, Int.reduceGE, Int.reduceGT, Int.reduceAdd, Int.reduceSub, Int.reduceMul, Int.reduceToNat, Int.reduceBEq, Int.reduceBNe, Nat.reduceBEq, Nat.reduceDiv, Nat.reduceMod, Nat.reduceBEq, Int.reduceNeg, Int.reduceToNat, Int.reduceEq, Nat.reduceLeDiff, lp51_0, h0]
  refine condC_dec (fun hc => ?_) (fun hc => ?_)
  · simp -implicitDefEqProofs (disch := omega) only [go_sem, Nat.reduceAdd, Nat.reduceMul, Nat.reduceSub, Nat.reduceEqDiff, Nat.reduceLT, Nat.reduceLeDiff, reduceIte, reduceCtorEq, Int.reduceLE, Int.reduceLT, Int.reduceGE, Int.reduceGT, Int.reduceAdd, Int.reduceSub, Int.reduceMul, Int.reduceToNat, Int.reduceBEq, Int.reduceBNe, Nat.reduceBEq, Nat.reduceDiv, Nat.reduceMod, Nat.reduceBEq, Int.reduceNeg, Int.reduceToNat, Int.reduceEq, Nat.reduceLeDiff, h0]
    refine ⟨x ++ [0], by simp; omega, by simp; omega, by rw [hash32_snoc x hc, hx], by simp -implicitDefEqProofs (disch := omega) only [go_sem, Nat.reduceAdd, Nat.reduceMul, Nat.reduceSub, Nat.reduceEqDiff, Nat.reduceLT, Nat.reduceLeDiff, reduceIte, reduceCtorEq, Int.reduceLE, Int.reduceLT, Int.reduceGE, Int.reduceGT, Int.reduceAdd, Int.reduceSub, Int.reduceMul, Int.reduceToNat, Int.reduceBEq, Int.reduceBNe, Nat.reduceBEq, Nat.reduceDiv, Nat.reduceMod, Nat.reduceBEq, Int.reduceNeg, Int.reduceToNat, Int.reduceEq, Nat.reduceLeDiff, go_sem]⟩
  · rw [hash32_long x (by omega)] at hx
    simp -implicitDefEqProofs (disch := omega) only [go_sem, Nat.reduceAdd, Nat.reduceMul, Nat.reduceSub, Nat.reduceEqDiff, Nat.reduceLT, Nat.reduceLeDiff, reduceIte, reduceCtorEq, Int.reduceLE, Int.reduceLT, Int.reduceGE, Int.reduceGT, Int.reduceAdd, Int.reduceSub, Int.reduceMul, Int.reduceToNat, Int.reduceBEq, Int.reduceBNe, Nat.reduceBEq, Nat.reduceDiv, Nat.reduceMod, Nat.reduceBEq, Int.reduceNeg, Int.reduceToNat, Int.reduceEq, Nat.reduceLeDiff, h0, hx]
def putB (a : Act) : List UInt8 :=
  if a.kind = 0 then a.s.take 3000 else if a.kind = 1 then numB a.x 8 else if a.kind = 2 then numB (UInt64.ofNat (a.n.tmod 65536).toNat) 4
  else if a.kind = 3 then numB (UInt64.ofNat (a.s.take 3000).length) 4 ++ a.s.take 3000 else if a.kind = 4 then hash32 (a.s.take 3000) else numB (a.x % 2) 1
theorem rem2 (x : UInt64) : ((x.toNat % 2 : Nat) : Int) = ((x % 2).toNat : Int) := by rw [UInt64.toNat_mod]; rfl
theorem tmod_lt (n : Int) : -65536 < n.tmod 65536 ∧ n.tmod 65536 < 65536 := by
  constructor
  · have := Int.lt_tmod_of_pos n (show (0 : Int) < 65536 by omega); omega
  · exact Int.tmod_lt_of_pos n (by omega)
theorem put_nil (a : Act) (ha : a.ok) : Gf fns 35 [.nilp, .agg a.v] = some (.str (putB a), [.nilp]) := by
  obtain ⟨k, n, x, s⟩ := a
  have ht := take_le s
  have ht2 := tmod_lt n
  have e8 : bytes8 8 = 8 := rfl
  have e4 : bytes8 4 = 4 := rfl
  have e1 : bytes8 1 = 1 := rfl
  have r8 := RefNumberAny_ok x 8
  have r1 := RefNumberAny_ok (x % 2) 1
  have w8 := WNumber_nil x 8 (by omega)
  have h65 : ¬ (65536 : Int) = 0 := by omega
  have h2 : ¬ (2 : Int) = 0 := by omega
  have hx1 : ((x % 2).toNat = 1) ∨ ((x % 2).toNat = 0) := by rw [UInt64.toNat_mod]; show x.toNat % 2 = 1 ∨ x.toNat % 2 = 0; omega
  rw [e8] at r8
  rw [e1] at r1
  refine Gf_start rfl rfl ?_
  unfold putB
  by_cases k0 : k = 0
  · simp -implicitDefEqProofs (disch := omega) only [go_sem, Nat.reduceAdd, Nat.reduceMul, Nat.reduceSub, Nat.reduceEqDiff, Nat.reduceLT, Nat.reduceLeDiff, reduceIte, reduceCtorEq, Int.reduceLE, Int.reduceLT, Int.reduceGE, Int.reduceGT, Int.reduceAdd, Int.reduceSub, Int.reduceMul, Int.reduceToNat, Int.reduceBEq, Int.reduceBNe, Nat.reduceBEq, Nat.reduceDiv, Nat.reduceMod, Nat.reduceBEq, Int.reduceNeg, Int.reduceToNat, Int.reduceEq, Nat.reduceLeDiff, Act.v, few_ok, k0, callr63, WBytes_nil]
  by_cases k1 : k = 1
  · simp -implicitDefEqProofs (disch := omega) only [go_sem, Nat.reduceAdd, Nat.reduceMul, Nat.reduceSub, Nat.reduceEqDiff, Nat.reduceLT, Nat.reduceLeDiff, reduceIte, reduceCtorEq, Int.reduceLE, Int.reduceLT, Int.reduceGE, Int.reduceGT, Int.reduceAdd, Int.reduceSub, Int.reduceMul, Int.reduceToNat, Int.reduceBEq, Int.reduceBNe, Nat.reduceBEq, Nat.reduceDiv, Nat.reduceMod, Nat.reduceBEq, Int.reduceNeg, Int.reduceToNat, Int.reduceEq, Nat.reduceLeDiff, Act.v, few_ok, k1, callr62, w8, r8]
  by_cases k2 : k = 2
  · by_cases hm : n.tmod 65536 < 0
    · have r4 := RefNumberAny_ok 0 4
      have z0 : ((0 : UInt64).toNat : Int) = 0 := rfl
      have ez : UInt64.ofNat (n.tmod 65536).toNat = 0 := by rw [show (n.tmod 65536).toNat = 0 by omega]; rfl
      rw [e4, z0] at r4
      simp -implicitDefEqProofs (disch := omega) only [go_sem, Nat.reduceAdd, Nat.reduceMul, Nat.reduceSub, Nat.reduceEqDiff, Nat.reduceLT, Nat.reduceLeDiff, reduceIte, reduceCtorEq, Int.reduceLE, Int.reduceLT, Int.reduceGE, Int.reduceGT, Int.reduceAdd, Int.reduceSub, Int.reduceMul, Int.reduceToNat, Int.reduceBEq, Int.reduceBNe, Nat.reduceBEq, Nat.reduceDiv, Nat.reduceMod, Nat.reduceBEq, Int.reduceNeg, Int.reduceToNat, Int.reduceEq, Nat.reduceLeDiff, Act.v, few_ok, k2, h65, callr61, WCount_nil, hm, r4, ez]
    · have r4 := RefNumberAny_ok (UInt64.ofNat (n.tmod 65536).toNat) 4
      have z0 : ((UInt64.ofNat (n.tmod 65536).toNat).toNat : Int) = n.tmod 65536 := by
        rw [UInt64.toNat_ofNat_of_lt' (by show (n.tmod 65536).toNat < 18446744073709551616; omega)]
        omega
      rw [e4, z0] at r4
      simp -implicitDefEqProofs (disch := omega) only [go_sem, Nat.reduceAdd, Nat.reduceMul, Nat.reduceSub, Nat.reduceEqDiff, Nat.reduceLT, Nat.reduceLeDiff, reduceIte, reduceCtorEq, Int.reduceLE, Int.reduceLT, Int.reduceGE, Int.reduceGT, Int.reduceAdd, Int.reduceSub, Int.reduceMul, Int.reduceToNat, Int.reduceBEq, Int.reduceBNe, Nat.reduceBEq, Nat.reduceDiv, Nat.reduceMod, Nat.reduceBEq, Int.reduceNeg, Int.reduceToNat, Int.reduceEq, Nat.reduceLeDiff, Act.v, few_ok, k2, h65, callr61, WCount_nil, hm, r4]
  by_cases k3 : k = 3
  · have rt := RefText_ok (s.take 3000) (by omega)
    have wt := WText_nil (s.take 3000) (by omega)
    simp -implicitDefEqProofs (disch := omega) only [go_sem, Nat.reduceAdd, Nat.reduceMul, Nat.reduceSub, Nat.reduceEqDiff, Nat.reduceLT, Nat.reduceLeDiff, reduceIte, reduceCtorEq, Int.reduceLE, Int.reduceLT, Int.reduceGE, Int.reduceGT, Int.reduceAdd, Int.reduceSub, Int.reduceMul, Int.reduceToNat, Int.reduceBEq, Int.reduceBNe, Nat.reduceBEq, Nat.reduceDiv, Nat.reduceMod, Nat.reduceBEq, Int.reduceNeg, Int.reduceToNat, Int.reduceEq, Nat.reduceLeDiff, Act.v, few_ok, k3, callr64, wt, rt]
  by_cases k4 : k = 4
  · have rt := RefHash_ok (s.take 3000) (by omega)
    simp -implicitDefEqProofs (disch := omega) only [go_sem, Nat.reduceAdd, Nat.reduceMul, Nat.reduceSub, Nat.reduceEqDiff, Nat.reduceLT, Nat.reduceLeDiff, reduceIte, reduceCtorEq, Int.reduceLE, Int.reduceLT, Int.reduceGE, Int.reduceGT, Int.reduceAdd, Int.reduceSub, Int.reduceMul, Int.reduceToNat, Int.reduceBEq, Int.reduceBNe, Nat.reduceBEq, Nat.reduceDiv, Nat.reduceMod, Nat.reduceBEq, Int.reduceNeg, Int.reduceToNat, Int.reduceEq, Nat.reduceLeDiff, Act.v, few_ok, k4, callr66, WHash_nil, rt]
  · simp -implicitDefEqProofs (disch := omega) only [go_sem, Nat.reduceAdd, Nat.reduceMul, Nat.reduceSub, Nat.reduceEqDiff, Nat.reduceLT, Nat.reduceLeDiff, reduceIte, reduceCtorEq, Int.reduceLE, Int.reduceLT, Int.reduceGE, Int.reduceGT, Int.reduceAdd, Int.reduceSub, Int.reduceMul, Int.reduceToNat, Int.reduceBEq, Int.reduceBNe, Nat.reduceBEq, Nat.reduceDiv, Nat.reduceMod, Nat.reduceBEq, Int.reduceNeg, Int.reduceToNat, Int.reduceEq, Nat.reduceLeDiff, Act.v, few_ok, k0, k1, k2, k3, k4, h2, rem2, callr67, WBool_nil, r1]
theorem WLen_nil : Gf fns 47 [.nilp] = some (.int .i64 0, []) := by
  refine Gf_start rfl rfl ?_
  simp -implicitDefEqProofs (disch := omega) only [go_sem, Nat.reduceAdd, Nat.reduceMul, Nat.reduceSub, Nat.reduceEqDiff, Nat.reduceLT, Nat.reduceLeDiff, reduceIte, reduceCtorEq, Int.reduceLE, Int.reduceLT, Int.reduceGE, Int.reduceGT, Int.reduceAdd, Int.reduceSub, Int.reduceMul, Int.reduceToNat, Int.reduceBEq, Int.reduceBNe, Nat.reduceBEq, Nat.reduceDiv, Nat.reduceMod, Nat.reduceBEq, Int.reduceNeg, Int.reduceToNat, Int.reduceEq, Nat.reduceLeDiff, go_sem]
theorem WAll_nil : Gf fns 48 [.nilp] = some (.str [], []) := by
  refine Gf_start rfl rfl ?_
  simp -implicitDefEqProofs (disch := omega) only [go_sem, Nat.reduceAdd, Nat.reduceMul, Nat.reduceSub, Nat.reduceEqDiff, Nat.reduceLT, Nat.reduceLeDiff, reduceIte, reduceCtorEq, Int.reduceLE, Int.reduceLT, Int.reduceGE, Int.reduceGT, Int.reduceAdd, Int.reduceSub, Int.reduceMul, Int.reduceToNat, Int.reduceBEq, Int.reduceBNe, Nat.reduceBEq, Nat.reduceDiv, Nat.reduceMod, Nat.reduceBEq, Int.reduceNeg, Int.reduceToNat, Int.reduceEq, Nat.reduceLeDiff, go_sem]
theorem wireNil_law (a : Act) (ha : a.ok) : fnA (tabW fns) [.bor] ir11 [.agg a.v] (fun p => p = (.bool true, [])) := by
  have hp := put_nil a ha
  obtain ⟨k, n, x, s⟩ := a
  simp -implicitDefEqProofs (disch := omega) only [go_sem, Nat.reduceAdd, Nat.reduceMul, Nat.reduceSub, Nat.reduceEqDiff, Nat.reduceLT, Nat.reduceLeDiff, reduceIte, reduceCtorEq, Int.reduceLE, Int.reduceLT, Int.reduceGE, Int.reduceGT, Int.reduceAdd, Int.reduceSub, Int.reduceMul, Int.reduceToNat, Int.reduceBEq, Int.reduceBNe, Nat.reduceBEq, Nat.reduceDiv, Nat.reduceMod, Nat.reduceBEq, Int.reduceNeg, Int.reduceToNat, Int.reduceEq, Nat.reduceLeDiff, Act.v] at hp
  refine fnA_start rfl ?_
  simp -implicitDefEqProofs (disch := omega) only [go_sem, Nat.reduceAdd, Nat.reduceMul, Nat.reduceSub, Nat.reduceEqDiff, Nat.reduceLT, Nat.reduceLeDiff, reduceIte, reduceCtorEq, Int.reduceLE, Int.reduceLT, Int.reduceGE, Int.reduceGT, Int.reduceAdd, Int.reduceSub, Int.reduceMul, Int.reduceToNat, Int.reduceBEq, Int.reduceBNe, Nat.reduceBEq, Nat.reduceDiv, Nat.reduceMod, Nat.reduceBEq, Int.reduceNeg, Int.reduceToNat, Int.reduceEq, Nat.reduceLeDiff, Act.v, callr35, hp, awake_ok, callr36, Fail_nil, callr37, Bytes_nil, callr38, Number_nil, callr39, Count_nil, callr40, Text_nil, callr41, Hash_nil, callr42, Bool_nil, Err_nil, callr44, End_nil, At_nil, Left_nil, WLen_nil, WAll_nil]
theorem uInt : Try.prog.underlying 3 = some (.int .i64) := by kernel_rfl
theorem uU64 : Try.prog.underlying 22 = some (.int .u64) := by kernel_rfl
theorem uU32 : Try.prog.underlying 25 = some (.int .u32) := by kernel_rfl
theorem uStr : Try.prog.underlying 9 = some .string := by kernel_rfl
theorem uAct : tysOf Try.prog 53 = some [3, 3, 22, 9] := by kernel_rfl
theorem fitL_act {d : Nat} {vs : List V} (h : FitsL Try.prog (d + 1) [3, 3, 22, 9] vs) : ∃ a : Act, vs = a.v ∧ a.ok := by
  obtain ⟨a1, b1, rfl, h1, a2, b2, rfl, h2, a3, b3, rfl, h3, a4, b4, rfl, h4, rfl⟩ := h
  obtain ⟨k, rfl, _⟩ := fits_int uInt h1
  obtain ⟨n, rfl, hn⟩ := fits_int uInt h2
  obtain ⟨x, rfl, hx⟩ := fits_int uU64 h3
  obtain ⟨y, rfl⟩ := of_u64 x hx
  obtain ⟨s, rfl, _⟩ := fits_str uStr h4
  exact ⟨⟨k, n, y, s⟩, rfl, i64_wf hn⟩
theorem wireNil_main (xs : List V) (h : FitsA Try.prog 8 [53] xs) : fnA (tabW fns) ([53].map fun _ => Mode.bor) ir11 xs (fun p => p = (.bool true, [])) := by
  obtain ⟨x, ys, rfl, h1, h⟩ := fitsA_s h
  obtain rfl := fitsA_0 h
  obtain ⟨vs, rfl, h2⟩ := fit_struct uAct h1
  obtain ⟨a, rfl, ha⟩ := fitL_act h2
  exact wireNil_law a ha
end Go.Vm.Yteeplbabnleanaa
