/- The law of frames, joined. -/
import Derived.Test.YteeplbabnleanaaWireH
set_option linter.unusedSectionVars false
set_option linter.unusedSimpArgs false
set_option linter.unusedVariables false
set_option maxHeartbeats 1000000
set_option maxRecDepth 10000
namespace Go.Vm.Yteeplbabnleanaa
open Go.Proofs
theorem bytes_at (P M R : List UInt8) : (Rd.mk (P ++ (M ++ R)) P.length 0).bytes (M.length : Int) = (⟨P ++ (M ++ R), P.length + M.length, 0⟩, M) := by
  unfold Rd.bytes
  rw [if_neg (by simp), if_neg (by omega), if_neg (by simp only [List.length_append]; omega)]
  simp
theorem number_at (P M R : List UInt8) (h : M.length = 4) : (Rd.mk (P ++ (M ++ R)) P.length 0).number 4 = (⟨P ++ (M ++ R), P.length + 4, 0⟩, beV M) := by
  have hb := bytes_at P M R
  rw [h] at hb
  unfold Rd.number
  rw [if_neg (by simp)]
  have : ((4 : Nat) : Int) = 4 := rfl
  rw [this] at hb
  rw [hb]
theorem back (x more : List UInt8) (hx : x.length ≤ 3000) : unframe (frameB x ++ more) 0 = (x, x.length + 8, 0) := by
  have hl := numB_len 4 (UInt64.ofNat x.length)
  have hl2 := numB_len 4 (crc (numB (UInt64.ofNat x.length) 4 ++ x)).toUInt64
  have hv := beV_numB 4 (UInt64.ofNat x.length) (by omega) (by rw [UInt64.toNat_ofNat_of_lt' (by show x.length < 18446744073709551616; omega)]; omega)
  have hv2 := beV_numB 4 (crc (numB (UInt64.ofNat x.length) 4 ++ x)).toUInt64 (by omega) (by rw [UInt32.toNat_toUInt64]; exact (crc (numB (UInt64.ofNat x.length) 4 ++ x)).toNat_lt)
  have hn : (UInt64.ofNat x.length).toNat = x.length := UInt64.toNat_ofNat_of_lt' (by show x.length < 18446744073709551616; omega)
  have hu := unframe_in (frameB x ++ more) 0 (by omega)
  generalize hA : numB (UInt64.ofNat x.length) 4 = A at *
  generalize hB : numB (crc (A ++ x)).toUInt64 4 = B at *
  have hS : frameB x ++ more = A ++ (B ++ (x ++ more)) := by unfold frameB; rw [hA, hB]; simp only [List.append_assoc]
  rw [hS] at hu ⊢
  have n1 := number_at [] A (B ++ (x ++ more)) hl
  have n2 := number_at A B (x ++ more) hl2
  have n3 := bytes_at (A ++ B) x more
  have hS2 : A ++ B ++ (x ++ more) = A ++ (B ++ (x ++ more)) := by simp only [List.append_assoc]
  rw [hS2, List.length_append, hl, hl2] at n3
  rw [hl] at n2
  simp only [List.nil_append, List.length_nil, Nat.zero_add] at n1
  have c1 : (Rd.mk (List.drop 0 (A ++ (B ++ (x ++ more)))) 0 0).count 2147483647 = (⟨A ++ (B ++ (x ++ more)), 4, 0⟩, x.length) := by
    unfold Rd.count
    rw [List.drop_zero, n1, hv]
    simp only
    rw [if_neg (by simp), hn, if_neg (by omega)]
  rw [c1] at hu
  simp only at hu
  rw [n2] at hu
  simp only at hu
  rw [n3, hv2] at hu
  refine Eq.trans hu ?_
  unfold unfin
  rw [if_neg (by simp), if_neg (by rw [hA]; simp)]
  simp only
  rw [show 0 + (4 + 4 + x.length) = x.length + 8 by omega]
theorem wireFrames_law (s : List UInt8) (p : Int) : fnA (tabW fns) [.bor, .bor] ir9 [.str s, .int .i64 p] (fun q => q = (.bool true, [])) := by
  have hl := take_le s
  have u1 := Unframe_ok (s.take 3000) (by omega) p
  have u2 := RefUnframe_ok (s.take 3000) (by omega) p
  have f1 := Frame_ok (s.take 3000) (by omega)
  have f2 := RefFrame_ok (s.take 3000) (by omega)
  have hfl : (frameB (s.take 3000)).length = 8 + (s.take 3000).length := by unfold frameB; simp only [List.length_append, numB_len]
  have u3 := Unframe_ok (frameB (s.take 3000) ++ [109, 111, 114, 101]) (by simp only [List.length_append, List.length_cons, List.length_nil]; omega) 0
  rw [back _ _ hl] at u3
  refine fnA_start rfl ?_
  simp -implicitDefEqProofs (disch := omega) only [go_sem, Nat.reduceAdd, Nat.reduceMul, Nat.reduceSub, Nat.reduceEqDiff, Nat.reduceLT, Nat.reduceLeDiff, reduceIte, reduceCtorEq, Int.reduceLE, Int.reduceLT, Int.reduceGE, Int.reduceGT, Int.reduceAdd, Int.reduceSub, Int.reduceMul, Int.reduceToNat, Int.reduceBEq, Int.reduceBNe, Nat.reduceBEq, Nat.reduceDiv, Nat.reduceMod, Nat.reduceBEq, Int.reduceNeg, Int.reduceToNat, Int.reduceEq, Nat.reduceLeDiff, few_ok, awake_ok, u1, u2, u3, f1, f2]
theorem wireFrames_main (xs : List V) (h : FitsA Try.prog 8 [9, 3] xs) : fnA (tabW fns) ([9, 3].map fun _ => Mode.bor) ir9 xs (fun p => p = (.bool true, [])) := by
  obtain ⟨x, ys, rfl, h1, h⟩ := fitsA_s h
  obtain ⟨y, zs, rfl, h2, h⟩ := fitsA_s h
  obtain rfl := fitsA_0 h
  obtain ⟨s, rfl, _⟩ := fit_str uStr h1
  obtain ⟨n, rfl, hn⟩ := fit_int uInt h2
  exact wireFrames_law s n
end Go.Vm.Yteeplbabnleanaa
