/- The law of frames. -/
import Derived.Test.YteeplbabnleanaaWireG
set_option linter.unusedSectionVars false
set_option linter.unusedSimpArgs false
set_option linter.unusedVariables false
set_option maxHeartbeats 1000000
set_option maxRecDepth 10000
namespace Go.Vm.Yteeplbabnleanaa
open Go.Proofs
theorem i64_w (x : List UInt8) (hx : x.length ≤ 10000000000) : (x.length : Int) = ((UInt64.ofNat x.length).toNat : Int) := by
  rw [UInt64.toNat_ofNat_of_lt' (by show x.length < 18446744073709551616; omega)]
theorem RefFrame_ok (x : List UInt8) (hx : x.length ≤ 10000000000) : Gf fns 34 [.str x] = some (.str (frameB x), []) := by
  have h := RefNumberAny_ok (UInt64.ofNat x.length) 4
  have e4 : bytes8 4 = 4 := rfl
  rw [e4, ← i64_w x hx] at h
  have hl := numB_len 4 (UInt64.ofNat x.length)
  have hc := RefCrc_ok (numB (UInt64.ofNat x.length) 4 ++ x) (by rw [List.length_append]; omega)
  have h2 := RefNumberAny_ok (crc (numB (UInt64.ofNat x.length) 4 ++ x)).toUInt64 4
  rw [e4] at h2
  have eu : (crc (numB (UInt64.ofNat x.length) 4 ++ x)).toUInt64.toNat = (crc (numB (UInt64.ofNat x.length) 4 ++ x)).toNat := UInt32.toNat_toUInt64 _
  rw [eu] at h2
  have hl2 := numB_len 4 (crc (numB (UInt64.ofNat x.length) 4 ++ x)).toUInt64
  have hu := (crc (numB (UInt64.ofNat x.length) 4 ++ x)).toNat_lt
  refine Gf_start rfl rfl ?_
  simp -implicitDefEqProofs (disch := omega) only [go_sem, Nat.reduceAdd, Nat.reduceMul, Nat.reduceSub, Nat.reduceEqDiff, Nat.reduceLT, Nat.reduceLeDiff, reduceIte, reduceCtorEq, Int.reduceLE, Int.reduceLT, Int.reduceGE, Int.reduceGT, Int.reduceAdd, Int.reduceSub, Int.reduceMul, Int.reduceToNat, Int.reduceBEq, Int.reduceBNe, Nat.reduceBEq, Nat.reduceDiv, Nat.reduceMod, Nat.reduceBEq, Int.reduceNeg, Int.reduceToNat, Int.reduceEq, Nat.reduceLeDiff, h, hc, h2, frameB]
theorem Frame_ok (x : List UInt8) (hx : x.length ≤ 10000000000) : Gf fns 33 [.str x] = some (.str (frameB x), []) := by
  have h := Number_ok (UInt64.ofNat x.length) 4 (by omega)
  have e4 : bytes8 4 = 4 := rfl
  rw [e4, ← i64_w x hx] at h
  have hl := numB_len 4 (UInt64.ofNat x.length)
  have hc := Crc_ok (numB (UInt64.ofNat x.length) 4 ++ x) (by rw [List.length_append]; omega)
  have w1 := WCount_ok [] (x.length : Int) (by omega) (by simp)
  rw [Int.toNat_natCast] at w1
  have w2 := WNumber_ok ([] ++ numB (UInt64.ofNat x.length) 4) (crc (numB (UInt64.ofNat x.length) 4 ++ x)).toUInt64 4 (by omega) (by rw [List.length_append, hl]; simp)
  have eu : (crc (numB (UInt64.ofNat x.length) 4 ++ x)).toUInt64.toNat = (crc (numB (UInt64.ofNat x.length) 4 ++ x)).toNat := UInt32.toNat_toUInt64 _
  rw [e4, eu] at w2
  have hl2 := numB_len 4 (crc (numB (UInt64.ofNat x.length) 4 ++ x)).toUInt64
  have hu := (crc (numB (UInt64.ofNat x.length) 4 ++ x)).toNat_lt
  have w3 := WBytes_ok ([] ++ numB (UInt64.ofNat x.length) 4 ++ numB (crc (numB (UInt64.ofNat x.length) 4 ++ x)).toUInt64 4) x (by simp only [List.length_append, List.length_nil]; omega)
  refine Gf_start rfl rfl ?_
  simp -implicitDefEqProofs (disch := omega) only [go_sem, Nat.reduceAdd, Nat.reduceMul, Nat.reduceSub, Nat.reduceEqDiff, Nat.reduceLT, Nat.reduceLeDiff, reduceIte, reduceCtorEq, Int.reduceLE, Int.reduceLT, Int.reduceGE, Int.reduceGT, Int.reduceAdd, Int.reduceSub, Int.reduceMul, Int.reduceToNat, Int.reduceBEq, Int.reduceBNe, Nat.reduceBEq, Nat.reduceDiv, Nat.reduceMod, Nat.reduceBEq, Int.reduceNeg, Int.reduceToNat, Int.reduceEq, Nat.reduceLeDiff, NewWriter_ok, wrV]
  refine contC_ex (wcall (f := 61) rfl [] _ 320 1 [] (.inl ⟨rfl, by simp -implicitDefEqProofs (disch := omega) only [go_sem, Nat.reduceAdd, Nat.reduceMul, Nat.reduceSub, Nat.reduceEqDiff, Nat.reduceLT, Nat.reduceLeDiff, reduceIte, reduceCtorEq, Int.reduceLE, Int.reduceLT, Int.reduceGE, Int.reduceGT, Int.reduceAdd, Int.reduceSub, Int.reduceMul, Int.reduceToNat, Int.reduceBEq, Int.reduceBNe, Nat.reduceBEq, Nat.reduceDiv, Nat.reduceMod, Nat.reduceBEq, Int.reduceNeg, Int.reduceToNat, Int.reduceEq, Nat.reduceLeDiff, go_sem]⟩) (by simp) (by simp -implicitDefEqProofs (disch := omega) only [go_sem, Nat.reduceAdd, Nat.reduceMul, Nat.reduceSub, Nat.reduceEqDiff, Nat.reduceLT, Nat.reduceLeDiff, reduceIte, reduceCtorEq, Int.reduceLE, Int.reduceLT, Int.reduceGE, Int.reduceGT, Int.reduceAdd, Int.reduceSub, Int.reduceMul, Int.reduceToNat, Int.reduceBEq, Int.reduceBNe, Nat.reduceBEq, Nat.reduceDiv, Nat.reduceMod, Nat.reduceBEq, Int.reduceNeg, Int.reduceToNat, Int.reduceEq, Nat.reduceLeDiff, go_sem]) w1 (fun k σ' => by simp -implicitDefEqProofs (disch := omega) only [go_sem, Nat.reduceAdd, Nat.reduceMul, Nat.reduceSub, Nat.reduceEqDiff, Nat.reduceLT, Nat.reduceLeDiff, reduceIte, reduceCtorEq, Int.reduceLE, Int.reduceLT, Int.reduceGE, Int.reduceGT, Int.reduceAdd, Int.reduceSub, Int.reduceMul, Int.reduceToNat, Int.reduceBEq, Int.reduceBNe, Nat.reduceBEq, Nat.reduceDiv, Nat.reduceMod, Nat.reduceBEq, Int.reduceNeg, Int.reduceToNat, Int.reduceEq, Nat.reduceLeDiff, go_sem])) ?_
  rintro σ2 ⟨hs2, _⟩
  simp -implicitDefEqProofs (disch := omega) only [go_sem, Nat.reduceAdd, Nat.reduceMul, Nat.reduceSub, Nat.reduceEqDiff, Nat.reduceLT, Nat.reduceLeDiff, reduceIte, reduceCtorEq, Int.reduceLE, Int.reduceLT, Int.reduceGE, Int.reduceGT, Int.reduceAdd, Int.reduceSub, Int.reduceMul, Int.reduceToNat, Int.reduceBEq, Int.reduceBNe, Nat.reduceBEq, Nat.reduceDiv, Nat.reduceMod, Nat.reduceBEq, Int.reduceNeg, Int.reduceToNat, Int.reduceEq, Nat.reduceLeDiff, h, hc]
  refine contC_ex (wcall (f := 62) rfl _ _ 320 1 _ hs2 (by simp) (by simp -implicitDefEqProofs (disch := omega) only [go_sem, Nat.reduceAdd, Nat.reduceMul, Nat.reduceSub, Nat.reduceEqDiff, Nat.reduceLT, Nat.reduceLeDiff, reduceIte, reduceCtorEq, Int.reduceLE, Int.reduceLT, Int.reduceGE, Int.reduceGT, Int.reduceAdd, Int.reduceSub, Int.reduceMul, Int.reduceToNat, Int.reduceBEq, Int.reduceBNe, Nat.reduceBEq, Nat.reduceDiv, Nat.reduceMod, Nat.reduceBEq, Int.reduceNeg, Int.reduceToNat, Int.reduceEq, Nat.reduceLeDiff, go_sem]) w2 (fun k σ' => by simp -implicitDefEqProofs (disch := omega) only [go_sem, Nat.reduceAdd, Nat.reduceMul, Nat.reduceSub, Nat.reduceEqDiff, Nat.reduceLT, Nat.reduceLeDiff, reduceIte, reduceCtorEq, Int.reduceLE, Int.reduceLT, Int.reduceGE, Int.reduceGT, Int.reduceAdd, Int.reduceSub, Int.reduceMul, Int.reduceToNat, Int.reduceBEq, Int.reduceBNe, Nat.reduceBEq, Nat.reduceDiv, Nat.reduceMod, Nat.reduceBEq, Int.reduceNeg, Int.reduceToNat, Int.reduceEq, Nat.reduceLeDiff, go_sem])) ?_
  rintro σ3 ⟨hs3, _⟩
  simp -implicitDefEqProofs (disch := omega) only [go_sem, Nat.reduceAdd, Nat.reduceMul, Nat.reduceSub, Nat.reduceEqDiff, Nat.reduceLT, Nat.reduceLeDiff, reduceIte, reduceCtorEq, Int.reduceLE, Int.reduceLT, Int.reduceGE, Int.reduceGT, Int.reduceAdd, Int.reduceSub, Int.reduceMul, Int.reduceToNat, Int.reduceBEq, Int.reduceBNe, Nat.reduceBEq, Nat.reduceDiv, Nat.reduceMod, Nat.reduceBEq, Int.reduceNeg, Int.reduceToNat, Int.reduceEq, Nat.reduceLeDiff, go_sem]
  refine contC_ex (wcall (f := 63) rfl _ _ 320 1 _ hs3 (by simp) (by simp -implicitDefEqProofs (disch := omega) only [go_sem, Nat.reduceAdd, Nat.reduceMul, Nat.reduceSub, Nat.reduceEqDiff, Nat.reduceLT, Nat.reduceLeDiff, reduceIte, reduceCtorEq, Int.reduceLE, Int.reduceLT, Int.reduceGE, Int.reduceGT, Int.reduceAdd, Int.reduceSub, Int.reduceMul, Int.reduceToNat, Int.reduceBEq, Int.reduceBNe, Nat.reduceBEq, Nat.reduceDiv, Nat.reduceMod, Nat.reduceBEq, Int.reduceNeg, Int.reduceToNat, Int.reduceEq, Nat.reduceLeDiff, go_sem]) w3 (fun k σ' => by simp -implicitDefEqProofs (disch := omega) only [go_sem, Nat.reduceAdd, Nat.reduceMul, Nat.reduceSub, Nat.reduceEqDiff, Nat.reduceLT, Nat.reduceLeDiff, reduceIte, reduceCtorEq, Int.reduceLE, Int.reduceLT, Int.reduceGE, Int.reduceGT, Int.reduceAdd, Int.reduceSub, Int.reduceMul, Int.reduceToNat, Int.reduceBEq, Int.reduceBNe, Nat.reduceBEq, Nat.reduceDiv, Nat.reduceMod, Nat.reduceBEq, Int.reduceNeg, Int.reduceToNat, Int.reduceEq, Nat.reduceLeDiff, go_sem])) ?_
  rintro σ4 ⟨hs4, _⟩
  have hB : [] ++ numB (UInt64.ofNat x.length) 4 ++ numB (crc (numB (UInt64.ofNat x.length) 4 ++ x)).toUInt64 4 ++ x = frameB x := by simp only [List.nil_append]; rfl
  rw [hB] at hs4
  have hfl : (frameB x).length = 8 + x.length := by unfold frameB; simp only [List.length_append, hl, hl2]
  have ha := All_ok (frameB x) (by omega)
  rcases hs4 with ⟨hx, _⟩ | ⟨hx, q, gq, hq, h1, h2⟩
  · rw [hx] at hfl; simp at hfl; omega
  · simp -implicitDefEqProofs (disch := omega) only [go_sem, Nat.reduceAdd, Nat.reduceMul, Nat.reduceSub, Nat.reduceEqDiff, Nat.reduceLT, Nat.reduceLeDiff, reduceIte, reduceCtorEq, Int.reduceLE, Int.reduceLT, Int.reduceGE, Int.reduceGT, Int.reduceAdd, Int.reduceSub, Int.reduceMul, Int.reduceToNat, Int.reduceBEq, Int.reduceBNe, Nat.reduceBEq, Nat.reduceDiv, Nat.reduceMod, Nat.reduceBEq, Int.reduceNeg, Int.reduceToNat, Int.reduceEq, Nat.reduceLeDiff, hx] at ha
    simp -implicitDefEqProofs (disch := omega) only [go_sem, Nat.reduceAdd, Nat.reduceMul, Nat.reduceSub, Nat.reduceEqDiff, Nat.reduceLT, Nat.reduceLeDiff, reduceIte, reduceCtorEq, Int.reduceLE, Int.reduceLT, Int.reduceGE, Int.reduceGT, Int.reduceAdd, Int.reduceSub, Int.reduceMul, Int.reduceToNat, Int.reduceBEq, Int.reduceBNe, Nat.reduceBEq, Nat.reduceDiv, Nat.reduceMod, Nat.reduceBEq, Int.reduceNeg, Int.reduceToNat, Int.reduceEq, Nat.reduceLeDiff, h1, h2, ha]
def unfin (k x1 : Nat) (x2 : UInt64) (t : Rd × List UInt8) : List UInt8 × Nat × Int :=
  if t.1.err ≠ 0 then ([], 0, t.1.err) else if x2 ≠ (crc (numB (UInt64.ofNat x1) 4 ++ t.2)).toUInt64 then ([], 0, 6) else (t.2, k + t.1.at', 0)
theorem unframe_in (s : List UInt8) (k : Nat) (h : ¬ s.length < k) : unframe s (k : Int) = unfin k ((Rd.mk (s.drop k) 0 0).count 2147483647).2 (((Rd.mk (s.drop k) 0 0).count 2147483647).1.number 4).2 ((((Rd.mk (s.drop k) 0 0).count 2147483647).1.number 4).1.bytes ((Rd.mk (s.drop k) 0 0).count 2147483647).2) := by
  unfold unframe
  rw [if_neg (by omega), Int.toNat_natCast]
  rfl
theorem unR (s : List UInt8) (hs : s.length ≤ 10000000000) (k : Nat) : (Rd.mk (s.drop k) 0 0).ok := ⟨by simp, by simp only [List.length_drop]; omega⟩
theorem RefUnframe_ok (s : List UInt8) (hs : s.length ≤ 10000000000) (p : Int) : Gf fns 32 [.str s, .int .i64 p] = some (.tup [.str (unframe s p).1, .int .i64 ((unframe s p).2.1 : Int), .int .i64 (unframe s p).2.2], []) := by
  refine Gf_start rfl rfl ?_
  by_cases h0 : p < 0
  · have hu : unframe s p = ([], 0, 1) := by unfold unframe; rw [if_pos (.inl h0)]
    simp -implicitDefEqProofs (disch := omega) only [go_sem, Nat.reduceAdd, Nat.reduceMul, Nat.reduceSub, Nat.reduceEqDiff, Nat.reduceLT, Nat.reduceLeDiff, reduceIte, reduceCtorEq, Int.reduceLE, Int.reduceLT, Int.reduceGE, Int.reduceGT, Int.reduceAdd, Int.reduceSub, Int.reduceMul, Int.reduceToNat, Int.reduceBEq, Int.reduceBNe, Nat.reduceBEq, Nat.reduceDiv, Nat.reduceMod, Nat.reduceBEq, Int.reduceNeg, Int.reduceToNat, Int.reduceEq, Nat.reduceLeDiff, h0, hu]
  obtain ⟨k, rfl⟩ : ∃ k : Nat, p = (k : Int) := ⟨p.toNat, by omega⟩
  by_cases h1 : s.length < k
  · have hu : unframe s k = ([], 0, 1) := by unfold unframe; rw [if_pos (.inr (by omega))]
    simp -implicitDefEqProofs (disch := omega) only [go_sem, Nat.reduceAdd, Nat.reduceMul, Nat.reduceSub, Nat.reduceEqDiff, Nat.reduceLT, Nat.reduceLeDiff, reduceIte, reduceCtorEq, Int.reduceLE, Int.reduceLT, Int.reduceGE, Int.reduceGT, Int.reduceAdd, Int.reduceSub, Int.reduceMul, Int.reduceToNat, Int.reduceBEq, Int.reduceBNe, Nat.reduceBEq, Nat.reduceDiv, Nat.reduceMod, Nat.reduceBEq, Int.reduceNeg, Int.reduceToNat, Int.reduceEq, Nat.reduceLeDiff, h1, hu]
  have r0 := unR s hs k
  have c1 := FCount_ok _ r0 2147483647 (by omega)
  have r1 := Rd.count_ok r0 2147483647
  have n1 := FNumber_ok _ r1.1 4
  have r2 := Rd.number_ok r1.1 4
  have b1 := FBytes_ok _ r2.1 ((Rd.mk (s.drop k) 0 0).count 2147483647).2
  have r3 := Rd.bytes_ok r2.1 ((Rd.mk (s.drop k) 0 0).count 2147483647).2
  have l3 := Rd.bytes_len (((Rd.mk (s.drop k) 0 0).count 2147483647).1.number 4).1 ((Rd.mk (s.drop k) 0 0).count 2147483647).2
  have l1 := count_lt (Rd.mk (s.drop k) 0 0) 2147483647
  rw [r2.2, r1.2] at l3
  have e3 := r3.1.1
  rw [r3.2, r2.2, r1.2] at e3
  simp only [List.length_drop] at l3 e3
  rw [unframe_in s k h1]
  generalize hq1 : (Rd.mk (s.drop k) 0 0).count 2147483647 = q1 at *
  generalize hq2 : q1.1.number 4 = q2 at *
  generalize hq3 : q2.1.bytes q1.2 = q3 at *
  obtain ⟨⟨s1, a1, e1⟩, x1⟩ := q1
  obtain ⟨⟨s2, a2, e2⟩, x2⟩ := q2
  obtain ⟨⟨s3, a3, e4⟩, x3⟩ := q3
  simp only at l3 e3 l1
  simp -implicitDefEqProofs (disch := omega) only [go_sem, Nat.reduceAdd, Nat.reduceMul, Nat.reduceSub, Nat.reduceEqDiff, Nat.reduceLT, Nat.reduceLeDiff, reduceIte, reduceCtorEq, Int.reduceLE, Int.reduceLT, Int.reduceGE, Int.reduceGT, Int.reduceAdd, Int.reduceSub, Int.reduceMul, Int.reduceToNat, Int.reduceBEq, Int.reduceBNe, Nat.reduceBEq, Nat.reduceDiv, Nat.reduceMod, Nat.reduceBEq, Int.reduceNeg, Int.reduceToNat, Int.reduceEq, Nat.reduceLeDiff, Rd.v] at c1 n1 b1
  have hw : (x1 : Int) = ((UInt64.ofNat x1).toNat : Int) := by
    rw [UInt64.toNat_ofNat_of_lt' (by show x1 < 18446744073709551616; omega)]
  have h := RefNumberAny_ok (UInt64.ofNat x1) 4
  have e4' : bytes8 4 = 4 := rfl
  rw [e4', ← hw] at h
  have hl := numB_len 4 (UInt64.ofNat x1)
  have hc := RefCrc_ok (numB (UInt64.ofNat x1) 4 ++ x3) (by rw [List.length_append]; omega)
  have hcu := (crc (numB (UInt64.ofNat x1) 4 ++ x3)).toNat_lt
  have eu : (crc (numB (UInt64.ofNat x1) 4 ++ x3)).toUInt64.toNat = (crc (numB (UInt64.ofNat x1) 4 ++ x3)).toNat := UInt32.toNat_toUInt64 _
  by_cases hz : e4 = 0
  · subst hz
    by_cases hy : x2 = (crc (numB (UInt64.ofNat x1) 4 ++ x3)).toUInt64
    · have hv : unfin k x1 x2 (⟨s3, a3, 0⟩, x3) = (x3, k + a3, 0) := by unfold unfin; rw [if_neg (by simp), if_neg (by simpa using hy)]
      have hy' : x2.toNat = (crc (numB (UInt64.ofNat x1) 4 ++ x3)).toNat := by rw [hy, eu]
      simp -implicitDefEqProofs (disch := omega) only [go_sem, Nat.reduceAdd, Nat.reduceMul, Nat.reduceSub, Nat.reduceEqDiff, Nat.reduceLT, Nat.reduceLeDiff, reduceIte, reduceCtorEq, Int.reduceLE, Int.reduceLT, Int.reduceGE, Int.reduceGT, Int.reduceAdd, Int.reduceSub, Int.reduceMul, Int.reduceToNat, Int.reduceBEq, Int.reduceBNe, Nat.reduceBEq, Nat.reduceDiv, Nat.reduceMod, Nat.reduceBEq, Int.reduceNeg, Int.reduceToNat, Int.reduceEq, Nat.reduceLeDiff, c1, n1, b1, h, hc, hy', hv]
      refine wp_draw_E ?_
      simp -implicitDefEqProofs (disch := omega) only [go_sem, Nat.reduceAdd, Nat.reduceMul, Nat.reduceSub, Nat.reduceEqDiff, Nat.reduceLT, Nat.reduceLeDiff, reduceIte, reduceCtorEq, Int.reduceLE, Int.reduceLT, Int.reduceGE, Int.reduceGT, Int.reduceAdd, Int.reduceSub, Int.reduceMul, Int.reduceToNat, Int.reduceBEq, Int.reduceBNe, Nat.reduceBEq, Nat.reduceDiv, Nat.reduceMod, Nat.reduceBEq, Int.reduceNeg, Int.reduceToNat, Int.reduceEq, Nat.reduceLeDiff, hv]
    · have hv : unfin k x1 x2 (⟨s3, a3, 0⟩, x3) = ([], 0, 6) := by unfold unfin; rw [if_neg (by simp), if_pos hy]
      have hy' : ¬ x2.toNat = (crc (numB (UInt64.ofNat x1) 4 ++ x3)).toNat := fun c => hy (UInt64.toNat_inj.1 (by rw [c, eu]))
      simp -implicitDefEqProofs (disch := omega) only [go_sem, Nat.reduceAdd, Nat.reduceMul, Nat.reduceSub, Nat.reduceEqDiff, Nat.reduceLT, Nat.reduceLeDiff, reduceIte, reduceCtorEq, Int.reduceLE, Int.reduceLT, Int.reduceGE, Int.reduceGT, Int.reduceAdd, Int.reduceSub, Int.reduceMul, Int.reduceToNat, Int.reduceBEq, Int.reduceBNe, Nat.reduceBEq, Nat.reduceDiv, Nat.reduceMod, Nat.reduceBEq, Int.reduceNeg, Int.reduceToNat, Int.reduceEq, Nat.reduceLeDiff, c1, n1, b1, h, hc, hy', hv]
  · have hv : unfin k x1 x2 (⟨s3, a3, e4⟩, x3) = ([], 0, e4) := by unfold unfin; rw [if_pos hz]
    simp -implicitDefEqProofs (disch := omega) only [go_sem, Nat.reduceAdd, Nat.reduceMul, Nat.reduceSub, Nat.reduceEqDiff, Nat.reduceLT, Nat.reduceLeDiff, reduceIte, reduceCtorEq, Int.reduceLE, Int.reduceLT, Int.reduceGE, Int.reduceGT, Int.reduceAdd, Int.reduceSub, Int.reduceMul, Int.reduceToNat, Int.reduceBEq, Int.reduceBNe, Nat.reduceBEq, Nat.reduceDiv, Nat.reduceMod, Nat.reduceBEq, Int.reduceNeg, Int.reduceToNat, Int.reduceEq, Nat.reduceLeDiff, c1, n1, b1, hz, hv]
    refine wp_draw_E ?_
    simp -implicitDefEqProofs (disch := omega) only [go_sem, Nat.reduceAdd, Nat.reduceMul, Nat.reduceSub, Nat.reduceEqDiff, Nat.reduceLT, Nat.reduceLeDiff, reduceIte, reduceCtorEq, Int.reduceLE, Int.reduceLT, Int.reduceGE, Int.reduceGT, Int.reduceAdd, Int.reduceSub, Int.reduceMul, Int.reduceToNat, Int.reduceBEq, Int.reduceBNe, Nat.reduceBEq, Nat.reduceDiv, Nat.reduceMod, Nat.reduceBEq, Int.reduceNeg, Int.reduceToNat, Int.reduceEq, Nat.reduceLeDiff, hv]
theorem bytes_le (r : Rd) (n : Int) (m : Nat) (h : n ≤ m) : (r.bytes n).2.length ≤ m := by
  unfold Rd.bytes
  repeat' split
  · simp
  · simp
  · simp
  · simp only [List.length_take]; omega
theorem Unframe_ok (s : List UInt8) (hs : s.length ≤ 10000000000) (p : Int) : Gf fns 31 [.str s, .int .i64 p] = some (.tup [.str (unframe s p).1, .int .i64 ((unframe s p).2.1 : Int), .int .i64 (unframe s p).2.2], []) := by
  refine Gf_start rfl rfl ?_
  by_cases h0 : p < 0
  · have hu : unframe s p = ([], 0, 1) := by unfold unframe; rw [if_pos (.inl h0)]
    simp -implicitDefEqProofs (disch := omega) only [go_sem, Nat.reduceAdd, Nat.reduceMul, Nat.reduceSub, Nat.reduceEqDiff, Nat.reduceLT, Nat.reduceLeDiff, reduceIte, reduceCtorEq, Int.reduceLE, Int.reduceLT, Int.reduceGE, Int.reduceGT, Int.reduceAdd, Int.reduceSub, Int.reduceMul, Int.reduceToNat, Int.reduceBEq, Int.reduceBNe, Nat.reduceBEq, Nat.reduceDiv, Nat.reduceMod, Nat.reduceBEq, Int.reduceNeg, Int.reduceToNat, Int.reduceEq, Nat.reduceLeDiff, h0, hu]
  obtain ⟨k, rfl⟩ : ∃ k : Nat, p = (k : Int) := ⟨p.toNat, by omega⟩
  by_cases h1 : s.length < k
  · have hu : unframe s k = ([], 0, 1) := by unfold unframe; rw [if_pos (.inr (by omega))]
    simp -implicitDefEqProofs (disch := omega) only [go_sem, Nat.reduceAdd, Nat.reduceMul, Nat.reduceSub, Nat.reduceEqDiff, Nat.reduceLT, Nat.reduceLeDiff, reduceIte, reduceCtorEq, Int.reduceLE, Int.reduceLT, Int.reduceGE, Int.reduceGT, Int.reduceAdd, Int.reduceSub, Int.reduceMul, Int.reduceToNat, Int.reduceBEq, Int.reduceBNe, Nat.reduceBEq, Nat.reduceDiv, Nat.reduceMod, Nat.reduceBEq, Int.reduceNeg, Int.reduceToNat, Int.reduceEq, Nat.reduceLeDiff, h1, hu]
  have r0 := unR s hs k
  have c1 := RCount_ok _ r0 2147483647 (by omega)
  have r1 := Rd.count_ok r0 2147483647
  have n1 := RNumber_ok _ r1.1 4
  have r2 := Rd.number_ok r1.1 4
  have b1 := RBytes_ok _ r2.1 ((Rd.mk (s.drop k) 0 0).count 2147483647).2
  have r3 := Rd.bytes_ok r2.1 ((Rd.mk (s.drop k) 0 0).count 2147483647).2
  have l3 := Rd.bytes_len (((Rd.mk (s.drop k) 0 0).count 2147483647).1.number 4).1 ((Rd.mk (s.drop k) 0 0).count 2147483647).2
  have l1 := count_lt (Rd.mk (s.drop k) 0 0) 2147483647
  rw [r2.2, r1.2] at l3
  have e3 := r3.1.1
  rw [r3.2, r2.2, r1.2] at e3
  simp only [List.length_drop] at l3 e3
  rw [unframe_in s k h1]
  generalize hq1 : (Rd.mk (s.drop k) 0 0).count 2147483647 = q1 at *
  generalize hq2 : q1.1.number 4 = q2 at *
  generalize hq3 : q2.1.bytes q1.2 = q3 at *
  obtain ⟨⟨s1, a1, e1⟩, x1⟩ := q1
  obtain ⟨⟨s2, a2, e2⟩, x2⟩ := q2
  obtain ⟨⟨s3, a3, e4⟩, x3⟩ := q3
  simp only at l3 e3 l1
  have hx2 : x2.toNat < 4294967296 := by
    have hb := beV_lt 4 ((if e1 = 0 ∧ (8 : Int) < 4 then ({ s := s1, at' := a1, err := 1 } : Rd) else ⟨s1, a1, e1⟩).bytes 4).2 (bytes_le _ 4 4 (by omega)) (by omega)
    have : ((Rd.mk s1 a1 e1).number 4).2 = x2 := by rw [hq2]
    rw [← this]
    exact hb
  have er := Err_ok ⟨s3, a3, e4⟩
  have ar := At_ok ⟨s3, a3, e4⟩
  have nr := NewReader_ok (s.drop k)
  simp -implicitDefEqProofs (disch := omega) only [go_sem, Nat.reduceAdd, Nat.reduceMul, Nat.reduceSub, Nat.reduceEqDiff, Nat.reduceLT, Nat.reduceLeDiff, reduceIte, reduceCtorEq, Int.reduceLE, Int.reduceLT, Int.reduceGE, Int.reduceGT, Int.reduceAdd, Int.reduceSub, Int.reduceMul, Int.reduceToNat, Int.reduceBEq, Int.reduceBNe, Nat.reduceBEq, Nat.reduceDiv, Nat.reduceMod, Nat.reduceBEq, Int.reduceNeg, Int.reduceToNat, Int.reduceEq, Nat.reduceLeDiff, Rd.v] at c1 n1 b1 er ar nr
  have hw : (x1 : Int) = ((UInt64.ofNat x1).toNat : Int) := by
    rw [UInt64.toNat_ofNat_of_lt' (by show x1 < 18446744073709551616; omega)]
  have h := Number_ok (UInt64.ofNat x1) 4 (by omega)
  have e4' : bytes8 4 = 4 := rfl
  rw [e4', ← hw] at h
  have hl := numB_len 4 (UInt64.ofNat x1)
  have hc := Crc_ok (numB (UInt64.ofNat x1) 4 ++ x3) (by rw [List.length_append]; omega)
  have hcu := (crc (numB (UInt64.ofNat x1) 4 ++ x3)).toNat_lt
  have eu : (crc (numB (UInt64.ofNat x1) 4 ++ x3)).toUInt64.toNat = (crc (numB (UInt64.ofNat x1) 4 ++ x3)).toNat := UInt32.toNat_toUInt64 _
  by_cases hz : e4 = 0
  · subst hz
    by_cases hy : x2 = (crc (numB (UInt64.ofNat x1) 4 ++ x3)).toUInt64
    · have hv : unfin k x1 x2 (⟨s3, a3, 0⟩, x3) = (x3, k + a3, 0) := by unfold unfin; rw [if_neg (by simp), if_neg (by simpa using hy)]
      have hy' : x2.toNat = (crc (numB (UInt64.ofNat x1) 4 ++ x3)).toNat := by rw [hy, eu]
      simp -implicitDefEqProofs (disch := omega) only [go_sem, Nat.reduceAdd, Nat.reduceMul, Nat.reduceSub, Nat.reduceEqDiff, Nat.reduceLT, Nat.reduceLeDiff, reduceIte, reduceCtorEq, Int.reduceLE, Int.reduceLT, Int.reduceGE, Int.reduceGT, Int.reduceAdd, Int.reduceSub, Int.reduceMul, Int.reduceToNat, Int.reduceBEq, Int.reduceBNe, Nat.reduceBEq, Nat.reduceDiv, Nat.reduceMod, Nat.reduceBEq, Int.reduceNeg, Int.reduceToNat, Int.reduceEq, Nat.reduceLeDiff, callr39, callr38, callr37, nr, er, ar, c1, n1, b1, h, hc, hy', hv]
    · have hv : unfin k x1 x2 (⟨s3, a3, 0⟩, x3) = ([], 0, 6) := by unfold unfin; rw [if_neg (by simp), if_pos hy]
      have hy' : ¬ x2.toNat = (crc (numB (UInt64.ofNat x1) 4 ++ x3)).toNat := fun c => hy (UInt64.toNat_inj.1 (by rw [c, eu]))
      simp -implicitDefEqProofs (disch := omega) only [go_sem, Nat.reduceAdd, Nat.reduceMul, Nat.reduceSub, Nat.reduceEqDiff, Nat.reduceLT, Nat.reduceLeDiff, reduceIte, reduceCtorEq, Int.reduceLE, Int.reduceLT, Int.reduceGE, Int.reduceGT, Int.reduceAdd, Int.reduceSub, Int.reduceMul, Int.reduceToNat, Int.reduceBEq, Int.reduceBNe, Nat.reduceBEq, Nat.reduceDiv, Nat.reduceMod, Nat.reduceBEq, Int.reduceNeg, Int.reduceToNat, Int.reduceEq, Nat.reduceLeDiff, callr39, callr38, callr37, nr, er, ar, c1, n1, b1, h, hc, hy', hv]
  · have hv : unfin k x1 x2 (⟨s3, a3, e4⟩, x3) = ([], 0, e4) := by unfold unfin; rw [if_pos hz]
    simp -implicitDefEqProofs (disch := omega) only [go_sem, Nat.reduceAdd, Nat.reduceMul, Nat.reduceSub, Nat.reduceEqDiff, Nat.reduceLT, Nat.reduceLeDiff, reduceIte, reduceCtorEq, Int.reduceLE, Int.reduceLT, Int.reduceGE, Int.reduceGT, Int.reduceAdd, Int.reduceSub, Int.reduceMul, Int.reduceToNat, Int.reduceBEq, Int.reduceBNe, Nat.reduceBEq, Nat.reduceDiv, Nat.reduceMod, Nat.reduceBEq, Int.reduceNeg, Int.reduceToNat, Int.reduceEq, Nat.reduceLeDiff, callr39, callr38, callr37, nr, er, ar, c1, n1, b1, hz, hv]
end Go.Vm.Yteeplbabnleanaa
