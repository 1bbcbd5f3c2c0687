/- SHA-256: words and blocks. -/
import Derived.Test.YthfcgllahllkkaaShaSpec
set_option linter.unusedSectionVars false
set_option linter.unusedSimpArgs false
set_option linter.unusedVariables false
set_option maxHeartbeats 4000000
namespace Go.Vm.Ythfcgllahllkkaa
open Go.Proofs

theorem turns_all : ∀ n : Fin 32, 0 < n.val → bits .and .u64 (IntKind.u64.wrap (0 - (n.val : Int))) 31 = ((32 - n.val : Nat) : Int) := by decide +kernel
theorem RotateLeft_ok (x : UInt32) (n : Nat) (h : 0 < n ∧ n < 32) : Gf fns 47 [.int .u32 (x.toNat : Int), .int .i64 (0 - (n : Int))] = some (.int .u32 ((rotr x n).toNat : Int), []) := by
  refine Gf_start rfl rfl ?_
  have e := turns_all ⟨n, h.2⟩ h.1
  simp only at e
  have e2 : 32 - (32 - n) = n := by omega
  have e3 : x <<< UInt32.ofNat (32 - n) ||| x >>> UInt32.ofNat n = rotr x n := by unfold rotr; exact UInt32.or_comm _ _
  simp -implicitDefEqProofs (disch := omega) only [go_sem, Nat.reduceAdd, Nat.reduceMul, Nat.reduceSub, Nat.reduceEqDiff, Nat.reduceLT, Nat.reduceLeDiff, reduceIte, reduceCtorEq, Int.reduceLE, Int.reduceLT, Int.reduceGE, Int.reduceGT, Int.reduceAdd, Int.reduceSub, Int.reduceMul, Int.reduceToNat, Int.reduceBEq, Int.reduceBNe, Nat.reduceBEq, Nat.reduceDiv, Nat.reduceMod, Int.reduceNeg, Int.reduceEq, e, e2, e3]
theorem right_ok (x : UInt32) (n : Nat) (h : 0 < n ∧ n < 32) : Gf fns 46 [.int .u32 (x.toNat : Int), .int .i64 (n : Int)] = some (.int .u32 ((rotr x n).toNat : Int), []) := by
  refine Gf_start rfl rfl ?_
  simp -implicitDefEqProofs (disch := omega) only [go_sem, Nat.reduceAdd, Nat.reduceMul, Nat.reduceSub, Nat.reduceEqDiff, Nat.reduceLT, Nat.reduceLeDiff, reduceIte, reduceCtorEq, Int.reduceLE, Int.reduceLT, Int.reduceGE, Int.reduceGT, Int.reduceAdd, Int.reduceSub, Int.reduceMul, Int.reduceToNat, Int.reduceBEq, Int.reduceBNe, Nat.reduceBEq, Nat.reduceDiv, Nat.reduceMod, Int.reduceNeg, Int.reduceEq, RotateLeft_ok x n h]
theorem right_lit (x : UInt32) (n : Nat) (h : 0 < (OfNat.ofNat n : Nat) ∧ (OfNat.ofNat n : Nat) < 32) : Gf fns 46 [.int .u32 (x.toNat : Int), .int .i64 (no_index (OfNat.ofNat n) : Int)] = some (.int .u32 ((rotr x n).toNat : Int), []) := right_ok x n h
theorem turn_ok (x : UInt32) (m : Nat) (h : 0 < m ∧ m < 32) : Gf fns 36 [.int .u32 (x.toNat : Int), .int .u64 (m : Int)] = some (.int .u32 ((rotr x m).toNat : Int), []) := by
  refine Gf_start rfl rfl ?_
  have e3 : x >>> UInt32.ofNat m ||| x <<< UInt32.ofNat (32 - m) = rotr x m := rfl
  simp -implicitDefEqProofs (disch := omega) only [go_sem, Nat.reduceAdd, Nat.reduceMul, Nat.reduceSub, Nat.reduceEqDiff, Nat.reduceLT, Nat.reduceLeDiff, reduceIte, reduceCtorEq, Int.reduceLE, Int.reduceLT, Int.reduceGE, Int.reduceGT, Int.reduceAdd, Int.reduceSub, Int.reduceMul, Int.reduceToNat, Int.reduceBEq, Int.reduceBNe, Nat.reduceBEq, Nat.reduceDiv, Nat.reduceMod, Int.reduceNeg, Int.reduceEq, e3]
theorem turn_lit (x : UInt32) (n : Nat) (h : 0 < (OfNat.ofNat n : Nat) ∧ (OfNat.ofNat n : Nat) < 32) : Gf fns 36 [.int .u32 (x.toNat : Int), .int .u64 (no_index (OfNat.ofNat n) : Int)] = some (.int .u32 ((rotr x (OfNat.ofNat n)).toNat : Int), []) := turn_ok x _ h
/-- The words' array: what is known of it, and noughts. -/
def zer (n : Nat) : List UInt32 := List.replicate n 0
theorem zer_succ (n : Nat) : zer (n + 1) = 0 :: zer n := rfl
theorem zer64 : [V.int .u32 0, V.int .u32 0, V.int .u32 0, V.int .u32 0, V.int .u32 0, V.int .u32 0, V.int .u32 0, V.int .u32 0, V.int .u32 0, V.int .u32 0, V.int .u32 0, V.int .u32 0, V.int .u32 0, V.int .u32 0, V.int .u32 0, V.int .u32 0, V.int .u32 0, V.int .u32 0, V.int .u32 0, V.int .u32 0, V.int .u32 0, V.int .u32 0, V.int .u32 0, V.int .u32 0, V.int .u32 0, V.int .u32 0, V.int .u32 0, V.int .u32 0, V.int .u32 0, V.int .u32 0, V.int .u32 0, V.int .u32 0, V.int .u32 0, V.int .u32 0, V.int .u32 0, V.int .u32 0, V.int .u32 0, V.int .u32 0, V.int .u32 0, V.int .u32 0, V.int .u32 0, V.int .u32 0, V.int .u32 0, V.int .u32 0, V.int .u32 0, V.int .u32 0, V.int .u32 0, V.int .u32 0, V.int .u32 0, V.int .u32 0, V.int .u32 0, V.int .u32 0, V.int .u32 0, V.int .u32 0, V.int .u32 0, V.int .u32 0, V.int .u32 0, V.int .u32 0, V.int .u32 0, V.int .u32 0, V.int .u32 0, V.int .u32 0, V.int .u32 0, V.int .u32 0] = (zer 64).map w32 := by kernel_rfl
theorem zer_len (n : Nat) : (zer n).length = n := by simp [zer]
def wordsI (b : List UInt8) (c : SK) (p : Nat) (s : St) : Prop := p ≤ 16 ∧ s.t 0 = .sl c b.length (b.map u8) ∧ s.t 2 = .ptr 192 1 0 ∧ s.σ 192 = ⟨1, .rw, false, (zer 64).map w32⟩ ∧ s.t 3 = .ptr 256 1 0 ∧ s.σ 256 = ⟨1, .rw, false, (sched b p ++ zer (64 - p)).map w32⟩ ∧ s.t 11 = .int .i64 (p : Int)
def wordsJ (b : List UInt8) (c : SK) (p k : Nat) (s : St) : Prop := k ≤ 4 ∧ s.t 0 = .sl c b.length (b.map u8) ∧ s.t 2 = .ptr 192 1 0 ∧ s.σ 192 = ⟨1, .rw, false, (zer 64).map w32⟩ ∧ s.t 3 = .ptr 256 1 0 ∧ s.σ 256 = ⟨1, .rw, false, (sched b p ++ part b p k :: zer (63 - p)).map w32⟩ ∧ s.t 11 = .int .i64 (p : Int) ∧ s.t 4 = .int .i64 (p : Int) ∧ s.t 14 = .int .i64 (k : Int)
def wordsK (b : List UInt8) (p : Nat) (s : St) : Prop := 16 ≤ p ∧ p ≤ 64 ∧ s.t 2 = .ptr 192 1 0 ∧ s.σ 192 = ⟨1, .rw, false, (zer 64).map w32⟩ ∧ s.t 3 = .ptr 256 1 0 ∧ s.σ 256 = ⟨1, .rw, false, (sched b p ++ zer (64 - p)).map w32⟩ ∧ s.t 6 = .int .i64 (p : Int)
theorem words_ok (b : List UInt8) (c : SK) (hb : b.length = 64) : Gf fns 45 [.sl c b.length (b.map u8)] = some (.agg ((sched b 64).map w32), []) := by
  refine Gf_start rfl rfl ?_
  simp -implicitDefEqProofs (disch := omega) only [go_sem, Nat.reduceAdd, Nat.reduceMul, Nat.reduceSub, Nat.reduceEqDiff, Nat.reduceLT, Nat.reduceLeDiff, reduceIte, reduceCtorEq, Int.reduceLE, Int.reduceLT, Int.reduceGE, Int.reduceGT, Int.reduceAdd, Int.reduceSub, Int.reduceMul, Int.reduceToNat, Int.reduceBEq, Int.reduceBNe, Nat.reduceBEq, Nat.reduceDiv, Nat.reduceMod, Int.reduceNeg, Int.reduceEq, go_sem]
  refine wp_loopS (wordsI b c) (fun p => 16 - p) 0 (by simp -implicitDefEqProofs (disch := omega) only [go_sem, Nat.reduceAdd, Nat.reduceMul, Nat.reduceSub, Nat.reduceEqDiff, Nat.reduceLT, Nat.reduceLeDiff, reduceIte, reduceCtorEq, Int.reduceLE, Int.reduceLT, Int.reduceGE, Int.reduceGT, Int.reduceAdd, Int.reduceSub, Int.reduceMul, Int.reduceToNat, Int.reduceBEq, Int.reduceBNe, Nat.reduceBEq, Nat.reduceDiv, Nat.reduceMod, Int.reduceNeg, Int.reduceEq, wordsI, zer64, sched]) ?_
  rintro p ⟨t, σ⟩ ⟨hp, h0, h2, s2, h3, s3, h11⟩
  simp only at h0 h2 h3 h11 s2 s3
  simp -implicitDefEqProofs (disch := omega) only [go_sem, Nat.reduceAdd, Nat.reduceMul, Nat.reduceSub, Nat.reduceEqDiff, Nat.reduceLT, Nat.reduceLeDiff, reduceIte, reduceCtorEq, Int.reduceLE, Int.reduceLT, Int.reduceGE, Int.reduceGT, Int.reduceAdd, Int.reduceSub, Int.reduceMul, Int.reduceToNat, Int.reduceBEq, Int.reduceBNe, Nat.reduceBEq, Nat.reduceDiv, Nat.reduceMod, Int.reduceNeg, Int.reduceEq, lp45_0, h11]
  refine condC_dec (fun hlt => ?_) (fun hge => ?_)
  · simp -implicitDefEqProofs (disch := omega) only [go_sem, Nat.reduceAdd, Nat.reduceMul, Nat.reduceSub, Nat.reduceEqDiff, Nat.reduceLT, Nat.reduceLeDiff, reduceIte, reduceCtorEq, Int.reduceLE, Int.reduceLT, Int.reduceGE, Int.reduceGT, Int.reduceAdd, Int.reduceSub, Int.reduceMul, Int.reduceToNat, Int.reduceBEq, Int.reduceBNe, Nat.reduceBEq, Nat.reduceDiv, Nat.reduceMod, Int.reduceNeg, Int.reduceEq, h11]
    refine wp_loopS (wordsJ b c p) (fun k => 4 - k) 0 (by
      have e : 64 - p = (63 - p) + 1 := by omega
      simp -implicitDefEqProofs (disch := omega) only [go_sem, Nat.reduceAdd, Nat.reduceMul, Nat.reduceSub, Nat.reduceEqDiff, Nat.reduceLT, Nat.reduceLeDiff, reduceIte, reduceCtorEq, Int.reduceLE, Int.reduceLT, Int.reduceGE, Int.reduceGT, Int.reduceAdd, Int.reduceSub, Int.reduceMul, Int.reduceToNat, Int.reduceBEq, Int.reduceBNe, Nat.reduceBEq, Nat.reduceDiv, Nat.reduceMod, Int.reduceNeg, Int.reduceEq, wordsJ, h0, h2, s2, h3, s3, h11, e, zer_succ, part]) ?_
    rintro k ⟨t, σ⟩ ⟨hk, h0, h2, s2, h3, s3, h11, h4, h14⟩
    simp only at h0 h2 h3 h11 s2 s3 h4 h14
    simp -implicitDefEqProofs (disch := omega) only [go_sem, Nat.reduceAdd, Nat.reduceMul, Nat.reduceSub, Nat.reduceEqDiff, Nat.reduceLT, Nat.reduceLeDiff, reduceIte, reduceCtorEq, Int.reduceLE, Int.reduceLT, Int.reduceGE, Int.reduceGT, Int.reduceAdd, Int.reduceSub, Int.reduceMul, Int.reduceToNat, Int.reduceBEq, Int.reduceBNe, Nat.reduceBEq, Nat.reduceDiv, Nat.reduceMod, Int.reduceNeg, Int.reduceEq, lp45_1, h14]
    refine condC_dec (fun hlt2 => ?_) (fun hge2 => ?_)
    · simp -implicitDefEqProofs (disch := omega) only [go_sem, Nat.reduceAdd, Nat.reduceMul, Nat.reduceSub, Nat.reduceEqDiff, Nat.reduceLT, Nat.reduceLeDiff, reduceIte, reduceCtorEq, Int.reduceLE, Int.reduceLT, Int.reduceGE, Int.reduceGT, Int.reduceAdd, Int.reduceSub, Int.reduceMul, Int.reduceToNat, Int.reduceBEq, Int.reduceBNe, Nat.reduceBEq, Nat.reduceDiv, Nat.reduceMod, Int.reduceNeg, Int.reduceEq, h14]
      refine wp_draw_E ?_
      have hl : (sched b p).length = p := sched_len b p
      have hz : (zer (63 - p)).length = 63 - p := zer_len _
      have hL : (sched b p ++ part b p k :: zer (63 - p)).length = 64 := by simp [hl, hz]; omega
      simp -implicitDefEqProofs (disch := omega) only [go_sem, Nat.reduceAdd, Nat.reduceMul, Nat.reduceSub, Nat.reduceEqDiff, Nat.reduceLT, Nat.reduceLeDiff, reduceIte, reduceCtorEq, Int.reduceLE, Int.reduceLT, Int.reduceGE, Int.reduceGT, Int.reduceAdd, Int.reduceSub, Int.reduceMul, Int.reduceToNat, Int.reduceBEq, Int.reduceBNe, Nat.reduceBEq, Nat.reduceDiv, Nat.reduceMod, Int.reduceNeg, Int.reduceEq, h0, h2, s2, h3, s3, h4, h11, h14, gt_mid, set_mid, hl, hz, hb, hL]
      refine ⟨k + 1, by omega, ?_⟩
      simp -implicitDefEqProofs (disch := omega) only [go_sem, Nat.reduceAdd, Nat.reduceMul, Nat.reduceSub, Nat.reduceEqDiff, Nat.reduceLT, Nat.reduceLeDiff, reduceIte, reduceCtorEq, Int.reduceLE, Int.reduceLT, Int.reduceGE, Int.reduceGT, Int.reduceAdd, Int.reduceSub, Int.reduceMul, Int.reduceToNat, Int.reduceBEq, Int.reduceBNe, Nat.reduceBEq, Nat.reduceDiv, Nat.reduceMod, Int.reduceNeg, Int.reduceEq, wordsJ, h0, h2, s2, h3, s3, h4, h11, h14, hb]
      exact ⟨by omega, rfl⟩
    · obtain rfl : k = 4 := by omega
      simp -implicitDefEqProofs (disch := omega) only [go_sem, Nat.reduceAdd, Nat.reduceMul, Nat.reduceSub, Nat.reduceEqDiff, Nat.reduceLT, Nat.reduceLeDiff, reduceIte, reduceCtorEq, Int.reduceLE, Int.reduceLT, Int.reduceGE, Int.reduceGT, Int.reduceAdd, Int.reduceSub, Int.reduceMul, Int.reduceToNat, Int.reduceBEq, Int.reduceBNe, Nat.reduceBEq, Nat.reduceDiv, Nat.reduceMod, Int.reduceNeg, Int.reduceEq, h0, h2, s2, h3, s3, h4, h11, h14]
      refine ⟨p + 1, by omega, ?_⟩
      have e : sched b (p + 1) ++ zer (64 - (p + 1)) = sched b p ++ part b p 4 :: zer (63 - p) := by
        rw [sched, wnext, if_pos hlt, List.append_assoc, show 64 - (p + 1) = 63 - p by omega]; rfl
      simp -implicitDefEqProofs (disch := omega) only [go_sem, Nat.reduceAdd, Nat.reduceMul, Nat.reduceSub, Nat.reduceEqDiff, Nat.reduceLT, Nat.reduceLeDiff, reduceIte, reduceCtorEq, Int.reduceLE, Int.reduceLT, Int.reduceGE, Int.reduceGT, Int.reduceAdd, Int.reduceSub, Int.reduceMul, Int.reduceToNat, Int.reduceBEq, Int.reduceBNe, Nat.reduceBEq, Nat.reduceDiv, Nat.reduceMod, Int.reduceNeg, Int.reduceEq, wordsI, h0, h2, s2, h3, s3, h4, h11, h14, e]
      omega
  · obtain rfl : p = 16 := by omega
    simp -implicitDefEqProofs (disch := omega) only [go_sem, Nat.reduceAdd, Nat.reduceMul, Nat.reduceSub, Nat.reduceEqDiff, Nat.reduceLT, Nat.reduceLeDiff, reduceIte, reduceCtorEq, Int.reduceLE, Int.reduceLT, Int.reduceGE, Int.reduceGT, Int.reduceAdd, Int.reduceSub, Int.reduceMul, Int.reduceToNat, Int.reduceBEq, Int.reduceBNe, Nat.reduceBEq, Nat.reduceDiv, Nat.reduceMod, Int.reduceNeg, Int.reduceEq, go_sem]
    refine wp_loopS (wordsK b) (fun p => 64 - p) 16 (by simp -implicitDefEqProofs (disch := omega) only [go_sem, Nat.reduceAdd, Nat.reduceMul, Nat.reduceSub, Nat.reduceEqDiff, Nat.reduceLT, Nat.reduceLeDiff, reduceIte, reduceCtorEq, Int.reduceLE, Int.reduceLT, Int.reduceGE, Int.reduceGT, Int.reduceAdd, Int.reduceSub, Int.reduceMul, Int.reduceToNat, Int.reduceBEq, Int.reduceBNe, Nat.reduceBEq, Nat.reduceDiv, Nat.reduceMod, Int.reduceNeg, Int.reduceEq, wordsK, h0, h2, s2, h3, s3]) ?_
    rintro p ⟨t, σ⟩ ⟨hp1, hp2, h2, s2, h3, s3, h6⟩
    simp only at h2 h3 h6 s2 s3
    simp -implicitDefEqProofs (disch := omega) only [go_sem, Nat.reduceAdd, Nat.reduceMul, Nat.reduceSub, Nat.reduceEqDiff, Nat.reduceLT, Nat.reduceLeDiff, reduceIte, reduceCtorEq, Int.reduceLE, Int.reduceLT, Int.reduceGE, Int.reduceGT, Int.reduceAdd, Int.reduceSub, Int.reduceMul, Int.reduceToNat, Int.reduceBEq, Int.reduceBNe, Nat.reduceBEq, Nat.reduceDiv, Nat.reduceMod, Int.reduceNeg, Int.reduceEq, lp45_2, h6]
    refine condC_dec (fun hlt => ?_) (fun hge => ?_)
    · simp -implicitDefEqProofs (disch := omega) only [go_sem, Nat.reduceAdd, Nat.reduceMul, Nat.reduceSub, Nat.reduceEqDiff, Nat.reduceLT, Nat.reduceLeDiff, reduceIte, reduceCtorEq, Int.reduceLE, Int.reduceLT, Int.reduceGE, Int.reduceGT, Int.reduceAdd, Int.reduceSub, Int.reduceMul, Int.reduceToNat, Int.reduceBEq, Int.reduceBNe, Nat.reduceBEq, Nat.reduceDiv, Nat.reduceMod, Int.reduceNeg, Int.reduceEq, h6]
      refine wp_draw_E ?_
      have hl : (sched b p).length = p := sched_len b p
      have hz : (zer (64 - p)).length = 64 - p := zer_len _
      have hL : (sched b p ++ zer (64 - p)).length = 64 := by simp [hl, hz]; omega
      simp -implicitDefEqProofs (disch := omega) only [go_sem, Nat.reduceAdd, Nat.reduceMul, Nat.reduceSub, Nat.reduceEqDiff, Nat.reduceLT, Nat.reduceLeDiff, reduceIte, reduceCtorEq, Int.reduceLE, Int.reduceLT, Int.reduceGE, Int.reduceGT, Int.reduceAdd, Int.reduceSub, Int.reduceMul, Int.reduceToNat, Int.reduceBEq, Int.reduceBNe, Nat.reduceBEq, Nat.reduceDiv, Nat.reduceMod, Int.reduceNeg, Int.reduceEq, h2, s2, h3, s3, h6, gt_left, set_mid, hl, hz, hL, right_lit]
      refine wp_draw_E ?_
      simp -implicitDefEqProofs (disch := omega) only [go_sem, Nat.reduceAdd, Nat.reduceMul, Nat.reduceSub, Nat.reduceEqDiff, Nat.reduceLT, Nat.reduceLeDiff, reduceIte, reduceCtorEq, Int.reduceLE, Int.reduceLT, Int.reduceGE, Int.reduceGT, Int.reduceAdd, Int.reduceSub, Int.reduceMul, Int.reduceToNat, Int.reduceBEq, Int.reduceBNe, Nat.reduceBEq, Nat.reduceDiv, Nat.reduceMod, Int.reduceNeg, Int.reduceEq, h2, s2, h3, s3, h6, gt_left, set_mid, hl, hz, hL, right_lit]
      refine ⟨p + 1, by omega, ?_⟩
      have e : sched b (p + 1) ++ zer (64 - (p + 1)) = (sched b p ++ zer (64 - p)).set p (wnext b (sched b p) p) := by
        rw [sched, show 64 - p = (64 - (p + 1)) + 1 by omega, zer_succ, set_mid (by omega), List.append_assoc]; rfl
      simp -implicitDefEqProofs (disch := omega) only [go_sem, Nat.reduceAdd, Nat.reduceMul, Nat.reduceSub, Nat.reduceEqDiff, Nat.reduceLT, Nat.reduceLeDiff, reduceIte, reduceCtorEq, Int.reduceLE, Int.reduceLT, Int.reduceGE, Int.reduceGT, Int.reduceAdd, Int.reduceSub, Int.reduceMul, Int.reduceToNat, Int.reduceBEq, Int.reduceBNe, Nat.reduceBEq, Nat.reduceDiv, Nat.reduceMod, Int.reduceNeg, Int.reduceEq, wordsK, h2, s2, h3, s3, h6, e, wnext, sig0, sig1]
      omega
    · obtain rfl : p = 64 := by omega
      have hl : (sched b 64).length = 64 := sched_len b 64
      have hz : zer (64 - 64) = [] := rfl
      have hf : splice (List.map w32 (zer 64)) 0 (List.map w32 (sched b 64)) = List.map w32 (sched b 64) := splice_full (by simp [hl, zer_len])
      simp -implicitDefEqProofs (disch := omega) only [go_sem, Nat.reduceAdd, Nat.reduceMul, Nat.reduceSub, Nat.reduceEqDiff, Nat.reduceLT, Nat.reduceLeDiff, reduceIte, reduceCtorEq, Int.reduceLE, Int.reduceLT, Int.reduceGE, Int.reduceGT, Int.reduceAdd, Int.reduceSub, Int.reduceMul, Int.reduceToNat, Int.reduceBEq, Int.reduceBNe, Nat.reduceBEq, Nat.reduceDiv, Nat.reduceMod, Int.reduceNeg, Int.reduceEq, h2, s2, h3, s3, h6, hl, hz, zer_len, hf]
      trace_state
end Go.Vm.Ythfcgllahllkkaa
