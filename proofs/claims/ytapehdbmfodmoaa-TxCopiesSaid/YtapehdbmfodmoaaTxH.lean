/- Transactions: the laws. -/
import Derived.Test.YtapehdbmfodmoaaTxF
set_option linter.unusedSectionVars false
set_option linter.unusedSimpArgs false
set_option linter.unusedVariables false
set_option maxHeartbeats 1000000
set_option maxRecDepth 10000
namespace Go.Vm.Ytapehdbmfodmoaa
open Go.Proofs
theorem decT_back {t : Tn} (h : okTx t = true) : decT (txB t) = (t, 0) := by
  have e := takeT_back h []
  rw [List.append_nil] at e
  have d : (Rd.mk (txB t) (txB t).length 0).end' = ⟨txB t, (txB t).length, 0⟩ := by unfold Rd.end'; rw [if_neg (by simp)]
  unfold decT
  rw [e]
  simp only [d]
  rfl
def tx1 : Tn := ⟨1, 1, [⟨1, [97], [49]⟩]⟩
theorem tx1_ok : okTx tx1 = true := by kernel_rfl
def tx1B : List UInt8 := txB tx1
theorem awake_ok : Gf fns 9 [] = some (.bool true, []) := by
  have e := Encode_ok tx1 .ro (.inl rfl) (by decide) (by intro o ho; simp [tx1] at ho; subst ho; exact ⟨by decide, by decide⟩) (fun h => by cases h)
  rw [if_pos tx1_ok, if_pos tx1_ok] at e
  have hl := txB_len tx1_ok
  have d := Decode_ok tx1B (by show (txB tx1).length ≤ _; omega)
  rw [show decT tx1B = (tx1, 0) from decT_back tx1_ok] at d
  replace e : Gf fns 12 [.agg [.int .u64 1, .int .u64 1, .sl .ro 1 [.int .i64 1, .str [97], .str [49]]]] = some (.tup [.str tx1B, .int .i64 0], []) := e
  replace d : Gf fns 6 [.str tx1B] = some (.tup [.agg [.int .u64 1, .int .u64 1, .osl 3 1 [.int .i64 1, .str [97], .str [49]]], .int .i64 0], []) := d
  refine Gf_start rfl rfl ?_
  simp -implicitDefEqProofs (disch := omega) only [go_sem, Nat.reduceAdd, Nat.reduceMul, Nat.reduceSub, Nat.reduceEqDiff, Nat.reduceLT, Nat.reduceLeDiff, reduceIte, reduceCtorEq, Int.reduceLE, Int.reduceLT, Int.reduceGE, Int.reduceGT, Int.reduceAdd, Int.reduceSub, Int.reduceMul, Int.reduceToNat, Int.reduceBEq, Int.reduceBNe, Nat.reduceBEq, Nat.reduceDiv, Nat.reduceMod, Int.reduceNeg, Int.reduceEq, e, d]
def cut9 (t : Tn) : Tn := ⟨t.c, t.n, t.ops.take 9⟩
theorem cut9_ok (t : Tn) : okTx (cut9 t) = okTx t := by
  rcases Nat.lt_or_ge 9 t.ops.length with h | h
  · have h1 : ¬ t.ops.length ≤ 8 := by omega
    have h2 : ¬ (t.ops.take 9).length ≤ 8 := by simp; omega
    unfold okTx cut9
    simp only [h1, h2, decide_false, Bool.false_and, Bool.and_false]
  · unfold cut9
    rw [take_all h]
theorem cut9_id {t : Tn} (h : okTx t = true) : cut9 t = t := by
  obtain ⟨_, _, h8, _⟩ := okTx_of h
  unfold cut9
  rw [take_all (by omega)]
/-- The reference's check of the reference's transaction. -/
theorem RC_ok (t : Tn) (k : SK) (ho : ∀ o ∈ t.ops, smallO o) : Gf fns 13 [.agg [.int .u64 (t.c.toNat : Int), .int .u64 (t.n.toNat : Int), .sl k (t.ops.take 9).length (rows Opn.v (t.ops.take 9))]] = some (.int .i64 (if okTx t = true then 0 else 40), []) := by
  have h := RCheck_ok (cut9 t) k (by show (t.ops.take 9).length ≤ _; simp; omega) (fun o ho' => ho o (List.mem_of_mem_take ho'))
  rw [cut9_ok] at h
  exact h
theorem txReads_law (s : List UInt8) (hs : s.length ≤ 140737488355328) : fnA (tabW fns) [.bor] ir3 [.str s] (fun q => q = (.bool true, [])) := by
  have hr : (Rd.mk s 0 0).ok := ⟨by simp, hs⟩
  have d := Decode_ok s hs
  have f := FTake_ok _ hr
  have hk := chkTx_ok (rawTx_ok hr).1
  have e := FEnd_ok _ hk.1
  have he : (takeT ⟨s, 0, 0⟩).1 = chkTx (rawTx ⟨s, 0, 0⟩) := rfl
  have hsm := raw_small hr
  unfold decT at d
  rw [he] at d
  have zz : (0 : UInt64).toNat = 0 := rfl
  refine fnA_start rfl ?_
  by_cases h0 : (chkTx (rawTx ⟨s, 0, 0⟩)).end'.err = 0
  · obtain ⟨a1, a2, a3⟩ := take_all_is hs h0
    have hT : (takeT ⟨s, 0, 0⟩).2 = (rawTx ⟨s, 0, 0⟩).2 := by unfold takeT; simp only [a3, if_true]
    rw [if_pos h0, hT] at d
    generalize hc : chkTx (rawTx ⟨s, 0, 0⟩) = c at *
    generalize hT : (rawTx ⟨s, 0, 0⟩).2 = T at *
    generalize c.end' = c2 at *
    have r := Ref_ok T .ro (by omega)
    have b := RBytes4_ok T .ro a1
    have h9 : T.ops.take 9 = T.ops := take_all (by omega)
    rw [a2] at b
    rw [h9] at r
    obtain ⟨_, h1, h8, _⟩ := okTx_of a1
    obtain ⟨tc, n, l⟩ := T
    obtain ⟨cs, ca, ce⟩ := c
    obtain ⟨ds, da, de⟩ := c2
    simp only at h0 h1 h8
    subst h0
    have hl : ¬ l = [] := fun h => by rw [h] at h1; simp at h1
    have hrt := rlen l
    have hl0 : ¬ l.length = 0 := by omega
    have r7 := rro 6 l
    have r6 := rro 5 l
    have r5 := rro 4 l
    simp -implicitDefEqProofs (disch := omega) only [go_sem, Nat.reduceAdd, Nat.reduceMul, Nat.reduceSub, Nat.reduceEqDiff, Nat.reduceLT, Nat.reduceLeDiff, reduceIte, reduceCtorEq, Int.reduceLE, Int.reduceLT, Int.reduceGE, Int.reduceGT, Int.reduceAdd, Int.reduceSub, Int.reduceMul, Int.reduceToNat, Int.reduceBEq, Int.reduceBNe, Nat.reduceBEq, Nat.reduceDiv, Nat.reduceMod, Int.reduceNeg, Int.reduceEq, Rd.v, Tn.v, Tn.os, ownRows, hl] at d f e r b
    simp -implicitDefEqProofs (disch := omega) only [go_sem, Nat.reduceAdd, Nat.reduceMul, Nat.reduceSub, Nat.reduceEqDiff, Nat.reduceLT, Nat.reduceLeDiff, reduceIte, reduceCtorEq, Int.reduceLE, Int.reduceLT, Int.reduceGE, Int.reduceGT, Int.reduceAdd, Int.reduceSub, Int.reduceMul, Int.reduceToNat, Int.reduceBEq, Int.reduceBNe, Nat.reduceBEq, Nat.reduceDiv, Nat.reduceMod, Int.reduceNeg, Int.reduceEq, d, f, e, awake_ok, r7, r6, r5, hl0]
    refine wp_draw_E ?_
    simp -implicitDefEqProofs (disch := omega) only [go_sem, Nat.reduceAdd, Nat.reduceMul, Nat.reduceSub, Nat.reduceEqDiff, Nat.reduceLT, Nat.reduceLeDiff, reduceIte, reduceCtorEq, Int.reduceLE, Int.reduceLT, Int.reduceGE, Int.reduceGT, Int.reduceAdd, Int.reduceSub, Int.reduceMul, Int.reduceToNat, Int.reduceBEq, Int.reduceBNe, Nat.reduceBEq, Nat.reduceDiv, Nat.reduceMod, Int.reduceNeg, Int.reduceEq, r, b, r7, r6, r5, hl0]
  · rw [if_neg h0] at d
    generalize chkTx (rawTx ⟨s, 0, 0⟩) = c at *
    generalize (rawTx ⟨s, 0, 0⟩).2 = T at *
    generalize c.end' = c2 at *
    obtain ⟨tc, n, l⟩ := T
    obtain ⟨cs, ca, ce⟩ := c
    obtain ⟨ds, da, de⟩ := c2
    simp only at h0
    have hrt := rlen l
    have r7 := rro 6 l
    have r6 := rro 5 l
    have r5 := rro 4 l
    by_cases hl : l = []
    · simp -implicitDefEqProofs (disch := omega) only [go_sem, Nat.reduceAdd, Nat.reduceMul, Nat.reduceSub, Nat.reduceEqDiff, Nat.reduceLT, Nat.reduceLeDiff, reduceIte, reduceCtorEq, Int.reduceLE, Int.reduceLT, Int.reduceGE, Int.reduceGT, Int.reduceAdd, Int.reduceSub, Int.reduceMul, Int.reduceToNat, Int.reduceBEq, Int.reduceBNe, Nat.reduceBEq, Nat.reduceDiv, Nat.reduceMod, Int.reduceNeg, Int.reduceEq, Rd.v, Tn.v, zeroT, zz, ownRows, hl] at d f e
      simp -implicitDefEqProofs (disch := omega) only [go_sem, Nat.reduceAdd, Nat.reduceMul, Nat.reduceSub, Nat.reduceEqDiff, Nat.reduceLT, Nat.reduceLeDiff, reduceIte, reduceCtorEq, Int.reduceLE, Int.reduceLT, Int.reduceGE, Int.reduceGT, Int.reduceAdd, Int.reduceSub, Int.reduceMul, Int.reduceToNat, Int.reduceBEq, Int.reduceBNe, Nat.reduceBEq, Nat.reduceDiv, Nat.reduceMod, Int.reduceNeg, Int.reduceEq, d, f, e, awake_ok, h0]
    · have hl0 : ¬ l.length = 0 := by simpa using hl
      simp -implicitDefEqProofs (disch := omega) only [go_sem, Nat.reduceAdd, Nat.reduceMul, Nat.reduceSub, Nat.reduceEqDiff, Nat.reduceLT, Nat.reduceLeDiff, reduceIte, reduceCtorEq, Int.reduceLE, Int.reduceLT, Int.reduceGE, Int.reduceGT, Int.reduceAdd, Int.reduceSub, Int.reduceMul, Int.reduceToNat, Int.reduceBEq, Int.reduceBNe, Nat.reduceBEq, Nat.reduceDiv, Nat.reduceMod, Int.reduceNeg, Int.reduceEq, Rd.v, Tn.v, zeroT, zz, ownRows, hl] at d f e
      simp -implicitDefEqProofs (disch := omega) only [go_sem, Nat.reduceAdd, Nat.reduceMul, Nat.reduceSub, Nat.reduceEqDiff, Nat.reduceLT, Nat.reduceLeDiff, reduceIte, reduceCtorEq, Int.reduceLE, Int.reduceLT, Int.reduceGE, Int.reduceGT, Int.reduceAdd, Int.reduceSub, Int.reduceMul, Int.reduceToNat, Int.reduceBEq, Int.reduceBNe, Nat.reduceBEq, Nat.reduceDiv, Nat.reduceMod, Int.reduceNeg, Int.reduceEq, d, f, e, awake_ok, h0, r7, r6, r5, hl0]
theorem txReads_main (xs : List V) (h : FitsA Try.prog 8 [9] xs) : fnA (tabW fns) ([9].map fun _ => Mode.bor) ir3 xs (fun p => p = (.bool true, [])) := by
  obtain ⟨x, ys, rfl, h1, h⟩ := fitsA_s h
  obtain rfl := fitsA_0 h
  obtain ⟨s, rfl, hs⟩ := fit_str (d := 7) uStr h1
  have := reach_lt
  exact txReads_law s (by omega)
end Go.Vm.Ytapehdbmfodmoaa
