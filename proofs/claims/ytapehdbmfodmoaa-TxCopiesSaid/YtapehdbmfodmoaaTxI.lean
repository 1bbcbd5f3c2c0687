/- Transactions: the laws of bytes and of copies. -/
import Derived.Test.YtapehdbmfodmoaaTxH
set_option linter.unusedSectionVars false
set_option linter.unusedSimpArgs false
set_option linter.unusedVariables false
set_option maxHeartbeats 2000000
set_option maxRecDepth 10000
namespace Go.Vm.Ytapehdbmfodmoaa
open Go.Proofs
theorem txBytes_law (t : Tn) (k : SK) (hk : k = .nil ∨ k = .ro) (hkn : k = .nil → t.ops = []) (hl : t.ops.length ≤ 140737488355328) (ho : ∀ o ∈ t.ops, smallO o) : fnA (tabW fns) [.bor] ir4 [.agg (t.v (t.os k))] (fun q => q = (.bool true, [])) := by
  have e := Encode_ok t k hk.symm hl ho hkn
  have c := Check_ok t k (by rcases hk with rfl | rfl <;> simp) hl ho
  have r := Ref_ok t k hl
  have rc := RC_ok t .ro ho
  have rcn := RC_ok t .nil ho
  refine fnA_start rfl ?_
  cases hx : okTx t
  · rw [hx] at e c rc rcn
    obtain ⟨tc, n, l⟩ := t
    simp only at rc rcn
    have hrt := rlen l
    have hrt9 := rlen (l.take 9)
    rw [List.length_take] at hrt9
    have r7 := rro 6 (l.take 9)
    have r6 := rro 5 (l.take 9)
    by_cases h0 : l = []
    · subst h0
      rw [show ([] : List Opn).take 9 = [] from rfl] at rcn
      simp -implicitDefEqProofs (disch := omega) only [go_sem, Nat.reduceAdd, Nat.reduceMul, Nat.reduceSub, Nat.reduceEqDiff, Nat.reduceLT, Nat.reduceLeDiff, reduceIte, reduceCtorEq, Int.reduceLE, Int.reduceLT, Int.reduceGE, Int.reduceGT, Int.reduceAdd, Int.reduceSub, Int.reduceMul, Int.reduceToNat, Int.reduceBEq, Int.reduceBNe, Nat.reduceBEq, Nat.reduceDiv, Nat.reduceMod, Int.reduceNeg, Int.reduceEq, Tn.v, Tn.os, ownRows, rows_nil] at r
      rcases hk with rfl | rfl
      · simp -implicitDefEqProofs (disch := omega) only [go_sem, Nat.reduceAdd, Nat.reduceMul, Nat.reduceSub, Nat.reduceEqDiff, Nat.reduceLT, Nat.reduceLeDiff, reduceIte, reduceCtorEq, Int.reduceLE, Int.reduceLT, Int.reduceGE, Int.reduceGT, Int.reduceAdd, Int.reduceSub, Int.reduceMul, Int.reduceToNat, Int.reduceBEq, Int.reduceBNe, Nat.reduceBEq, Nat.reduceDiv, Nat.reduceMod, Int.reduceNeg, Int.reduceEq, Tn.v, Tn.os, rows_nil] at e c rcn
        simp -implicitDefEqProofs (disch := omega) only [go_sem, Nat.reduceAdd, Nat.reduceMul, Nat.reduceSub, Nat.reduceEqDiff, Nat.reduceLT, Nat.reduceLeDiff, reduceIte, reduceCtorEq, Int.reduceLE, Int.reduceLT, Int.reduceGE, Int.reduceGT, Int.reduceAdd, Int.reduceSub, Int.reduceMul, Int.reduceToNat, Int.reduceBEq, Int.reduceBNe, Nat.reduceBEq, Nat.reduceDiv, Nat.reduceMod, Int.reduceNeg, Int.reduceEq, Tn.v, Tn.os, rows_nil, e, r, rcn, awake_ok, c]
      · simp -implicitDefEqProofs (disch := omega) only [go_sem, Nat.reduceAdd, Nat.reduceMul, Nat.reduceSub, Nat.reduceEqDiff, Nat.reduceLT, Nat.reduceLeDiff, reduceIte, reduceCtorEq, Int.reduceLE, Int.reduceLT, Int.reduceGE, Int.reduceGT, Int.reduceAdd, Int.reduceSub, Int.reduceMul, Int.reduceToNat, Int.reduceBEq, Int.reduceBNe, Nat.reduceBEq, Nat.reduceDiv, Nat.reduceMod, Int.reduceNeg, Int.reduceEq, Tn.v, Tn.os, rows_nil] at e c rcn
        simp -implicitDefEqProofs (disch := omega) only [go_sem, Nat.reduceAdd, Nat.reduceMul, Nat.reduceSub, Nat.reduceEqDiff, Nat.reduceLT, Nat.reduceLeDiff, reduceIte, reduceCtorEq, Int.reduceLE, Int.reduceLT, Int.reduceGE, Int.reduceGT, Int.reduceAdd, Int.reduceSub, Int.reduceMul, Int.reduceToNat, Int.reduceBEq, Int.reduceBNe, Nat.reduceBEq, Nat.reduceDiv, Nat.reduceMod, Int.reduceNeg, Int.reduceEq, Tn.v, Tn.os, rows_nil, e, r, rcn, awake_ok, c]
    · have h9 : ¬ l.take 9 = [] := by intro h; cases l with | nil => exact h0 rfl | cons => simp at h
      have hl0 : ¬ l.length = 0 := by simpa using h0
      have hl9 : ¬ (l.take 9).length = 0 := by simpa using h9
      obtain rfl : k = .ro := by
        rcases hk with h | h
        · exact absurd (hkn h) h0
        · exact h
      simp -implicitDefEqProofs (disch := omega) only [go_sem, Nat.reduceAdd, Nat.reduceMul, Nat.reduceSub, Nat.reduceEqDiff, Nat.reduceLT, Nat.reduceLeDiff, reduceIte, reduceCtorEq, Int.reduceLE, Int.reduceLT, Int.reduceGE, Int.reduceGT, Int.reduceAdd, Int.reduceSub, Int.reduceMul, Int.reduceToNat, Int.reduceBEq, Int.reduceBNe, Nat.reduceBEq, Nat.reduceDiv, Nat.reduceMod, Int.reduceNeg, Int.reduceEq, Tn.v, Tn.os, ownRows, h9] at e c r rc
      simp -implicitDefEqProofs (disch := omega) only [go_sem, Nat.reduceAdd, Nat.reduceMul, Nat.reduceSub, Nat.reduceEqDiff, Nat.reduceLT, Nat.reduceLeDiff, reduceIte, reduceCtorEq, Int.reduceLE, Int.reduceLT, Int.reduceGE, Int.reduceGT, Int.reduceAdd, Int.reduceSub, Int.reduceMul, Int.reduceToNat, Int.reduceBEq, Int.reduceBNe, Nat.reduceBEq, Nat.reduceDiv, Nat.reduceMod, Int.reduceNeg, Int.reduceEq, Tn.v, Tn.os, e, r, rc, awake_ok, c, r7, r6, hl0, hl9]
  · rw [hx] at e c rc
    obtain ⟨_, h1, h8, _⟩ := okTx_of hx
    obtain rfl : k = .ro := by
      rcases hk with h | h
      · rw [hkn h] at h1; simp at h1
      · exact h
    have h9 : t.ops.take 9 = t.ops := take_all (by omega)
    have lt := txB_len hx
    have hn : ¬ txB t = [] := fun h => by
      have := congrArg List.length h
      unfold txB at this
      simp only [List.length_append, numB_len, List.length_nil] at this
      omega
    have d := Decode_ok (txB t) (by omega)
    rw [decT_back hx] at d
    have p := Put_ok t hx
    have nr := NewReader_ok (txB t ++ [120])
    have tk := Take_ok ⟨txB t ++ [120], 0, 0⟩ ⟨by simp, by rw [List.length_append]; simp; omega⟩
    rw [takeT_back hx [120]] at tk
    have lf := Left_ok ⟨txB t ++ [120], (txB t).length, 0⟩ ⟨by simp, by rw [List.length_append]; simp; omega⟩
    have a := All_ok (txB t) (by omega)
    have sm := Same_ok t t (by omega) (by omega) .ro .ro
    have i1 := ID_ok t hx
    have i2 := RID_ok t hx
    have b := RBytes4_ok t .ro hx
    have el : (txB t ++ [120]).length - (txB t).length = 1 := by simp
    simp only [el] at lf
    rw [h9] at rc r
    obtain ⟨tc, n, l⟩ := t
    simp only at h1 h8
    have hrt := rlen l
    have hl : ¬ l = [] := fun h => by rw [h] at h1; simp at h1
    have hl0 : ¬ l.length = 0 := by omega
    have r7 := rro 6 l
    have r6 := rro 5 l
    have r5 := rro 4 l
    simp -implicitDefEqProofs (disch := omega) only [go_sem, Nat.reduceAdd, Nat.reduceMul, Nat.reduceSub, Nat.reduceEqDiff, Nat.reduceLT, Nat.reduceLeDiff, reduceIte, reduceCtorEq, Int.reduceLE, Int.reduceLT, Int.reduceGE, Int.reduceGT, Int.reduceAdd, Int.reduceSub, Int.reduceMul, Int.reduceToNat, Int.reduceBEq, Int.reduceBNe, Nat.reduceBEq, Nat.reduceDiv, Nat.reduceMod, Int.reduceNeg, Int.reduceEq, Tn.v, Tn.os, ownRows, hl, Rd.v, hn] at e c r rc d p nr tk lf a sm i1 i2 b
    simp -implicitDefEqProofs (disch := omega) only [go_sem, Nat.reduceAdd, Nat.reduceMul, Nat.reduceSub, Nat.reduceEqDiff, Nat.reduceLT, Nat.reduceLeDiff, reduceIte, reduceCtorEq, Int.reduceLE, Int.reduceLT, Int.reduceGE, Int.reduceGT, Int.reduceAdd, Int.reduceSub, Int.reduceMul, Int.reduceToNat, Int.reduceBEq, Int.reduceBNe, Nat.reduceBEq, Nat.reduceDiv, Nat.reduceMod, Int.reduceNeg, Int.reduceEq, Tn.v, Tn.os, e, r, rc, awake_ok, c, r7, r6, r5, hl0, d, NewWriter_ok, wrV]
    refine contC_ex (wcall (f := 16) rfl [] (txB ⟨tc, n, l⟩) _ 1 [] (.inl ⟨rfl, by simp -implicitDefEqProofs (disch := omega) only [go_sem, Nat.reduceAdd, Nat.reduceMul, Nat.reduceSub, Nat.reduceEqDiff, Nat.reduceLT, Nat.reduceLeDiff, reduceIte, reduceCtorEq, Int.reduceLE, Int.reduceLT, Int.reduceGE, Int.reduceGT, Int.reduceAdd, Int.reduceSub, Int.reduceMul, Int.reduceToNat, Int.reduceBEq, Int.reduceBNe, Nat.reduceBEq, Nat.reduceDiv, Nat.reduceMod, Int.reduceNeg, Int.reduceEq, go_sem]⟩) (by simp) (by simp -implicitDefEqProofs (disch := omega) only [go_sem, Nat.reduceAdd, Nat.reduceMul, Nat.reduceSub, Nat.reduceEqDiff, Nat.reduceLT, Nat.reduceLeDiff, reduceIte, reduceCtorEq, Int.reduceLE, Int.reduceLT, Int.reduceGE, Int.reduceGT, Int.reduceAdd, Int.reduceSub, Int.reduceMul, Int.reduceToNat, Int.reduceBEq, Int.reduceBNe, Nat.reduceBEq, Nat.reduceDiv, Nat.reduceMod, Int.reduceNeg, Int.reduceEq, go_sem]) p (fun k σ' => by simp -implicitDefEqProofs (disch := omega) only [go_sem, Nat.reduceAdd, Nat.reduceMul, Nat.reduceSub, Nat.reduceEqDiff, Nat.reduceLT, Nat.reduceLeDiff, reduceIte, reduceCtorEq, Int.reduceLE, Int.reduceLT, Int.reduceGE, Int.reduceGT, Int.reduceAdd, Int.reduceSub, Int.reduceMul, Int.reduceToNat, Int.reduceBEq, Int.reduceBNe, Nat.reduceBEq, Nat.reduceDiv, Nat.reduceMod, Int.reduceNeg, Int.reduceEq, go_sem])) ?_
    rintro σ4 ⟨hs4, e4⟩
    have f1 := e4 128 (by simp) (by simp) (by simp)
    have f6 := e4 448 (by simp) (by simp) (by simp)
    have fb := e4 2496 (by simp) (by simp) (by simp)
    simp -implicitDefEqProofs (disch := omega) only [go_sem, Nat.reduceAdd, Nat.reduceMul, Nat.reduceSub, Nat.reduceEqDiff, Nat.reduceLT, Nat.reduceLeDiff, reduceIte, reduceCtorEq, Int.reduceLE, Int.reduceLT, Int.reduceGE, Int.reduceGT, Int.reduceAdd, Int.reduceSub, Int.reduceMul, Int.reduceToNat, Int.reduceBEq, Int.reduceBNe, Nat.reduceBEq, Nat.reduceDiv, Nat.reduceMod, Int.reduceNeg, Int.reduceEq, go_sem] at f1 f6 fb
    rcases hs4 with ⟨hx2, _⟩ | ⟨_, q, gq, hq, w1, w2⟩
    · exact absurd hx2 hn
    · obtain rfl : q = 2880 := by simpa using hq
      simp -implicitDefEqProofs (disch := omega) only [go_sem, Nat.reduceAdd, Nat.reduceMul, Nat.reduceSub, Nat.reduceEqDiff, Nat.reduceLT, Nat.reduceLeDiff, reduceIte, reduceCtorEq, Int.reduceLE, Int.reduceLT, Int.reduceGE, Int.reduceGT, Int.reduceAdd, Int.reduceSub, Int.reduceMul, Int.reduceToNat, Int.reduceBEq, Int.reduceBNe, Nat.reduceBEq, Nat.reduceDiv, Nat.reduceMod, Int.reduceNeg, Int.reduceEq, nr, callr18, tk, r7, r6, r5, hl0]
      refine wp_draw_E ?_
      simp -implicitDefEqProofs (disch := omega) only [go_sem, Nat.reduceAdd, Nat.reduceMul, Nat.reduceSub, Nat.reduceEqDiff, Nat.reduceLT, Nat.reduceLeDiff, reduceIte, reduceCtorEq, Int.reduceLE, Int.reduceLT, Int.reduceGE, Int.reduceGT, Int.reduceAdd, Int.reduceSub, Int.reduceMul, Int.reduceToNat, Int.reduceBEq, Int.reduceBNe, Nat.reduceBEq, Nat.reduceDiv, Nat.reduceMod, Int.reduceNeg, Int.reduceEq, f1, f6, fb, w1, w2, r7, r6, r5, hl0, r, b, a, sm, lf, i1, i2]
theorem set_row (x : Opn) (l : List Opn) (v : List UInt8) : (rows Opn.v (x :: l)).set 1 (.str v) = rows Opn.v (⟨x.kind, v, x.val⟩ :: l) := rfl
theorem txCopies_law (a b : Tn) (ka kb : SK) (hka : ka = .nil ∨ ka = .ro) (hkb : kb = .nil ∨ kb = .ro) (hkan : ka = .nil → a.ops = []) (hkbn : kb = .nil → b.ops = []) (hla : a.ops.length ≤ 140737488355328) (hlb : b.ops.length ≤ 140737488355328) (hoa : ∀ o ∈ a.ops, smallO o) (hob : ∀ o ∈ b.ops, smallO o) :
    fnA (tabW fns) [.bor, .bor] ir5 [.agg (a.v (a.os ka)), .agg (b.v (b.os kb))] (fun q => q = (.bool true, [])) := by
  have ra := Ref_ok a ka hla
  have rca := RC_ok a .ro hoa
  have rcan := RC_ok a .nil hoa
  have rb := Ref_ok b kb hlb
  have rcb := RC_ok b .ro hob
  have rcbn := RC_ok b .nil hob
  refine fnA_start rfl ?_
  cases hx : okTx a
  · rw [hx] at rca rcan
    obtain ⟨tc, n, l⟩ := a
    obtain ⟨bc, bn, bl⟩ := b
    simp only at rcan
    have hrt := rlen l
    have hrt9 := rlen (l.take 9)
    rw [List.length_take] at hrt9
    have r7 := rro 6 (l.take 9)
    have r6 := rro 5 (l.take 9)
    by_cases h0 : l = []
    · subst h0
      rw [show ([] : List Opn).take 9 = [] from rfl] at rcan
      simp -implicitDefEqProofs (disch := omega) only [go_sem, Nat.reduceAdd, Nat.reduceMul, Nat.reduceSub, Nat.reduceEqDiff, Nat.reduceLT, Nat.reduceLeDiff, reduceIte, reduceCtorEq, Int.reduceLE, Int.reduceLT, Int.reduceGE, Int.reduceGT, Int.reduceAdd, Int.reduceSub, Int.reduceMul, Int.reduceToNat, Int.reduceBEq, Int.reduceBNe, Nat.reduceBEq, Nat.reduceDiv, Nat.reduceMod, Int.reduceNeg, Int.reduceEq, Tn.v, Tn.os, ownRows, rows_nil] at ra
      rcases hka with rfl | rfl
      · simp -implicitDefEqProofs (disch := omega) only [go_sem, Nat.reduceAdd, Nat.reduceMul, Nat.reduceSub, Nat.reduceEqDiff, Nat.reduceLT, Nat.reduceLeDiff, reduceIte, reduceCtorEq, Int.reduceLE, Int.reduceLT, Int.reduceGE, Int.reduceGT, Int.reduceAdd, Int.reduceSub, Int.reduceMul, Int.reduceToNat, Int.reduceBEq, Int.reduceBNe, Nat.reduceBEq, Nat.reduceDiv, Nat.reduceMod, Int.reduceNeg, Int.reduceEq, Tn.v, Tn.os, rows_nil] at rcan
        rcases hkb with rfl | rfl
        · simp -implicitDefEqProofs (disch := omega) only [go_sem, Nat.reduceAdd, Nat.reduceMul, Nat.reduceSub, Nat.reduceEqDiff, Nat.reduceLT, Nat.reduceLeDiff, reduceIte, reduceCtorEq, Int.reduceLE, Int.reduceLT, Int.reduceGE, Int.reduceGT, Int.reduceAdd, Int.reduceSub, Int.reduceMul, Int.reduceToNat, Int.reduceBEq, Int.reduceBNe, Nat.reduceBEq, Nat.reduceDiv, Nat.reduceMod, Int.reduceNeg, Int.reduceEq, Tn.v, Tn.os, rows_nil, ra, rcan, awake_ok]
        · simp -implicitDefEqProofs (disch := omega) only [go_sem, Nat.reduceAdd, Nat.reduceMul, Nat.reduceSub, Nat.reduceEqDiff, Nat.reduceLT, Nat.reduceLeDiff, reduceIte, reduceCtorEq, Int.reduceLE, Int.reduceLT, Int.reduceGE, Int.reduceGT, Int.reduceAdd, Int.reduceSub, Int.reduceMul, Int.reduceToNat, Int.reduceBEq, Int.reduceBNe, Nat.reduceBEq, Nat.reduceDiv, Nat.reduceMod, Int.reduceNeg, Int.reduceEq, Tn.v, Tn.os, rows_nil, ra, rcan, awake_ok]
      · simp -implicitDefEqProofs (disch := omega) only [go_sem, Nat.reduceAdd, Nat.reduceMul, Nat.reduceSub, Nat.reduceEqDiff, Nat.reduceLT, Nat.reduceLeDiff, reduceIte, reduceCtorEq, Int.reduceLE, Int.reduceLT, Int.reduceGE, Int.reduceGT, Int.reduceAdd, Int.reduceSub, Int.reduceMul, Int.reduceToNat, Int.reduceBEq, Int.reduceBNe, Nat.reduceBEq, Nat.reduceDiv, Nat.reduceMod, Int.reduceNeg, Int.reduceEq, Tn.v, Tn.os, rows_nil] at rcan
        rcases hkb with rfl | rfl
        · simp -implicitDefEqProofs (disch := omega) only [go_sem, Nat.reduceAdd, Nat.reduceMul, Nat.reduceSub, Nat.reduceEqDiff, Nat.reduceLT, Nat.reduceLeDiff, reduceIte, reduceCtorEq, Int.reduceLE, Int.reduceLT, Int.reduceGE, Int.reduceGT, Int.reduceAdd, Int.reduceSub, Int.reduceMul, Int.reduceToNat, Int.reduceBEq, Int.reduceBNe, Nat.reduceBEq, Nat.reduceDiv, Nat.reduceMod, Int.reduceNeg, Int.reduceEq, Tn.v, Tn.os, rows_nil, ra, rcan, awake_ok]
        · simp -implicitDefEqProofs (disch := omega) only [go_sem, Nat.reduceAdd, Nat.reduceMul, Nat.reduceSub, Nat.reduceEqDiff, Nat.reduceLT, Nat.reduceLeDiff, reduceIte, reduceCtorEq, Int.reduceLE, Int.reduceLT, Int.reduceGE, Int.reduceGT, Int.reduceAdd, Int.reduceSub, Int.reduceMul, Int.reduceToNat, Int.reduceBEq, Int.reduceBNe, Nat.reduceBEq, Nat.reduceDiv, Nat.reduceMod, Int.reduceNeg, Int.reduceEq, Tn.v, Tn.os, rows_nil, ra, rcan, awake_ok]
    · have h9 : ¬ l.take 9 = [] := by intro h; cases l with | nil => exact h0 rfl | cons => simp at h
      have hl0 : ¬ l.length = 0 := by simpa using h0
      have hl9 : ¬ (l.take 9).length = 0 := by simpa using h9
      obtain rfl : ka = .ro := by
        rcases hka with h | h
        · exact absurd (hkan h) h0
        · exact h
      simp -implicitDefEqProofs (disch := omega) only [go_sem, Nat.reduceAdd, Nat.reduceMul, Nat.reduceSub, Nat.reduceEqDiff, Nat.reduceLT, Nat.reduceLeDiff, reduceIte, reduceCtorEq, Int.reduceLE, Int.reduceLT, Int.reduceGE, Int.reduceGT, Int.reduceAdd, Int.reduceSub, Int.reduceMul, Int.reduceToNat, Int.reduceBEq, Int.reduceBNe, Nat.reduceBEq, Nat.reduceDiv, Nat.reduceMod, Int.reduceNeg, Int.reduceEq, Tn.v, Tn.os, ownRows, h9] at ra rca
      rcases hkb with rfl | rfl
      · simp -implicitDefEqProofs (disch := omega) only [go_sem, Nat.reduceAdd, Nat.reduceMul, Nat.reduceSub, Nat.reduceEqDiff, Nat.reduceLT, Nat.reduceLeDiff, reduceIte, reduceCtorEq, Int.reduceLE, Int.reduceLT, Int.reduceGE, Int.reduceGT, Int.reduceAdd, Int.reduceSub, Int.reduceMul, Int.reduceToNat, Int.reduceBEq, Int.reduceBNe, Nat.reduceBEq, Nat.reduceDiv, Nat.reduceMod, Int.reduceNeg, Int.reduceEq, Tn.v, Tn.os, ra, rca, awake_ok, r7, r6, hl0, hl9]
      · simp -implicitDefEqProofs (disch := omega) only [go_sem, Nat.reduceAdd, Nat.reduceMul, Nat.reduceSub, Nat.reduceEqDiff, Nat.reduceLT, Nat.reduceLeDiff, reduceIte, reduceCtorEq, Int.reduceLE, Int.reduceLT, Int.reduceGE, Int.reduceGT, Int.reduceAdd, Int.reduceSub, Int.reduceMul, Int.reduceToNat, Int.reduceBEq, Int.reduceBNe, Nat.reduceBEq, Nat.reduceDiv, Nat.reduceMod, Int.reduceNeg, Int.reduceEq, Tn.v, Tn.os, ra, rca, awake_ok, r7, r6, hl0, hl9]
  obtain ⟨_, h1, h8, hoka⟩ := okTx_of hx
  obtain rfl : ka = .ro := by
    rcases hka with h | h
    · rw [hkan h] at h1; simp at h1
    · exact h
  rw [hx] at rca
  have h9a : a.ops.take 9 = a.ops := take_all (by omega)
  rw [h9a] at ra rca
  cases hy : okTx b
  · rw [hy] at rcb rcbn
    obtain ⟨tc, n, l⟩ := b
    obtain ⟨ac, an, al⟩ := a
    simp only at rcbn h1 h8
    have hal : ¬ al = [] := fun h => by rw [h] at h1; simp at h1
    have hal0 : ¬ al.length = 0 := by omega
    have hart := rlen al
    have a7 := rro 6 al
    have a6 := rro 5 al
    simp -implicitDefEqProofs (disch := omega) only [go_sem, Nat.reduceAdd, Nat.reduceMul, Nat.reduceSub, Nat.reduceEqDiff, Nat.reduceLT, Nat.reduceLeDiff, reduceIte, reduceCtorEq, Int.reduceLE, Int.reduceLT, Int.reduceGE, Int.reduceGT, Int.reduceAdd, Int.reduceSub, Int.reduceMul, Int.reduceToNat, Int.reduceBEq, Int.reduceBNe, Nat.reduceBEq, Nat.reduceDiv, Nat.reduceMod, Int.reduceNeg, Int.reduceEq, Tn.v, Tn.os, ownRows, hal] at ra rca
    have hrt := rlen l
    have hrt9 := rlen (l.take 9)
    rw [List.length_take] at hrt9
    have r7 := rro 6 (l.take 9)
    have r6 := rro 5 (l.take 9)
    by_cases h0 : l = []
    · subst h0
      rw [show ([] : List Opn).take 9 = [] from rfl] at rcbn
      simp -implicitDefEqProofs (disch := omega) only [go_sem, Nat.reduceAdd, Nat.reduceMul, Nat.reduceSub, Nat.reduceEqDiff, Nat.reduceLT, Nat.reduceLeDiff, reduceIte, reduceCtorEq, Int.reduceLE, Int.reduceLT, Int.reduceGE, Int.reduceGT, Int.reduceAdd, Int.reduceSub, Int.reduceMul, Int.reduceToNat, Int.reduceBEq, Int.reduceBNe, Nat.reduceBEq, Nat.reduceDiv, Nat.reduceMod, Int.reduceNeg, Int.reduceEq, Tn.v, Tn.os, ownRows, rows_nil] at rb
      rcases hkb with rfl | rfl
      · simp -implicitDefEqProofs (disch := omega) only [go_sem, Nat.reduceAdd, Nat.reduceMul, Nat.reduceSub, Nat.reduceEqDiff, Nat.reduceLT, Nat.reduceLeDiff, reduceIte, reduceCtorEq, Int.reduceLE, Int.reduceLT, Int.reduceGE, Int.reduceGT, Int.reduceAdd, Int.reduceSub, Int.reduceMul, Int.reduceToNat, Int.reduceBEq, Int.reduceBNe, Nat.reduceBEq, Nat.reduceDiv, Nat.reduceMod, Int.reduceNeg, Int.reduceEq, Tn.v, Tn.os, rows_nil] at rcbn
        simp -implicitDefEqProofs (disch := omega) only [go_sem, Nat.reduceAdd, Nat.reduceMul, Nat.reduceSub, Nat.reduceEqDiff, Nat.reduceLT, Nat.reduceLeDiff, reduceIte, reduceCtorEq, Int.reduceLE, Int.reduceLT, Int.reduceGE, Int.reduceGT, Int.reduceAdd, Int.reduceSub, Int.reduceMul, Int.reduceToNat, Int.reduceBEq, Int.reduceBNe, Nat.reduceBEq, Nat.reduceDiv, Nat.reduceMod, Int.reduceNeg, Int.reduceEq, Tn.v, Tn.os, rows_nil, ra, rca, rb, rcbn, awake_ok, a7, a6, hal0]
      · simp -implicitDefEqProofs (disch := omega) only [go_sem, Nat.reduceAdd, Nat.reduceMul, Nat.reduceSub, Nat.reduceEqDiff, Nat.reduceLT, Nat.reduceLeDiff, reduceIte, reduceCtorEq, Int.reduceLE, Int.reduceLT, Int.reduceGE, Int.reduceGT, Int.reduceAdd, Int.reduceSub, Int.reduceMul, Int.reduceToNat, Int.reduceBEq, Int.reduceBNe, Nat.reduceBEq, Nat.reduceDiv, Nat.reduceMod, Int.reduceNeg, Int.reduceEq, Tn.v, Tn.os, rows_nil] at rcbn
        simp -implicitDefEqProofs (disch := omega) only [go_sem, Nat.reduceAdd, Nat.reduceMul, Nat.reduceSub, Nat.reduceEqDiff, Nat.reduceLT, Nat.reduceLeDiff, reduceIte, reduceCtorEq, Int.reduceLE, Int.reduceLT, Int.reduceGE, Int.reduceGT, Int.reduceAdd, Int.reduceSub, Int.reduceMul, Int.reduceToNat, Int.reduceBEq, Int.reduceBNe, Nat.reduceBEq, Nat.reduceDiv, Nat.reduceMod, Int.reduceNeg, Int.reduceEq, Tn.v, Tn.os, rows_nil, ra, rca, rb, rcbn, awake_ok, a7, a6, hal0]
    · have h9 : ¬ l.take 9 = [] := by intro h; cases l with | nil => exact h0 rfl | cons => simp at h
      have hl0 : ¬ l.length = 0 := by simpa using h0
      have hl9 : ¬ (l.take 9).length = 0 := by simpa using h9
      obtain rfl : kb = .ro := by
        rcases hkb with h | h
        · exact absurd (hkbn h) h0
        · exact h
      simp -implicitDefEqProofs (disch := omega) only [go_sem, Nat.reduceAdd, Nat.reduceMul, Nat.reduceSub, Nat.reduceEqDiff, Nat.reduceLT, Nat.reduceLeDiff, reduceIte, reduceCtorEq, Int.reduceLE, Int.reduceLT, Int.reduceGE, Int.reduceGT, Int.reduceAdd, Int.reduceSub, Int.reduceMul, Int.reduceToNat, Int.reduceBEq, Int.reduceBNe, Nat.reduceBEq, Nat.reduceDiv, Nat.reduceMod, Int.reduceNeg, Int.reduceEq, Tn.v, Tn.os, ownRows, h9] at rb rcb
      simp -implicitDefEqProofs (disch := omega) only [go_sem, Nat.reduceAdd, Nat.reduceMul, Nat.reduceSub, Nat.reduceEqDiff, Nat.reduceLT, Nat.reduceLeDiff, reduceIte, reduceCtorEq, Int.reduceLE, Int.reduceLT, Int.reduceGE, Int.reduceGT, Int.reduceAdd, Int.reduceSub, Int.reduceMul, Int.reduceToNat, Int.reduceBEq, Int.reduceBNe, Nat.reduceBEq, Nat.reduceDiv, Nat.reduceMod, Int.reduceNeg, Int.reduceEq, Tn.v, Tn.os, ra, rca, rb, rcb, awake_ok, r7, r6, hl0, hl9, a7, a6, hal0]
  obtain ⟨_, j1, j8, hokb⟩ := okTx_of hy
  obtain rfl : kb = .ro := by
    rcases hkb with h | h
    · rw [hkbn h] at j1; simp at j1
    · exact h
  rw [hy] at rcb
  have h9b : b.ops.take 9 = b.ops := take_all (by omega)
  rw [h9b] at rb rcb
  have ba := RBytes4_ok a .ro hx
  have bb := RBytes4_ok b .ro hy
  have cl := TClone_ok a hx
  have s1 := Same_ok a b (by omega) (by omega) .ro .ro
  have s2 := Same_ok a a (by omega) (by omega) .ro .ro
  have i1 := ID_ok a hx
  have i2 := ID_ok b hy
  have eb := bytesT_inj hx hy
  obtain ⟨ac, an, al⟩ := a
  cases al with
  | nil => simp at h1
  | cons x al =>
  have hkx := okOp_of (hoka x (by simp))
  have s3 := Same_ok ⟨ac, an, x :: al⟩ ⟨ac, an, ⟨x.kind, x.key ++ [120], x.val⟩ :: al⟩ (by simp only; omega) (by simp only [List.length_cons] at h8 ⊢; omega) .ro .ro
  have n3 : ¬ (⟨ac, an, x :: al⟩ : Tn) = ⟨ac, an, ⟨x.kind, x.key ++ [120], x.val⟩ :: al⟩ := fun h => by
    injection h with _ _ h
    injection h with h _
    have := congrArg Opn.key h
    have := congrArg List.length this
    simp at this
  have cx : (rows Opn.v (x :: al))[1]? = some (.str x.key) := rfl
  have sx := set_row x al (x.key ++ [120])
  have hca := rlen (⟨x.kind, x.key ++ [120], x.val⟩ :: al)
  have q7 := rro 6 (⟨x.kind, x.key ++ [120], x.val⟩ :: al)
  have q6 := rro 5 (⟨x.kind, x.key ++ [120], x.val⟩ :: al)
  have q5 := rro 4 (⟨x.kind, x.key ++ [120], x.val⟩ :: al)
  have el : (⟨x.kind, x.key ++ [120], x.val⟩ :: al : List Opn).length = (x :: al).length := rfl
  rw [el] at hca
  generalize hY : (⟨x.kind, x.key ++ [120], x.val⟩ :: al : List Opn) = yl at *
  generalize hX : x :: al = xl at *
  obtain ⟨bc, bn, bl⟩ := b
  simp only at h1 h8 j1 j8
  have hal : ¬ xl = [] := fun h => by rw [h] at h1; simp at h1
  have hal0 : ¬ xl.length = 0 := by omega
  have hbl : ¬ bl = [] := fun h => by rw [h] at j1; simp at j1
  have hbl0 : ¬ bl.length = 0 := by omega
  have hart := rlen xl
  have hbrt := rlen bl
  have a7 := rro 6 xl
  have a6 := rro 5 xl
  have a5 := rro 4 xl
  have b7 := rro 6 bl
  have b6 := rro 5 bl
  have b5 := rro 4 bl
  rw [show (decide ((⟨ac, an, xl⟩ : Tn) = ⟨ac, an, yl⟩)) = false from decide_eq_false n3] at s3
  have id2 : (⟨ac, an, xl⟩ : Tn) = ⟨bc, bn, bl⟩ → idT ⟨ac, an, xl⟩ = idT ⟨bc, bn, bl⟩ := fun h => by rw [h]
  generalize idT ⟨ac, an, xl⟩ = ia at *
  generalize idT ⟨bc, bn, bl⟩ = ib at *
  simp -implicitDefEqProofs (disch := omega) only [go_sem, Nat.reduceAdd, Nat.reduceMul, Nat.reduceSub, Nat.reduceEqDiff, Nat.reduceLT, Nat.reduceLeDiff, reduceIte, reduceCtorEq, Int.reduceLE, Int.reduceLT, Int.reduceGE, Int.reduceGT, Int.reduceAdd, Int.reduceSub, Int.reduceMul, Int.reduceToNat, Int.reduceBEq, Int.reduceBNe, Nat.reduceBEq, Nat.reduceDiv, Nat.reduceMod, Int.reduceNeg, Int.reduceEq, Tn.v, Tn.os, ownRows, hal, hbl, el] at ra rca rb rcb ba bb cl s1 s2 s3 i1 i2
  by_cases hs : (⟨ac, an, xl⟩ : Tn) = ⟨bc, bn, bl⟩
  · have hs2 := id2 hs
    simp -implicitDefEqProofs (disch := omega) only [go_sem, Nat.reduceAdd, Nat.reduceMul, Nat.reduceSub, Nat.reduceEqDiff, Nat.reduceLT, Nat.reduceLeDiff, reduceIte, reduceCtorEq, Int.reduceLE, Int.reduceLT, Int.reduceGE, Int.reduceGT, Int.reduceAdd, Int.reduceSub, Int.reduceMul, Int.reduceToNat, Int.reduceBEq, Int.reduceBNe, Nat.reduceBEq, Nat.reduceDiv, Nat.reduceMod, Int.reduceNeg, Int.reduceEq, Tn.v, Tn.os, ra, rca, rb, rcb, a7, a6, a5, b7, b6, b5, hal0, hbl0]
    refine wp_draw_E ?_
    simp -implicitDefEqProofs (disch := omega) only [go_sem, Nat.reduceAdd, Nat.reduceMul, Nat.reduceSub, Nat.reduceEqDiff, Nat.reduceLT, Nat.reduceLeDiff, reduceIte, reduceCtorEq, Int.reduceLE, Int.reduceLT, Int.reduceGE, Int.reduceGT, Int.reduceAdd, Int.reduceSub, Int.reduceMul, Int.reduceToNat, Int.reduceBEq, Int.reduceBNe, Nat.reduceBEq, Nat.reduceDiv, Nat.reduceMod, Int.reduceNeg, Int.reduceEq, ra, rb, ba, bb, cl, eb, hs, awake_ok, s1, s2, a7, a6, a5, b7, b6, b5, hal0, hbl0, cx, sx]
    refine wp_draw_E ?_
    simp -implicitDefEqProofs (disch := omega) only [go_sem, Nat.reduceAdd, Nat.reduceMul, Nat.reduceSub, Nat.reduceEqDiff, Nat.reduceLT, Nat.reduceLeDiff, reduceIte, reduceCtorEq, Int.reduceLE, Int.reduceLT, Int.reduceGE, Int.reduceGT, Int.reduceAdd, Int.reduceSub, Int.reduceMul, Int.reduceToNat, Int.reduceBEq, Int.reduceBNe, Nat.reduceBEq, Nat.reduceDiv, Nat.reduceMod, Int.reduceNeg, Int.reduceEq, s3, q7, q6, q5, a7, a6, a5, hal0, i1, i2, hs2]
  · simp -implicitDefEqProofs (disch := omega) only [go_sem, Nat.reduceAdd, Nat.reduceMul, Nat.reduceSub, Nat.reduceEqDiff, Nat.reduceLT, Nat.reduceLeDiff, reduceIte, reduceCtorEq, Int.reduceLE, Int.reduceLT, Int.reduceGE, Int.reduceGT, Int.reduceAdd, Int.reduceSub, Int.reduceMul, Int.reduceToNat, Int.reduceBEq, Int.reduceBNe, Nat.reduceBEq, Nat.reduceDiv, Nat.reduceMod, Int.reduceNeg, Int.reduceEq, Tn.v, Tn.os, ra, rca, rb, rcb, a7, a6, a5, b7, b6, b5, hal0, hbl0]
    refine wp_draw_E ?_
    simp -implicitDefEqProofs (disch := omega) only [go_sem, Nat.reduceAdd, Nat.reduceMul, Nat.reduceSub, Nat.reduceEqDiff, Nat.reduceLT, Nat.reduceLeDiff, reduceIte, reduceCtorEq, Int.reduceLE, Int.reduceLT, Int.reduceGE, Int.reduceGT, Int.reduceAdd, Int.reduceSub, Int.reduceMul, Int.reduceToNat, Int.reduceBEq, Int.reduceBNe, Nat.reduceBEq, Nat.reduceDiv, Nat.reduceMod, Int.reduceNeg, Int.reduceEq, ra, rb, ba, bb, cl, eb, hs, awake_ok, s1, s2, a7, a6, a5, b7, b6, b5, hal0, hbl0, cx, sx]
    refine wp_draw_E ?_
    simp -implicitDefEqProofs (disch := omega) only [go_sem, Nat.reduceAdd, Nat.reduceMul, Nat.reduceSub, Nat.reduceEqDiff, Nat.reduceLT, Nat.reduceLeDiff, reduceIte, reduceCtorEq, Int.reduceLE, Int.reduceLT, Int.reduceGE, Int.reduceGT, Int.reduceAdd, Int.reduceSub, Int.reduceMul, Int.reduceToNat, Int.reduceBEq, Int.reduceBNe, Nat.reduceBEq, Nat.reduceDiv, Nat.reduceMod, Int.reduceNeg, Int.reduceEq, s3, q7, q6, q5, a7, a6, a5, hal0, i1, i2]
theorem tTx : tysOf Try.prog 25 = some [22, 22, 23] := by kernel_rfl
theorem tOp : tysOf Try.prog 58 = some [3, 9, 9] := by kernel_rfl
theorem uOps : Try.prog.underlying 23 = some (.slice 58) := by kernel_rfl
theorem bOp : Try.prog.bytesOf 58 = 40 := by kernel_rfl
theorem fit_op {d : Nat} {r : List V} (h : Fits Try.prog (d + 2) 58 r) : ∃ o : Opn, r = o.v ∧ smallO o := by
  have := reach_lt
  obtain ⟨a1, b1, rfl, h1, a2, b2, rfl, h2, a3, b3, rfl, h3, rfl⟩ := fits_struct tOp h
  obtain ⟨k, rfl, _⟩ := fits_int uInt h1
  obtain ⟨x, rfl, hx⟩ := fits_str uStr h2
  obtain ⟨y, rfl, hy⟩ := fits_str uStr h3
  exact ⟨⟨k, x, y⟩, rfl, by simp only; omega, by simp only; omega⟩
theorem fitL_tx {d : Nat} {vs : List V} (h : FitsL Try.prog (d + 3) [22, 22, 23] vs) : ∃ (t : Tn) (k : SK), vs = t.v (t.os k) ∧ (k = .nil ∨ k = .ro) ∧ (k = .nil → t.ops = []) ∧ t.ops.length ≤ 140737488355328 ∧ ∀ o ∈ t.ops, smallO o := by
  have := reach_lt
  obtain ⟨a1, b1, rfl, h1, a2, b2, rfl, h2, a3, b3, rfl, h3, rfl⟩ := h
  obtain ⟨x, rfl, hx⟩ := fits_int uU64 h1
  obtain ⟨c, rfl⟩ := of_u64 x hx
  obtain ⟨y, rfl, hy⟩ := fits_int uU64 h2
  obtain ⟨n, rfl⟩ := of_u64 y hy
  obtain ⟨k, l, rfl, hk, hk2, hb, hl⟩ := fits_slice_rows Opn.v smallO uOps (fun r hr => fit_op hr) h3
  rw [bOp] at hb
  exact ⟨⟨c, n, l⟩, k, rfl, hk2, hk, by simp only; omega, hl⟩
theorem txBytes_main (xs : List V) (h : FitsA Try.prog 8 [25] xs) : fnA (tabW fns) ([25].map fun _ => Mode.bor) ir4 xs (fun p => p = (.bool true, [])) := by
  obtain ⟨x, ys, rfl, h1, h⟩ := fitsA_s h
  obtain rfl := fitsA_0 h
  obtain ⟨v1, rfl, g1⟩ := fit_struct (d := 7) tTx h1
  obtain ⟨t, k, rfl, hk, hkn, hl, ho⟩ := fitL_tx g1
  exact txBytes_law t k hk hkn hl ho
theorem txCopies_main (xs : List V) (h : FitsA Try.prog 8 [25, 25] xs) : fnA (tabW fns) ([25, 25].map fun _ => Mode.bor) ir5 xs (fun p => p = (.bool true, [])) := by
  obtain ⟨x, ys, rfl, h1, h⟩ := fitsA_s h
  obtain ⟨y, zs, rfl, h2, h⟩ := fitsA_s h
  obtain rfl := fitsA_0 h
  obtain ⟨v1, rfl, g1⟩ := fit_struct (d := 7) tTx h1
  obtain ⟨v2, rfl, g2⟩ := fit_struct (d := 7) tTx h2
  obtain ⟨t, k, rfl, hk, hkn, hl, ho⟩ := fitL_tx g1
  obtain ⟨t2, k2, rfl, hk2, hkn2, hl2, ho2⟩ := fitL_tx g2
  exact txCopies_law t t2 k k2 hk hk2 hkn hkn2 hl hl2 ho ho2
end Go.Vm.Ytapehdbmfodmoaa
