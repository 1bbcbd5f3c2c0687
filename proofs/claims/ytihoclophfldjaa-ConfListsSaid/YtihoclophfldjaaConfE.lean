/- Those that take part, with and without somebody, in the machine. -/
import Derived.Test.YtihoclophfldjaaConfD
set_option linter.unusedSectionVars false
set_option linter.unusedSimpArgs false
set_option linter.unusedVariables false
set_option maxHeartbeats 1000000
set_option maxRecDepth 10000
namespace Go.Vm.Ytihoclophfldjaa
open Go.Proofs
theorem isNaN1 (a : Nat) : Gf fns 33 [.int .i64 (a : Int)] = some (.bool false, []) := by
  refine Gf_start rfl rfl ?_
  simp -implicitDefEqProofs (disch := omega) only [go_sem, Nat.reduceAdd, Nat.reduceMul, Nat.reduceSub, Nat.reduceEqDiff, Nat.reduceLT, Nat.reduceLeDiff, reduceIte, reduceCtorEq, Int.reduceLE, Int.reduceLT, Int.reduceGE, Int.reduceGT, Int.reduceAdd, Int.reduceSub, Int.reduceMul, Int.reduceToNat, Int.reduceBEq, Int.reduceBNe, Nat.reduceBEq, Nat.reduceDiv, Nat.reduceMod, Int.reduceNeg, Int.reduceEq, go_sem]
theorem isNaN2 (a : Nat) : Gf fns 28 [.int .i64 (a : Int)] = some (.bool false, []) := by
  refine Gf_start rfl rfl ?_
  simp -implicitDefEqProofs (disch := omega) only [go_sem, Nat.reduceAdd, Nat.reduceMul, Nat.reduceSub, Nat.reduceEqDiff, Nat.reduceLT, Nat.reduceLeDiff, reduceIte, reduceCtorEq, Int.reduceLE, Int.reduceLT, Int.reduceGE, Int.reduceGT, Int.reduceAdd, Int.reduceSub, Int.reduceMul, Int.reduceToNat, Int.reduceBEq, Int.reduceBNe, Nat.reduceBEq, Nat.reduceDiv, Nat.reduceMod, Int.reduceNeg, Int.reduceEq, go_sem]
theorem Less_ok (a b : Nat) : Gf fns 27 [.int .i64 (a : Int), .int .i64 (b : Int)] = some (.bool (decide (a < b)), []) := by
  refine Gf_start rfl rfl ?_
  simp -implicitDefEqProofs (disch := omega) only [go_sem, Nat.reduceAdd, Nat.reduceMul, Nat.reduceSub, Nat.reduceEqDiff, Nat.reduceLT, Nat.reduceLeDiff, reduceIte, reduceCtorEq, Int.reduceLE, Int.reduceLT, Int.reduceGE, Int.reduceGT, Int.reduceAdd, Int.reduceSub, Int.reduceMul, Int.reduceToNat, Int.reduceBEq, Int.reduceBNe, Nat.reduceBEq, Nat.reduceDiv, Nat.reduceMod, Int.reduceNeg, Int.reduceEq, isNaN1]
def bsS (l : List Nat) (x : Nat) (p : Nat × Nat) (s : St) : Prop := p.1 ≤ p.2 ∧ p.2 ≤ l.length ∧ s.t 0 = .sl .ro l.length (l.map iv) ∧ s.t 1 = .int .i64 (x : Int) ∧ s.t 6 = .int .i64 (l.length : Int) ∧ s.t 7 = .int .i64 (p.1 : Int) ∧ s.t 8 = .int .i64 (p.2 : Int) ∧
  (∀ y ∈ l.take p.1, y < x) ∧ ∀ y ∈ l.drop p.2, x ≤ y
theorem Bs_ok (l : List Nat) (x : Nat) (hs : l.Pairwise (· < ·)) (hl : l.length ≤ 16) : ∃ i : Nat, Gf fns 22 [.sl .ro l.length (l.map iv), .int .i64 (x : Int)] = some (.tup [.int .i64 (i : Int), .bool (decide (x ∈ l))], []) ∧ i ≤ l.length ∧ (∀ y ∈ l.take i, y < x) ∧ ∀ y ∈ l.drop i, x ≤ y := by
  obtain ⟨r, h1, h2⟩ := Gf_ex (fs := fns) (f := 22) (xs := [.sl .ro l.length (l.map iv), .int .i64 (x : Int)]) (Q := fun r => ∃ i : Nat, r = (.tup [.int .i64 (i : Int), .bool (decide (x ∈ l))], []) ∧ i ≤ l.length ∧ (∀ y ∈ l.take i, y < x) ∧ ∀ y ∈ l.drop i, x ≤ y) rfl (by
    refine fnA_start rfl ?_
    simp -implicitDefEqProofs (disch := omega) only [go_sem, Nat.reduceAdd, Nat.reduceMul, Nat.reduceSub, Nat.reduceEqDiff, Nat.reduceLT, Nat.reduceLeDiff, reduceIte, reduceCtorEq, Int.reduceLE, Int.reduceLT, Int.reduceGE, Int.reduceGT, Int.reduceAdd, Int.reduceSub, Int.reduceMul, Int.reduceToNat, Int.reduceBEq, Int.reduceBNe, Nat.reduceBEq, Nat.reduceDiv, Nat.reduceMod, Int.reduceNeg, Int.reduceEq, go_sem]
    refine wp_loopS (bsS l x) (fun p => p.2 - p.1) (0, l.length) ⟨by simp, by simp, by simp -implicitDefEqProofs (disch := omega) only [go_sem, Nat.reduceAdd, Nat.reduceMul, Nat.reduceSub, Nat.reduceEqDiff, Nat.reduceLT, Nat.reduceLeDiff, reduceIte, reduceCtorEq, Int.reduceLE, Int.reduceLT, Int.reduceGE, Int.reduceGT, Int.reduceAdd, Int.reduceSub, Int.reduceMul, Int.reduceToNat, Int.reduceBEq, Int.reduceBNe, Nat.reduceBEq, Nat.reduceDiv, Nat.reduceMod, Int.reduceNeg, Int.reduceEq, go_sem], by simp -implicitDefEqProofs (disch := omega) only [go_sem, Nat.reduceAdd, Nat.reduceMul, Nat.reduceSub, Nat.reduceEqDiff, Nat.reduceLT, Nat.reduceLeDiff, reduceIte, reduceCtorEq, Int.reduceLE, Int.reduceLT, Int.reduceGE, Int.reduceGT, Int.reduceAdd, Int.reduceSub, Int.reduceMul, Int.reduceToNat, Int.reduceBEq, Int.reduceBNe, Nat.reduceBEq, Nat.reduceDiv, Nat.reduceMod, Int.reduceNeg, Int.reduceEq, go_sem], by simp -implicitDefEqProofs (disch := omega) only [go_sem, Nat.reduceAdd, Nat.reduceMul, Nat.reduceSub, Nat.reduceEqDiff, Nat.reduceLT, Nat.reduceLeDiff, reduceIte, reduceCtorEq, Int.reduceLE, Int.reduceLT, Int.reduceGE, Int.reduceGT, Int.reduceAdd, Int.reduceSub, Int.reduceMul, Int.reduceToNat, Int.reduceBEq, Int.reduceBNe, Nat.reduceBEq, Nat.reduceDiv, Nat.reduceMod, Int.reduceNeg, Int.reduceEq, go_sem], by simp -implicitDefEqProofs (disch := omega) only [go_sem, Nat.reduceAdd, Nat.reduceMul, Nat.reduceSub, Nat.reduceEqDiff, Nat.reduceLT, Nat.reduceLeDiff, reduceIte, reduceCtorEq, Int.reduceLE, Int.reduceLT, Int.reduceGE, Int.reduceGT, Int.reduceAdd, Int.reduceSub, Int.reduceMul, Int.reduceToNat, Int.reduceBEq, Int.reduceBNe, Nat.reduceBEq, Nat.reduceDiv, Nat.reduceMod, Int.reduceNeg, Int.reduceEq, go_sem], by simp -implicitDefEqProofs (disch := omega) only [go_sem, Nat.reduceAdd, Nat.reduceMul, Nat.reduceSub, Nat.reduceEqDiff, Nat.reduceLT, Nat.reduceLeDiff, reduceIte, reduceCtorEq, Int.reduceLE, Int.reduceLT, Int.reduceGE, Int.reduceGT, Int.reduceAdd, Int.reduceSub, Int.reduceMul, Int.reduceToNat, Int.reduceBEq, Int.reduceBNe, Nat.reduceBEq, Nat.reduceDiv, Nat.reduceMod, Int.reduceNeg, Int.reduceEq, go_sem], by simp, by simp⟩ ?_
    rintro ⟨i, j⟩ ⟨t, σ⟩ ⟨hij, hj, h0, h1, h6, h7, h8, ha, hb⟩
    simp only at hij hj h0 h1 h6 h7 h8 ha hb
    simp -implicitDefEqProofs (disch := omega) only [go_sem, Nat.reduceAdd, Nat.reduceMul, Nat.reduceSub, Nat.reduceEqDiff, Nat.reduceLT, Nat.reduceLeDiff, reduceIte, reduceCtorEq, Int.reduceLE, Int.reduceLT, Int.reduceGE, Int.reduceGT, Int.reduceAdd, Int.reduceSub, Int.reduceMul, Int.reduceToNat, Int.reduceBEq, Int.reduceBNe, Nat.reduceBEq, Nat.reduceDiv, Nat.reduceMod, Int.reduceNeg, Int.reduceEq, lp22_0, h7, h8]
    refine condC_dec (fun hc => ?_) (fun hc => ?_)
    · obtain ⟨h, hh⟩ : ∃ h, h = (i + j) / 2 ^ 1 := ⟨_, rfl⟩
      have hh1 : i ≤ h ∧ h < j := by omega
      have hhl : h < l.length := by omega
      have hL := Less_ok (gt l h) x
      have hg : gt l h = l[h] := gt_eq hhl
      by_cases hx : gt l h < x
      · simp -implicitDefEqProofs (disch := omega) only [go_sem, Nat.reduceAdd, Nat.reduceMul, Nat.reduceSub, Nat.reduceEqDiff, Nat.reduceLT, Nat.reduceLeDiff, reduceIte, reduceCtorEq, Int.reduceLE, Int.reduceLT, Int.reduceGE, Int.reduceGT, Int.reduceAdd, Int.reduceSub, Int.reduceMul, Int.reduceToNat, Int.reduceBEq, Int.reduceBNe, Nat.reduceBEq, Nat.reduceDiv, Nat.reduceMod, Int.reduceNeg, Int.reduceEq, h0, h1, h7, h8, iv, ← hh, hL, hx]
        refine ⟨(h + 1, j), by simp only; omega, by simp only; omega, by simp only; omega, by simp -implicitDefEqProofs (disch := omega) only [go_sem, Nat.reduceAdd, Nat.reduceMul, Nat.reduceSub, Nat.reduceEqDiff, Nat.reduceLT, Nat.reduceLeDiff, reduceIte, reduceCtorEq, Int.reduceLE, Int.reduceLT, Int.reduceGE, Int.reduceGT, Int.reduceAdd, Int.reduceSub, Int.reduceMul, Int.reduceToNat, Int.reduceBEq, Int.reduceBNe, Nat.reduceBEq, Nat.reduceDiv, Nat.reduceMod, Int.reduceNeg, Int.reduceEq, h0, iv], by simp -implicitDefEqProofs (disch := omega) only [go_sem, Nat.reduceAdd, Nat.reduceMul, Nat.reduceSub, Nat.reduceEqDiff, Nat.reduceLT, Nat.reduceLeDiff, reduceIte, reduceCtorEq, Int.reduceLE, Int.reduceLT, Int.reduceGE, Int.reduceGT, Int.reduceAdd, Int.reduceSub, Int.reduceMul, Int.reduceToNat, Int.reduceBEq, Int.reduceBNe, Nat.reduceBEq, Nat.reduceDiv, Nat.reduceMod, Int.reduceNeg, Int.reduceEq, h1], by simp -implicitDefEqProofs (disch := omega) only [go_sem, Nat.reduceAdd, Nat.reduceMul, Nat.reduceSub, Nat.reduceEqDiff, Nat.reduceLT, Nat.reduceLeDiff, reduceIte, reduceCtorEq, Int.reduceLE, Int.reduceLT, Int.reduceGE, Int.reduceGT, Int.reduceAdd, Int.reduceSub, Int.reduceMul, Int.reduceToNat, Int.reduceBEq, Int.reduceBNe, Nat.reduceBEq, Nat.reduceDiv, Nat.reduceMod, Int.reduceNeg, Int.reduceEq, h6], by simp -implicitDefEqProofs (disch := omega) only [go_sem, Nat.reduceAdd, Nat.reduceMul, Nat.reduceSub, Nat.reduceEqDiff, Nat.reduceLT, Nat.reduceLeDiff, reduceIte, reduceCtorEq, Int.reduceLE, Int.reduceLT, Int.reduceGE, Int.reduceGT, Int.reduceAdd, Int.reduceSub, Int.reduceMul, Int.reduceToNat, Int.reduceBEq, Int.reduceBNe, Nat.reduceBEq, Nat.reduceDiv, Nat.reduceMod, Int.reduceNeg, Int.reduceEq, go_sem], by simp -implicitDefEqProofs (disch := omega) only [go_sem, Nat.reduceAdd, Nat.reduceMul, Nat.reduceSub, Nat.reduceEqDiff, Nat.reduceLT, Nat.reduceLeDiff, reduceIte, reduceCtorEq, Int.reduceLE, Int.reduceLT, Int.reduceGE, Int.reduceGT, Int.reduceAdd, Int.reduceSub, Int.reduceMul, Int.reduceToNat, Int.reduceBEq, Int.reduceBNe, Nat.reduceBEq, Nat.reduceDiv, Nat.reduceMod, Int.reduceNeg, Int.reduceEq, h8], fun y hy => ?_, hb⟩
        have := mem_take_lt hs hhl hy
        omega
      · simp -implicitDefEqProofs (disch := omega) only [go_sem, Nat.reduceAdd, Nat.reduceMul, Nat.reduceSub, Nat.reduceEqDiff, Nat.reduceLT, Nat.reduceLeDiff, reduceIte, reduceCtorEq, Int.reduceLE, Int.reduceLT, Int.reduceGE, Int.reduceGT, Int.reduceAdd, Int.reduceSub, Int.reduceMul, Int.reduceToNat, Int.reduceBEq, Int.reduceBNe, Nat.reduceBEq, Nat.reduceDiv, Nat.reduceMod, Int.reduceNeg, Int.reduceEq, h0, h1, h7, h8, iv, ← hh, hL, hx]
        refine ⟨(i, h), by simp only; omega, by simp only; omega, by simp only; omega, by simp -implicitDefEqProofs (disch := omega) only [go_sem, Nat.reduceAdd, Nat.reduceMul, Nat.reduceSub, Nat.reduceEqDiff, Nat.reduceLT, Nat.reduceLeDiff, reduceIte, reduceCtorEq, Int.reduceLE, Int.reduceLT, Int.reduceGE, Int.reduceGT, Int.reduceAdd, Int.reduceSub, Int.reduceMul, Int.reduceToNat, Int.reduceBEq, Int.reduceBNe, Nat.reduceBEq, Nat.reduceDiv, Nat.reduceMod, Int.reduceNeg, Int.reduceEq, h0, iv], by simp -implicitDefEqProofs (disch := omega) only [go_sem, Nat.reduceAdd, Nat.reduceMul, Nat.reduceSub, Nat.reduceEqDiff, Nat.reduceLT, Nat.reduceLeDiff, reduceIte, reduceCtorEq, Int.reduceLE, Int.reduceLT, Int.reduceGE, Int.reduceGT, Int.reduceAdd, Int.reduceSub, Int.reduceMul, Int.reduceToNat, Int.reduceBEq, Int.reduceBNe, Nat.reduceBEq, Nat.reduceDiv, Nat.reduceMod, Int.reduceNeg, Int.reduceEq, h1], by simp -implicitDefEqProofs (disch := omega) only [go_sem, Nat.reduceAdd, Nat.reduceMul, Nat.reduceSub, Nat.reduceEqDiff, Nat.reduceLT, Nat.reduceLeDiff, reduceIte, reduceCtorEq, Int.reduceLE, Int.reduceLT, Int.reduceGE, Int.reduceGT, Int.reduceAdd, Int.reduceSub, Int.reduceMul, Int.reduceToNat, Int.reduceBEq, Int.reduceBNe, Nat.reduceBEq, Nat.reduceDiv, Nat.reduceMod, Int.reduceNeg, Int.reduceEq, h6], by simp -implicitDefEqProofs (disch := omega) only [go_sem, Nat.reduceAdd, Nat.reduceMul, Nat.reduceSub, Nat.reduceEqDiff, Nat.reduceLT, Nat.reduceLeDiff, reduceIte, reduceCtorEq, Int.reduceLE, Int.reduceLT, Int.reduceGE, Int.reduceGT, Int.reduceAdd, Int.reduceSub, Int.reduceMul, Int.reduceToNat, Int.reduceBEq, Int.reduceBNe, Nat.reduceBEq, Nat.reduceDiv, Nat.reduceMod, Int.reduceNeg, Int.reduceEq, h7], by simp -implicitDefEqProofs (disch := omega) only [go_sem, Nat.reduceAdd, Nat.reduceMul, Nat.reduceSub, Nat.reduceEqDiff, Nat.reduceLT, Nat.reduceLeDiff, reduceIte, reduceCtorEq, Int.reduceLE, Int.reduceLT, Int.reduceGE, Int.reduceGT, Int.reduceAdd, Int.reduceSub, Int.reduceMul, Int.reduceToNat, Int.reduceBEq, Int.reduceBNe, Nat.reduceBEq, Nat.reduceDiv, Nat.reduceMod, Int.reduceNeg, Int.reduceEq, go_sem], ha, fun y hy => ?_⟩
        have := mem_drop_ge hs hhl hy
        omega
    · obtain rfl : i = j := by omega
      by_cases hil : i < l.length
      · have hg : gt l i = l[i] := gt_eq hil
        have hd : ∀ y ∈ l.drop i, l[i] ≤ y := fun y hy => mem_drop_ge hs hil hy
        have hmi : l[i] ∈ l := List.getElem_mem hil
        have hmd : l[i] ∈ l.drop i := List.mem_iff_getElem.2 ⟨0, by simp; omega, by simp⟩
        have e : gt l i = x ↔ x ∈ l := by
          constructor
          · intro h; rw [← h, hg]; exact hmi
          · intro h
            rw [← List.take_append_drop i l, List.mem_append] at h
            rcases h with h | h
            · have := ha x h; omega
            · have h3 := hd x h
              have h4 := hb _ hmd
              omega
        by_cases hm : x ∈ l
        · have e2 := e.2 hm
          simp -implicitDefEqProofs (disch := omega) only [go_sem, Nat.reduceAdd, Nat.reduceMul, Nat.reduceSub, Nat.reduceEqDiff, Nat.reduceLT, Nat.reduceLeDiff, reduceIte, reduceCtorEq, Int.reduceLE, Int.reduceLT, Int.reduceGE, Int.reduceGT, Int.reduceAdd, Int.reduceSub, Int.reduceMul, Int.reduceToNat, Int.reduceBEq, Int.reduceBNe, Nat.reduceBEq, Nat.reduceDiv, Nat.reduceMod, Int.reduceNeg, Int.reduceEq, h0, h1, h6, h7, h8, iv, hil, isNaN2, e2, hm]
          exact ⟨i, rfl, hj, ha, hb⟩
        · have e2 : ¬ gt l i = x := fun c => hm (e.1 c)
          simp -implicitDefEqProofs (disch := omega) only [go_sem, Nat.reduceAdd, Nat.reduceMul, Nat.reduceSub, Nat.reduceEqDiff, Nat.reduceLT, Nat.reduceLeDiff, reduceIte, reduceCtorEq, Int.reduceLE, Int.reduceLT, Int.reduceGE, Int.reduceGT, Int.reduceAdd, Int.reduceSub, Int.reduceMul, Int.reduceToNat, Int.reduceBEq, Int.reduceBNe, Nat.reduceBEq, Nat.reduceDiv, Nat.reduceMod, Int.reduceNeg, Int.reduceEq, h0, h1, h6, h7, h8, iv, hil, isNaN2, e2, hm]
          exact ⟨i, rfl, hj, ha, hb⟩
      · have e : decide (x ∈ l) = false := by
          apply decide_eq_false
          intro h
          rw [take_all (by omega)] at ha
          have := ha x h
          omega
        simp -implicitDefEqProofs (disch := omega) only [go_sem, Nat.reduceAdd, Nat.reduceMul, Nat.reduceSub, Nat.reduceEqDiff, Nat.reduceLT, Nat.reduceLeDiff, reduceIte, reduceCtorEq, Int.reduceLE, Int.reduceLT, Int.reduceGE, Int.reduceGT, Int.reduceAdd, Int.reduceSub, Int.reduceMul, Int.reduceToNat, Int.reduceBEq, Int.reduceBNe, Nat.reduceBEq, Nat.reduceDiv, Nat.reduceMod, Int.reduceNeg, Int.reduceEq, h0, h1, h6, h7, h8, iv, hil, e]
        exact ⟨i, rfl, hj, ha, hb⟩)
  obtain ⟨i, rfl, h3⟩ := h2
  exact ⟨i, h1, h3⟩
theorem Clone_ok (l : List Nat) (hl : l.length ≤ 16) : Gf fns 21 [.sl .ro l.length (l.map iv)] = some (.osl 1 l.length (l.map iv), []) := by
  have e : (SK.ro == SK.nil) = false := rfl
  refine Gf_start rfl rfl ?_
  by_cases h0 : 0 < l.length
  · simp -implicitDefEqProofs (disch := omega) only [go_sem, Nat.reduceAdd, Nat.reduceMul, Nat.reduceSub, Nat.reduceEqDiff, Nat.reduceLT, Nat.reduceLeDiff, reduceIte, reduceCtorEq, Int.reduceLE, Int.reduceLT, Int.reduceGE, Int.reduceGT, Int.reduceAdd, Int.reduceSub, Int.reduceMul, Int.reduceToNat, Int.reduceBEq, Int.reduceBNe, Nat.reduceBEq, Nat.reduceDiv, Nat.reduceMod, Int.reduceNeg, Int.reduceEq, e]
  · obtain rfl : l = [] := List.length_eq_zero_iff.1 (by omega)
    simp -implicitDefEqProofs (disch := omega) only [go_sem, Nat.reduceAdd, Nat.reduceMul, Nat.reduceSub, Nat.reduceEqDiff, Nat.reduceLT, Nat.reduceLeDiff, reduceIte, reduceCtorEq, Int.reduceLE, Int.reduceLT, Int.reduceGE, Int.reduceGT, Int.reduceAdd, Int.reduceSub, Int.reduceMul, Int.reduceToNat, Int.reduceBEq, Int.reduceBNe, Nat.reduceBEq, Nat.reduceDiv, Nat.reduceMod, Int.reduceNeg, Int.reduceEq, e]
theorem Insert_ok (l : List Nat) (i x : Nat) (hi : i ≤ l.length) (hl : l.length ≤ 16) : Gf fns 23 [.osl 1 l.length (l.map iv), .int .i64 (i : Int), .osl 1 1 [.int .i64 (x : Int)]] = some (.osl 1 (l.length + 1) ((l.take i ++ x :: l.drop i).map iv), []) := by
  rw [hand23]
  unfold insG
  simp only
  rw [if_pos ⟨trivial, trivial, by simp, rfl, by omega, by omega, by omega⟩]
  simp [iv]
theorem With_ok (A W : Nat) (hW : W < 16) : Gf fns 16 [.sl .ro (listN A).length ((listN A).map iv), .int .i64 (W : Int)] = some (.osl 1 (listN (A ||| 2 ^ W)).length ((listN (A ||| 2 ^ W)).map iv), []) := by
  have hl := listN_len A
  obtain ⟨i, b1, b2, b3, b4⟩ := Bs_ok (listN A) W (listN_sorted A) hl
  have hc := Clone_ok (listN A) hl
  by_cases hm : W ∈ listN A
  · have hor := listN_or hm
    rw [hor]
    generalize listN A = l at *
    refine Gf_start rfl rfl ?_
    simp -implicitDefEqProofs (disch := omega) only [go_sem, Nat.reduceAdd, Nat.reduceMul, Nat.reduceSub, Nat.reduceEqDiff, Nat.reduceLT, Nat.reduceLeDiff, reduceIte, reduceCtorEq, Int.reduceLE, Int.reduceLT, Int.reduceGE, Int.reduceGT, Int.reduceAdd, Int.reduceSub, Int.reduceMul, Int.reduceToNat, Int.reduceBEq, Int.reduceBNe, Nat.reduceBEq, Nat.reduceDiv, Nat.reduceMod, Int.reduceNeg, Int.reduceEq, b1, hm, hc, iv_ro]
  · have hi := listN_ins hW b3 b4 hm
    rw [← hi]
    generalize listN A = l at *
    have hI := Insert_ok l i W b2 hl
    refine Gf_start rfl rfl ?_
    simp -implicitDefEqProofs (disch := omega) only [go_sem, Nat.reduceAdd, Nat.reduceMul, Nat.reduceSub, Nat.reduceEqDiff, Nat.reduceLT, Nat.reduceLeDiff, reduceIte, reduceCtorEq, Int.reduceLE, Int.reduceLT, Int.reduceGE, Int.reduceGT, Int.reduceAdd, Int.reduceSub, Int.reduceMul, Int.reduceToNat, Int.reduceBEq, Int.reduceBNe, Nat.reduceBEq, Nat.reduceDiv, Nat.reduceMod, Int.reduceNeg, Int.reduceEq, b1, hm, hc, iv_ro, hI]
    rw [List.take_of_length_le (by simp; omega), show i + (l.length - i + 1) = l.length + 1 by omega]
theorem eqW_ok (x W : Nat) : Gf fns 25 [.int .i64 (x : Int), .pt [.int .i64 (W : Int)] 0] = some (.bool (decide (x = W)), []) := by
  refine Gf_start rfl rfl ?_
  simp -implicitDefEqProofs (disch := omega) only [go_sem, Nat.reduceAdd, Nat.reduceMul, Nat.reduceSub, Nat.reduceEqDiff, Nat.reduceLT, Nat.reduceLeDiff, reduceIte, reduceCtorEq, Int.reduceLE, Int.reduceLT, Int.reduceGE, Int.reduceGT, Int.reduceAdd, Int.reduceSub, Int.reduceMul, Int.reduceToNat, Int.reduceBEq, Int.reduceBNe, Nat.reduceBEq, Nat.reduceDiv, Nat.reduceMod, Int.reduceNeg, Int.reduceEq, go_sem]
def ixS (l : List Nat) (W : Nat) (i : Nat) (s : St) : Prop := i ≤ l.length ∧ s.t 0 = .sl .ro l.length (l.map iv) ∧ s.t 1 = .fn 25 [.pt [.int .i64 (W : Int)] 0] ∧ s.t 7 = .int .i64 (l.length : Int) ∧ s.t 8 = .int .i64 (i : Int) ∧ W ∉ l.take i
theorem IdxF_ok (l : List Nat) (W : Nat) (hl : l.length ≤ 16) : ∃ r : Int, Gf fns 31 [.sl .ro l.length (l.map iv), .fn 25 [.pt [.int .i64 (W : Int)] 0]] = some (.int .i64 r, []) ∧
    (r = -1 ∧ W ∉ l ∨ ∃ i : Nat, r = (i : Int) ∧ i < l.length ∧ gt l i = W ∧ W ∉ l.take i) := by
  obtain ⟨r, h1, h2⟩ := Gf_ex (fs := fns) (f := 31) (xs := [.sl .ro l.length (l.map iv), .fn 25 [.pt [.int .i64 (W : Int)] 0]]) (Q := fun r => ∃ q : Int, r = (.int .i64 q, []) ∧ (q = -1 ∧ W ∉ l ∨ ∃ i : Nat, q = (i : Int) ∧ i < l.length ∧ gt l i = W ∧ W ∉ l.take i)) rfl (by
    refine fnA_start rfl ?_
    simp -implicitDefEqProofs (disch := omega) only [go_sem, Nat.reduceAdd, Nat.reduceMul, Nat.reduceSub, Nat.reduceEqDiff, Nat.reduceLT, Nat.reduceLeDiff, reduceIte, reduceCtorEq, Int.reduceLE, Int.reduceLT, Int.reduceGE, Int.reduceGT, Int.reduceAdd, Int.reduceSub, Int.reduceMul, Int.reduceToNat, Int.reduceBEq, Int.reduceBNe, Nat.reduceBEq, Nat.reduceDiv, Nat.reduceMod, Int.reduceNeg, Int.reduceEq, go_sem]
    refine wp_loopS (ixS l W) (fun i => l.length - i) 0 ⟨by omega, by simp -implicitDefEqProofs (disch := omega) only [go_sem, Nat.reduceAdd, Nat.reduceMul, Nat.reduceSub, Nat.reduceEqDiff, Nat.reduceLT, Nat.reduceLeDiff, reduceIte, reduceCtorEq, Int.reduceLE, Int.reduceLT, Int.reduceGE, Int.reduceGT, Int.reduceAdd, Int.reduceSub, Int.reduceMul, Int.reduceToNat, Int.reduceBEq, Int.reduceBNe, Nat.reduceBEq, Nat.reduceDiv, Nat.reduceMod, Int.reduceNeg, Int.reduceEq, go_sem], by simp -implicitDefEqProofs (disch := omega) only [go_sem, Nat.reduceAdd, Nat.reduceMul, Nat.reduceSub, Nat.reduceEqDiff, Nat.reduceLT, Nat.reduceLeDiff, reduceIte, reduceCtorEq, Int.reduceLE, Int.reduceLT, Int.reduceGE, Int.reduceGT, Int.reduceAdd, Int.reduceSub, Int.reduceMul, Int.reduceToNat, Int.reduceBEq, Int.reduceBNe, Nat.reduceBEq, Nat.reduceDiv, Nat.reduceMod, Int.reduceNeg, Int.reduceEq, go_sem], by simp -implicitDefEqProofs (disch := omega) only [go_sem, Nat.reduceAdd, Nat.reduceMul, Nat.reduceSub, Nat.reduceEqDiff, Nat.reduceLT, Nat.reduceLeDiff, reduceIte, reduceCtorEq, Int.reduceLE, Int.reduceLT, Int.reduceGE, Int.reduceGT, Int.reduceAdd, Int.reduceSub, Int.reduceMul, Int.reduceToNat, Int.reduceBEq, Int.reduceBNe, Nat.reduceBEq, Nat.reduceDiv, Nat.reduceMod, Int.reduceNeg, Int.reduceEq, go_sem], by simp -implicitDefEqProofs (disch := omega) only [go_sem, Nat.reduceAdd, Nat.reduceMul, Nat.reduceSub, Nat.reduceEqDiff, Nat.reduceLT, Nat.reduceLeDiff, reduceIte, reduceCtorEq, Int.reduceLE, Int.reduceLT, Int.reduceGE, Int.reduceGT, Int.reduceAdd, Int.reduceSub, Int.reduceMul, Int.reduceToNat, Int.reduceBEq, Int.reduceBNe, Nat.reduceBEq, Nat.reduceDiv, Nat.reduceMod, Int.reduceNeg, Int.reduceEq, go_sem], by simp⟩ ?_
    rintro i ⟨t, σ⟩ ⟨hi, h0, h1, h7, h8, ha⟩
    simp only at h0 h1 h7 h8
    simp -implicitDefEqProofs (disch := omega) only [go_sem, Nat.reduceAdd, Nat.reduceMul, Nat.reduceSub, Nat.reduceEqDiff, Nat.reduceLT, Nat.reduceLeDiff, reduceIte, reduceCtorEq, Int.reduceLE, Int.reduceLT, Int.reduceGE, Int.reduceGT, Int.reduceAdd, Int.reduceSub, Int.reduceMul, Int.reduceToNat, Int.reduceBEq, Int.reduceBNe, Nat.reduceBEq, Nat.reduceDiv, Nat.reduceMod, Int.reduceNeg, Int.reduceEq, lp31_0, h7, h8]
    refine condC_dec (fun hc => ?_) (fun hc => ?_)
    · have hE := eqW_ok (gt l i) W
      by_cases hx : gt l i = W
      · rw [hx] at hE
        simp -implicitDefEqProofs (disch := omega) only [go_sem, Nat.reduceAdd, Nat.reduceMul, Nat.reduceSub, Nat.reduceEqDiff, Nat.reduceLT, Nat.reduceLeDiff, reduceIte, reduceCtorEq, Int.reduceLE, Int.reduceLT, Int.reduceGE, Int.reduceGT, Int.reduceAdd, Int.reduceSub, Int.reduceMul, Int.reduceToNat, Int.reduceBEq, Int.reduceBNe, Nat.reduceBEq, Nat.reduceDiv, Nat.reduceMod, Int.reduceNeg, Int.reduceEq, h0, h1, h8, iv, callV_T at25, hE, hx]
        exact ⟨(i : Int), rfl, .inr ⟨i, rfl, hc, hx, ha⟩⟩
      · simp -implicitDefEqProofs (disch := omega) only [go_sem, Nat.reduceAdd, Nat.reduceMul, Nat.reduceSub, Nat.reduceEqDiff, Nat.reduceLT, Nat.reduceLeDiff, reduceIte, reduceCtorEq, Int.reduceLE, Int.reduceLT, Int.reduceGE, Int.reduceGT, Int.reduceAdd, Int.reduceSub, Int.reduceMul, Int.reduceToNat, Int.reduceBEq, Int.reduceBNe, Nat.reduceBEq, Nat.reduceDiv, Nat.reduceMod, Int.reduceNeg, Int.reduceEq, h0, h1, h8, iv, callV_T at25, hE, hx]
        refine ⟨i + 1, by omega, by omega, by simp -implicitDefEqProofs (disch := omega) only [go_sem, Nat.reduceAdd, Nat.reduceMul, Nat.reduceSub, Nat.reduceEqDiff, Nat.reduceLT, Nat.reduceLeDiff, reduceIte, reduceCtorEq, Int.reduceLE, Int.reduceLT, Int.reduceGE, Int.reduceGT, Int.reduceAdd, Int.reduceSub, Int.reduceMul, Int.reduceToNat, Int.reduceBEq, Int.reduceBNe, Nat.reduceBEq, Nat.reduceDiv, Nat.reduceMod, Int.reduceNeg, Int.reduceEq, h0, iv], by simp -implicitDefEqProofs (disch := omega) only [go_sem, Nat.reduceAdd, Nat.reduceMul, Nat.reduceSub, Nat.reduceEqDiff, Nat.reduceLT, Nat.reduceLeDiff, reduceIte, reduceCtorEq, Int.reduceLE, Int.reduceLT, Int.reduceGE, Int.reduceGT, Int.reduceAdd, Int.reduceSub, Int.reduceMul, Int.reduceToNat, Int.reduceBEq, Int.reduceBNe, Nat.reduceBEq, Nat.reduceDiv, Nat.reduceMod, Int.reduceNeg, Int.reduceEq, h1], by simp -implicitDefEqProofs (disch := omega) only [go_sem, Nat.reduceAdd, Nat.reduceMul, Nat.reduceSub, Nat.reduceEqDiff, Nat.reduceLT, Nat.reduceLeDiff, reduceIte, reduceCtorEq, Int.reduceLE, Int.reduceLT, Int.reduceGE, Int.reduceGT, Int.reduceAdd, Int.reduceSub, Int.reduceMul, Int.reduceToNat, Int.reduceBEq, Int.reduceBNe, Nat.reduceBEq, Nat.reduceDiv, Nat.reduceMod, Int.reduceNeg, Int.reduceEq, h7], by simp -implicitDefEqProofs (disch := omega) only [go_sem, Nat.reduceAdd, Nat.reduceMul, Nat.reduceSub, Nat.reduceEqDiff, Nat.reduceLT, Nat.reduceLeDiff, reduceIte, reduceCtorEq, Int.reduceLE, Int.reduceLT, Int.reduceGE, Int.reduceGT, Int.reduceAdd, Int.reduceSub, Int.reduceMul, Int.reduceToNat, Int.reduceBEq, Int.reduceBNe, Nat.reduceBEq, Nat.reduceDiv, Nat.reduceMod, Int.reduceNeg, Int.reduceEq, go_sem], ?_⟩
        rw [take_gt hc, List.mem_append, List.mem_singleton]
        rintro (h | h)
        · exact ha h
        · exact hx h.symm
    · obtain rfl : i = l.length := by omega
      rw [take_all (Nat.le_refl _)] at ha
      simp -implicitDefEqProofs (disch := omega) only [go_sem, Nat.reduceAdd, Nat.reduceMul, Nat.reduceSub, Nat.reduceEqDiff, Nat.reduceLT, Nat.reduceLeDiff, reduceIte, reduceCtorEq, Int.reduceLE, Int.reduceLT, Int.reduceGE, Int.reduceGT, Int.reduceAdd, Int.reduceSub, Int.reduceMul, Int.reduceToNat, Int.reduceBEq, Int.reduceBNe, Nat.reduceBEq, Nat.reduceDiv, Nat.reduceMod, Int.reduceNeg, Int.reduceEq, go_sem]
      exact ⟨-1, rfl, .inl ⟨rfl, ha⟩⟩)
  obtain ⟨q, rfl, h3⟩ := h2
  exact ⟨q, h1, h3⟩
def sameS (a b : List Nat) (i : Nat) (s : St) : Prop := i ≤ b.length ∧ s.t 0 = .sl .ro b.length (a.map iv) ∧ s.t 1 = .sl .ro b.length (b.map iv) ∧ s.t 5 = .int .i64 (i : Int) ∧ a.take i = b.take i
theorem same_ok (a b : List Nat) (hl : a.length ≤ 16) (hb : b.length ≤ 16) : Gf fns 14 [.sl .ro a.length (a.map iv), .sl .ro b.length (b.map iv)] = some (.bool (decide (a = b)), []) := by
  refine Gf_start rfl rfl ?_
  by_cases hab : a.length = b.length
  · simp -implicitDefEqProofs (disch := omega) only [go_sem, Nat.reduceAdd, Nat.reduceMul, Nat.reduceSub, Nat.reduceEqDiff, Nat.reduceLT, Nat.reduceLeDiff, reduceIte, reduceCtorEq, Int.reduceLE, Int.reduceLT, Int.reduceGE, Int.reduceGT, Int.reduceAdd, Int.reduceSub, Int.reduceMul, Int.reduceToNat, Int.reduceBEq, Int.reduceBNe, Nat.reduceBEq, Nat.reduceDiv, Nat.reduceMod, Int.reduceNeg, Int.reduceEq, hab]
    refine wp_loopS (sameS a b) (fun i => b.length - i) 0 ⟨by omega, by simp -implicitDefEqProofs (disch := omega) only [go_sem, Nat.reduceAdd, Nat.reduceMul, Nat.reduceSub, Nat.reduceEqDiff, Nat.reduceLT, Nat.reduceLeDiff, reduceIte, reduceCtorEq, Int.reduceLE, Int.reduceLT, Int.reduceGE, Int.reduceGT, Int.reduceAdd, Int.reduceSub, Int.reduceMul, Int.reduceToNat, Int.reduceBEq, Int.reduceBNe, Nat.reduceBEq, Nat.reduceDiv, Nat.reduceMod, Int.reduceNeg, Int.reduceEq, go_sem], by simp -implicitDefEqProofs (disch := omega) only [go_sem, Nat.reduceAdd, Nat.reduceMul, Nat.reduceSub, Nat.reduceEqDiff, Nat.reduceLT, Nat.reduceLeDiff, reduceIte, reduceCtorEq, Int.reduceLE, Int.reduceLT, Int.reduceGE, Int.reduceGT, Int.reduceAdd, Int.reduceSub, Int.reduceMul, Int.reduceToNat, Int.reduceBEq, Int.reduceBNe, Nat.reduceBEq, Nat.reduceDiv, Nat.reduceMod, Int.reduceNeg, Int.reduceEq, go_sem], by simp -implicitDefEqProofs (disch := omega) only [go_sem, Nat.reduceAdd, Nat.reduceMul, Nat.reduceSub, Nat.reduceEqDiff, Nat.reduceLT, Nat.reduceLeDiff, reduceIte, reduceCtorEq, Int.reduceLE, Int.reduceLT, Int.reduceGE, Int.reduceGT, Int.reduceAdd, Int.reduceSub, Int.reduceMul, Int.reduceToNat, Int.reduceBEq, Int.reduceBNe, Nat.reduceBEq, Nat.reduceDiv, Nat.reduceMod, Int.reduceNeg, Int.reduceEq, go_sem], by simp⟩ ?_
    rintro i ⟨t, σ⟩ ⟨hi, h0, h1, h5, ha⟩
    simp only at h0 h1 h5
    simp -implicitDefEqProofs (disch := omega) only [go_sem, Nat.reduceAdd, Nat.reduceMul, Nat.reduceSub, Nat.reduceEqDiff, Nat.reduceLT, Nat.reduceLeDiff, reduceIte, reduceCtorEq, Int.reduceLE, Int.reduceLT, Int.reduceGE, Int.reduceGT, Int.reduceAdd, Int.reduceSub, Int.reduceMul, Int.reduceToNat, Int.reduceBEq, Int.reduceBNe, Nat.reduceBEq, Nat.reduceDiv, Nat.reduceMod, Int.reduceNeg, Int.reduceEq, lp14_0, h0, h5]
    refine condC_dec (fun hc => ?_) (fun hc => ?_)
    · have hca : i < a.length := by omega
      simp -implicitDefEqProofs (disch := omega) only [go_sem, Nat.reduceAdd, Nat.reduceMul, Nat.reduceSub, Nat.reduceEqDiff, Nat.reduceLT, Nat.reduceLeDiff, reduceIte, reduceCtorEq, Int.reduceLE, Int.reduceLT, Int.reduceGE, Int.reduceGT, Int.reduceAdd, Int.reduceSub, Int.reduceMul, Int.reduceToNat, Int.reduceBEq, Int.reduceBNe, Nat.reduceBEq, Nat.reduceDiv, Nat.reduceMod, Int.reduceNeg, Int.reduceEq, h0, h1, h5]
      refine wp_draw_E ?_
      by_cases hx : gt a i = gt b i
      · simp -implicitDefEqProofs (disch := omega) only [go_sem, Nat.reduceAdd, Nat.reduceMul, Nat.reduceSub, Nat.reduceEqDiff, Nat.reduceLT, Nat.reduceLeDiff, reduceIte, reduceCtorEq, Int.reduceLE, Int.reduceLT, Int.reduceGE, Int.reduceGT, Int.reduceAdd, Int.reduceSub, Int.reduceMul, Int.reduceToNat, Int.reduceBEq, Int.reduceBNe, Nat.reduceBEq, Nat.reduceDiv, Nat.reduceMod, Int.reduceNeg, Int.reduceEq, h0, h1, h5, iv, hx]
        refine ⟨i + 1, by omega, by omega, by simp -implicitDefEqProofs (disch := omega) only [go_sem, Nat.reduceAdd, Nat.reduceMul, Nat.reduceSub, Nat.reduceEqDiff, Nat.reduceLT, Nat.reduceLeDiff, reduceIte, reduceCtorEq, Int.reduceLE, Int.reduceLT, Int.reduceGE, Int.reduceGT, Int.reduceAdd, Int.reduceSub, Int.reduceMul, Int.reduceToNat, Int.reduceBEq, Int.reduceBNe, Nat.reduceBEq, Nat.reduceDiv, Nat.reduceMod, Int.reduceNeg, Int.reduceEq, h0, iv], by simp -implicitDefEqProofs (disch := omega) only [go_sem, Nat.reduceAdd, Nat.reduceMul, Nat.reduceSub, Nat.reduceEqDiff, Nat.reduceLT, Nat.reduceLeDiff, reduceIte, reduceCtorEq, Int.reduceLE, Int.reduceLT, Int.reduceGE, Int.reduceGT, Int.reduceAdd, Int.reduceSub, Int.reduceMul, Int.reduceToNat, Int.reduceBEq, Int.reduceBNe, Nat.reduceBEq, Nat.reduceDiv, Nat.reduceMod, Int.reduceNeg, Int.reduceEq, h1, iv], by simp -implicitDefEqProofs (disch := omega) only [go_sem, Nat.reduceAdd, Nat.reduceMul, Nat.reduceSub, Nat.reduceEqDiff, Nat.reduceLT, Nat.reduceLeDiff, reduceIte, reduceCtorEq, Int.reduceLE, Int.reduceLT, Int.reduceGE, Int.reduceGT, Int.reduceAdd, Int.reduceSub, Int.reduceMul, Int.reduceToNat, Int.reduceBEq, Int.reduceBNe, Nat.reduceBEq, Nat.reduceDiv, Nat.reduceMod, Int.reduceNeg, Int.reduceEq, go_sem], ?_⟩
        rw [take_gt hc, take_gt hca, ha, hx]
      · have hne : ¬ a = b := fun c => hx (by rw [c])
        simp -implicitDefEqProofs (disch := omega) only [go_sem, Nat.reduceAdd, Nat.reduceMul, Nat.reduceSub, Nat.reduceEqDiff, Nat.reduceLT, Nat.reduceLeDiff, reduceIte, reduceCtorEq, Int.reduceLE, Int.reduceLT, Int.reduceGE, Int.reduceGT, Int.reduceAdd, Int.reduceSub, Int.reduceMul, Int.reduceToNat, Int.reduceBEq, Int.reduceBNe, Nat.reduceBEq, Nat.reduceDiv, Nat.reduceMod, Int.reduceNeg, Int.reduceEq, h0, h1, h5, iv, hx, hne]
    · obtain rfl : i = b.length := by omega
      rw [take_all (Nat.le_refl _), take_all (by omega)] at ha
      simp -implicitDefEqProofs (disch := omega) only [go_sem, Nat.reduceAdd, Nat.reduceMul, Nat.reduceSub, Nat.reduceEqDiff, Nat.reduceLT, Nat.reduceLeDiff, reduceIte, reduceCtorEq, Int.reduceLE, Int.reduceLT, Int.reduceGE, Int.reduceGT, Int.reduceAdd, Int.reduceSub, Int.reduceMul, Int.reduceToNat, Int.reduceBEq, Int.reduceBNe, Nat.reduceBEq, Nat.reduceDiv, Nat.reduceMod, Int.reduceNeg, Int.reduceEq, ha]
  · have hne : ¬ a = b := fun c => hab (by rw [c])
    simp -implicitDefEqProofs (disch := omega) only [go_sem, Nat.reduceAdd, Nat.reduceMul, Nat.reduceSub, Nat.reduceEqDiff, Nat.reduceLT, Nat.reduceLeDiff, reduceIte, reduceCtorEq, Int.reduceLE, Int.reduceLT, Int.reduceGE, Int.reduceGT, Int.reduceAdd, Int.reduceSub, Int.reduceMul, Int.reduceToNat, Int.reduceBEq, Int.reduceBNe, Nat.reduceBEq, Nat.reduceDiv, Nat.reduceMod, Int.reduceNeg, Int.reduceEq, hab, hne]
end Go.Vm.Ytihoclophfldjaa
