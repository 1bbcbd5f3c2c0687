/- A net in a block of the caller's, and calls that work on it. -/
import Derived.Test.YtcnnlnpebpakjaaNetB
set_option linter.unusedSectionVars false
set_option linter.unusedSimpArgs false
set_option linter.unusedVariables false
set_option maxHeartbeats 1000000
set_option maxRecDepth 10000
namespace Go.Vm
/-- A net in a block of the caller's. -/
def NAt (n : Nt) (id g : Nat) (ids : List Nat) (σ : Store) : Prop :=
  ∃ m gm, m ∈ ids ∧ σ m = ⟨gm, .rw, false, [.mcell []]⟩ ∧
    ((n.f = false ∧ n.l = [] ∧ σ id = ⟨g, .rw, false, [.sl .nil 0 [], .mp m gm, .int .i64 (n.s : Int), .int .i64 (n.d : Int)]⟩) ∨
     (n.f = true ∧ ∃ q gq, q ∈ ids ∧ q ≠ m ∧ σ id = ⟨g, .rw, false, [.sli q gq 0 n.l.length 3, .mp m gm, .int .i64 (n.s : Int), .int .i64 (n.d : Int)]⟩ ∧ σ q = ⟨gq, .rw, true, rows rowP n.l⟩))
theorem NAt.same {n : Nt} {id g : Nat} {ids : List Nat} {σ σ' : Store} (h : NAt n id g ids σ) (h1 : σ' id = σ id) (h2 : ∀ q ∈ ids, σ' q = σ q) : NAt n id g ids σ' := by
  obtain ⟨m, gm, hm, sm, h⟩ := h
  refine ⟨m, gm, hm, by rw [h2 m hm, sm], ?_⟩
  rcases h with ⟨a, b, c⟩ | ⟨a, q, gq, hq, hqm, c, d⟩
  · exact .inl ⟨a, b, by rw [h1, c]⟩
  · exact .inr ⟨a, q, gq, hq, hqm, by rw [h1, c], by rw [h2 q hq, d]⟩
theorem NAt.ids {n : Nt} {id g : Nat} {ids ids' : List Nat} {σ : Store} (h : NAt n id g ids σ) (hi : ∀ q ∈ ids, q ∈ ids') : NAt n id g ids' σ := by
  obtain ⟨m, gm, hm, sm, h⟩ := h
  refine ⟨m, gm, hi m hm, sm, ?_⟩
  rcases h with h | ⟨a, q, gq, hq, hqm, c, d⟩
  · exact .inl h
  · exact .inr ⟨a, q, gq, hi q hq, hqm, c, d⟩
end Go.Vm
namespace Go.Vm.Ytcnnlnpebpakjaa
open Go.Proofs
variable {σ : Store} {base : Nat}
theorem callP_ok {ms : List Mode} {vs xs : List V} {G : List V → Option (V × List V)} {mv bo : List Nat} (h : okMB mv bo = true) : callP σ base ms vs G (some (xs, mv, bo)) = callG σ base ms vs mv bo (G xs) := by rw [callP_b, if_pos h]
theorem ncall {f : Nat} {F : IFun} {bs : List Mode} {vs xs : List V} {r : V} {bo : List Nat} (hf : fns f = some (some (.io :: bs), F)) (n n' : Nt) (id g : Nat) (ids : List Nat) (h : NAt n id g ids σ) (hid : id ≠ base ∧ id ≠ base + 1 ∧ id ∉ ids) (hn' : n'.f = false → n'.l = [])
    (hp : passV σ bs vs = some (xs, [], bo)) (hbo : ∀ b ∈ bo, b ≠ id ∧ b ∉ ids) (hG : Gf fns f (netV n :: xs) = some (r, [netV n'])) (hr : ∀ σ' k, matV σ' 8 k r = some (r, [], k)) (hro : hasRo 8 r = false) (hb : ∀ k σ', backV σ' k bs vs [] = some []) :
    ∃ σ', callR (tabW fns) σ base f (.ptr id g 0 :: vs) = some (r, σ') ∧ NAt n' id g (base :: (base + 1) :: ids) σ' ∧ ∀ i, i ≠ id → i ≠ base → i ≠ base + 1 → i ∉ ids → σ' i = σ i := by
  have eb : (id == base) = false := beq_no hid.1
  have eb2 : (base == id) = false := beq_no (fun c => hid.1 c.symm)
  have eb3 : (id == base + 1) = false := beq_no hid.2.1
  have eb4 : (base + 1 == id) = false := beq_no (fun c => hid.2.1 c.symm)
  have eb5 : (base == base + 1) = false := beq_no (by omega)
  have eb6 : (base + 1 == base) = false := beq_no (by omega)
  rw [callR_T hf]
  obtain ⟨m, gm, hm, sm, h⟩ := h
  have hmid : m ≠ id := fun c => hid.2.2 (c ▸ hm)
  have m1 : (m == id) = false := beq_no hmid
  have m2 : (id == m) = false := beq_no (fun c => hmid c.symm)
  rcases h with ⟨a, b, c⟩ | ⟨a, q, gq, hq, hqm, c, dq⟩
  · have hmb : okMB [id, m] bo = true := by
      rw [← okMB_iff]
      refine ⟨by simp; exact fun c => hmid c.symm, fun i hi => ?_⟩
      have := hbo i hi
      simp only [List.mem_cons, List.not_mem_nil, or_false, not_or]
      exact ⟨this.1, fun c => this.2 (c ▸ hm)⟩
    have hG' := hG
    simp -implicitDefEqProofs (disch := omega) only [go_sem, Nat.reduceAdd, Nat.reduceMul, Nat.reduceSub, Nat.reduceEqDiff, Nat.reduceLT, Nat.reduceLeDiff, reduceIte, reduceCtorEq, Int.reduceLE, Int.reduceLT, Int.reduceGE, Int.reduceGT, Int.reduceAdd, Int.reduceSub, Int.reduceMul, Int.reduceToNat, Int.reduceBEq, Int.reduceBNe, Nat.reduceBEq, Nat.reduceDiv, Nat.reduceMod, Nat.reduceBEq, Int.reduceNeg, Int.reduceToNat, Int.reduceEq, Nat.reduceLeDiff, netV, a] at hG'
    cases hf' : n'.f
    · have hl' := hn' hf'
      simp -implicitDefEqProofs (disch := omega) only [go_sem, Nat.reduceAdd, Nat.reduceMul, Nat.reduceSub, Nat.reduceEqDiff, Nat.reduceLT, Nat.reduceLeDiff, reduceIte, reduceCtorEq, Int.reduceLE, Int.reduceLT, Int.reduceGE, Int.reduceGT, Int.reduceAdd, Int.reduceSub, Int.reduceMul, Int.reduceToNat, Int.reduceBEq, Int.reduceBNe, Nat.reduceBEq, Nat.reduceDiv, Nat.reduceMod, Nat.reduceBEq, Int.reduceNeg, Int.reduceToNat, Int.reduceEq, Nat.reduceLeDiff, hf'] at hG'
      simp -implicitDefEqProofs (disch := omega) only [go_sem, Nat.reduceAdd, Nat.reduceMul, Nat.reduceSub, Nat.reduceEqDiff, Nat.reduceLT, Nat.reduceLeDiff, reduceIte, reduceCtorEq, Int.reduceLE, Int.reduceLT, Int.reduceGE, Int.reduceGT, Int.reduceAdd, Int.reduceSub, Int.reduceMul, Int.reduceToNat, Int.reduceBEq, Int.reduceBNe, Nat.reduceBEq, Nat.reduceDiv, Nat.reduceMod, Nat.reduceBEq, Int.reduceNeg, Int.reduceToNat, Int.reduceEq, Nat.reduceLeDiff, c, sm, hp, hG', hb, hr, hro, m1, m2, eb, eb2, callP_ok hmb]
      refine ⟨_, rfl, ⟨base, (σ base).gen + 1, by simp, by simp -implicitDefEqProofs (disch := omega) only [go_sem, Nat.reduceAdd, Nat.reduceMul, Nat.reduceSub, Nat.reduceEqDiff, Nat.reduceLT, Nat.reduceLeDiff, reduceIte, reduceCtorEq, Int.reduceLE, Int.reduceLT, Int.reduceGE, Int.reduceGT, Int.reduceAdd, Int.reduceSub, Int.reduceMul, Int.reduceToNat, Int.reduceBEq, Int.reduceBNe, Nat.reduceBEq, Nat.reduceDiv, Nat.reduceMod, Nat.reduceBEq, Int.reduceNeg, Int.reduceToNat, Int.reduceEq, Nat.reduceLeDiff, eb2], .inl ⟨hf', hl', by simp -implicitDefEqProofs (disch := omega) only [go_sem, Nat.reduceAdd, Nat.reduceMul, Nat.reduceSub, Nat.reduceEqDiff, Nat.reduceLT, Nat.reduceLeDiff, reduceIte, reduceCtorEq, Int.reduceLE, Int.reduceLT, Int.reduceGE, Int.reduceGT, Int.reduceAdd, Int.reduceSub, Int.reduceMul, Int.reduceToNat, Int.reduceBEq, Int.reduceBNe, Nat.reduceBEq, Nat.reduceDiv, Nat.reduceMod, Nat.reduceBEq, Int.reduceNeg, Int.reduceToNat, Int.reduceEq, Nat.reduceLeDiff, go_sem]⟩⟩, fun i h1 h2 h3 h4 => ?_⟩
      have : i ≠ m := fun c => h4 (c ▸ hm)
      simp -implicitDefEqProofs (disch := omega) only [go_sem, Nat.reduceAdd, Nat.reduceMul, Nat.reduceSub, Nat.reduceEqDiff, Nat.reduceLT, Nat.reduceLeDiff, reduceIte, reduceCtorEq, Int.reduceLE, Int.reduceLT, Int.reduceGE, Int.reduceGT, Int.reduceAdd, Int.reduceSub, Int.reduceMul, Int.reduceToNat, Int.reduceBEq, Int.reduceBNe, Nat.reduceBEq, Nat.reduceDiv, Nat.reduceMod, Nat.reduceBEq, Int.reduceNeg, Int.reduceToNat, Int.reduceEq, Nat.reduceLeDiff, beq_no h1, beq_no h2, beq_no this]
    · simp -implicitDefEqProofs (disch := omega) only [go_sem, Nat.reduceAdd, Nat.reduceMul, Nat.reduceSub, Nat.reduceEqDiff, Nat.reduceLT, Nat.reduceLeDiff, reduceIte, reduceCtorEq, Int.reduceLE, Int.reduceLT, Int.reduceGE, Int.reduceGT, Int.reduceAdd, Int.reduceSub, Int.reduceMul, Int.reduceToNat, Int.reduceBEq, Int.reduceBNe, Nat.reduceBEq, Nat.reduceDiv, Nat.reduceMod, Nat.reduceBEq, Int.reduceNeg, Int.reduceToNat, Int.reduceEq, Nat.reduceLeDiff, hf'] at hG'
      simp -implicitDefEqProofs (disch := omega) only [go_sem, Nat.reduceAdd, Nat.reduceMul, Nat.reduceSub, Nat.reduceEqDiff, Nat.reduceLT, Nat.reduceLeDiff, reduceIte, reduceCtorEq, Int.reduceLE, Int.reduceLT, Int.reduceGE, Int.reduceGT, Int.reduceAdd, Int.reduceSub, Int.reduceMul, Int.reduceToNat, Int.reduceBEq, Int.reduceBNe, Nat.reduceBEq, Nat.reduceDiv, Nat.reduceMod, Nat.reduceBEq, Int.reduceNeg, Int.reduceToNat, Int.reduceEq, Nat.reduceLeDiff, c, sm, hp, hG', hb, hr, hro, m1, m2, eb, eb2, eb3, eb4, eb5, eb6, callP_ok hmb, rowP_ro]
      refine ⟨_, rfl, ⟨base + 1, (σ (base + 1)).gen + 1, by simp, by simp -implicitDefEqProofs (disch := omega) only [go_sem, Nat.reduceAdd, Nat.reduceMul, Nat.reduceSub, Nat.reduceEqDiff, Nat.reduceLT, Nat.reduceLeDiff, reduceIte, reduceCtorEq, Int.reduceLE, Int.reduceLT, Int.reduceGE, Int.reduceGT, Int.reduceAdd, Int.reduceSub, Int.reduceMul, Int.reduceToNat, Int.reduceBEq, Int.reduceBNe, Nat.reduceBEq, Nat.reduceDiv, Nat.reduceMod, Nat.reduceBEq, Int.reduceNeg, Int.reduceToNat, Int.reduceEq, Nat.reduceLeDiff, eb4], .inr ⟨hf', base, (σ base).gen + 1, by simp, by omega, by simp -implicitDefEqProofs (disch := omega) only [go_sem, Nat.reduceAdd, Nat.reduceMul, Nat.reduceSub, Nat.reduceEqDiff, Nat.reduceLT, Nat.reduceLeDiff, reduceIte, reduceCtorEq, Int.reduceLE, Int.reduceLT, Int.reduceGE, Int.reduceGT, Int.reduceAdd, Int.reduceSub, Int.reduceMul, Int.reduceToNat, Int.reduceBEq, Int.reduceBNe, Nat.reduceBEq, Nat.reduceDiv, Nat.reduceMod, Nat.reduceBEq, Int.reduceNeg, Int.reduceToNat, Int.reduceEq, Nat.reduceLeDiff, go_sem], by simp -implicitDefEqProofs (disch := omega) only [go_sem, Nat.reduceAdd, Nat.reduceMul, Nat.reduceSub, Nat.reduceEqDiff, Nat.reduceLT, Nat.reduceLeDiff, reduceIte, reduceCtorEq, Int.reduceLE, Int.reduceLT, Int.reduceGE, Int.reduceGT, Int.reduceAdd, Int.reduceSub, Int.reduceMul, Int.reduceToNat, Int.reduceBEq, Int.reduceBNe, Nat.reduceBEq, Nat.reduceDiv, Nat.reduceMod, Nat.reduceBEq, Int.reduceNeg, Int.reduceToNat, Int.reduceEq, Nat.reduceLeDiff, eb2, eb5]⟩⟩, fun i h1 h2 h3 h4 => ?_⟩
      have : i ≠ m := fun c => h4 (c ▸ hm)
      simp -implicitDefEqProofs (disch := omega) only [go_sem, Nat.reduceAdd, Nat.reduceMul, Nat.reduceSub, Nat.reduceEqDiff, Nat.reduceLT, Nat.reduceLeDiff, reduceIte, reduceCtorEq, Int.reduceLE, Int.reduceLT, Int.reduceGE, Int.reduceGT, Int.reduceAdd, Int.reduceSub, Int.reduceMul, Int.reduceToNat, Int.reduceBEq, Int.reduceBNe, Nat.reduceBEq, Nat.reduceDiv, Nat.reduceMod, Nat.reduceBEq, Int.reduceNeg, Int.reduceToNat, Int.reduceEq, Nat.reduceLeDiff, beq_no h1, beq_no h2, beq_no h3, beq_no this]
  · have hqid : q ≠ id := fun c => hid.2.2 (c ▸ hq)
    have q1 : (q == id) = false := beq_no hqid
    have q2 : (id == q) = false := beq_no (fun c => hqid c.symm)
    have q3 : (q == m) = false := beq_no hqm
    have q4 : (m == q) = false := beq_no (fun c => hqm c.symm)
    have hrl : (rows rowP n.l).length = n.l.length * 3 := rows_length rowP_len n.l
    have hmb : okMB [id, q, m] bo = true := by
      rw [← okMB_iff]
      refine ⟨by simp; exact ⟨⟨fun c => hqid c.symm, fun c => hmid c.symm⟩, hqm⟩, fun i hi => ?_⟩
      have := hbo i hi
      simp only [List.mem_cons, List.not_mem_nil, or_false, not_or]
      exact ⟨this.1, fun c => this.2 (c ▸ hq), fun c => this.2 (c ▸ hm)⟩
    have hG' := hG
    simp -implicitDefEqProofs (disch := omega) only [go_sem, Nat.reduceAdd, Nat.reduceMul, Nat.reduceSub, Nat.reduceEqDiff, Nat.reduceLT, Nat.reduceLeDiff, reduceIte, reduceCtorEq, Int.reduceLE, Int.reduceLT, Int.reduceGE, Int.reduceGT, Int.reduceAdd, Int.reduceSub, Int.reduceMul, Int.reduceToNat, Int.reduceBEq, Int.reduceBNe, Nat.reduceBEq, Nat.reduceDiv, Nat.reduceMod, Nat.reduceBEq, Int.reduceNeg, Int.reduceToNat, Int.reduceEq, Nat.reduceLeDiff, netV, a] at hG'
    cases hf' : n'.f
    · have hl' := hn' hf'
      simp -implicitDefEqProofs (disch := omega) only [go_sem, Nat.reduceAdd, Nat.reduceMul, Nat.reduceSub, Nat.reduceEqDiff, Nat.reduceLT, Nat.reduceLeDiff, reduceIte, reduceCtorEq, Int.reduceLE, Int.reduceLT, Int.reduceGE, Int.reduceGT, Int.reduceAdd, Int.reduceSub, Int.reduceMul, Int.reduceToNat, Int.reduceBEq, Int.reduceBNe, Nat.reduceBEq, Nat.reduceDiv, Nat.reduceMod, Nat.reduceBEq, Int.reduceNeg, Int.reduceToNat, Int.reduceEq, Nat.reduceLeDiff, hf'] at hG'
      simp -implicitDefEqProofs (disch := omega) only [go_sem, Nat.reduceAdd, Nat.reduceMul, Nat.reduceSub, Nat.reduceEqDiff, Nat.reduceLT, Nat.reduceLeDiff, reduceIte, reduceCtorEq, Int.reduceLE, Int.reduceLT, Int.reduceGE, Int.reduceGT, Int.reduceAdd, Int.reduceSub, Int.reduceMul, Int.reduceToNat, Int.reduceBEq, Int.reduceBNe, Nat.reduceBEq, Nat.reduceDiv, Nat.reduceMod, Nat.reduceBEq, Int.reduceNeg, Int.reduceToNat, Int.reduceEq, Nat.reduceLeDiff, c, sm, dq, hp, hG', hb, hr, hro, m1, m2, q1, q2, q3, q4, eb, eb2, callP_ok hmb]
      refine ⟨_, rfl, ⟨base, (σ base).gen + 1, by simp, by simp -implicitDefEqProofs (disch := omega) only [go_sem, Nat.reduceAdd, Nat.reduceMul, Nat.reduceSub, Nat.reduceEqDiff, Nat.reduceLT, Nat.reduceLeDiff, reduceIte, reduceCtorEq, Int.reduceLE, Int.reduceLT, Int.reduceGE, Int.reduceGT, Int.reduceAdd, Int.reduceSub, Int.reduceMul, Int.reduceToNat, Int.reduceBEq, Int.reduceBNe, Nat.reduceBEq, Nat.reduceDiv, Nat.reduceMod, Nat.reduceBEq, Int.reduceNeg, Int.reduceToNat, Int.reduceEq, Nat.reduceLeDiff, eb2], .inl ⟨hf', hl', by simp -implicitDefEqProofs (disch := omega) only [go_sem, Nat.reduceAdd, Nat.reduceMul, Nat.reduceSub, Nat.reduceEqDiff, Nat.reduceLT, Nat.reduceLeDiff, reduceIte, reduceCtorEq, Int.reduceLE, Int.reduceLT, Int.reduceGE, Int.reduceGT, Int.reduceAdd, Int.reduceSub, Int.reduceMul, Int.reduceToNat, Int.reduceBEq, Int.reduceBNe, Nat.reduceBEq, Nat.reduceDiv, Nat.reduceMod, Nat.reduceBEq, Int.reduceNeg, Int.reduceToNat, Int.reduceEq, Nat.reduceLeDiff, go_sem]⟩⟩, fun i h1 h2 h3 h4 => ?_⟩
      have h5 : i ≠ m := fun c => h4 (c ▸ hm)
      have h6 : i ≠ q := fun c => h4 (c ▸ hq)
      simp -implicitDefEqProofs (disch := omega) only [go_sem, Nat.reduceAdd, Nat.reduceMul, Nat.reduceSub, Nat.reduceEqDiff, Nat.reduceLT, Nat.reduceLeDiff, reduceIte, reduceCtorEq, Int.reduceLE, Int.reduceLT, Int.reduceGE, Int.reduceGT, Int.reduceAdd, Int.reduceSub, Int.reduceMul, Int.reduceToNat, Int.reduceBEq, Int.reduceBNe, Nat.reduceBEq, Nat.reduceDiv, Nat.reduceMod, Nat.reduceBEq, Int.reduceNeg, Int.reduceToNat, Int.reduceEq, Nat.reduceLeDiff, beq_no h1, beq_no h2, beq_no h5, beq_no h6]
    · simp -implicitDefEqProofs (disch := omega) only [go_sem, Nat.reduceAdd, Nat.reduceMul, Nat.reduceSub, Nat.reduceEqDiff, Nat.reduceLT, Nat.reduceLeDiff, reduceIte, reduceCtorEq, Int.reduceLE, Int.reduceLT, Int.reduceGE, Int.reduceGT, Int.reduceAdd, Int.reduceSub, Int.reduceMul, Int.reduceToNat, Int.reduceBEq, Int.reduceBNe, Nat.reduceBEq, Nat.reduceDiv, Nat.reduceMod, Nat.reduceBEq, Int.reduceNeg, Int.reduceToNat, Int.reduceEq, Nat.reduceLeDiff, hf'] at hG'
      simp -implicitDefEqProofs (disch := omega) only [go_sem, Nat.reduceAdd, Nat.reduceMul, Nat.reduceSub, Nat.reduceEqDiff, Nat.reduceLT, Nat.reduceLeDiff, reduceIte, reduceCtorEq, Int.reduceLE, Int.reduceLT, Int.reduceGE, Int.reduceGT, Int.reduceAdd, Int.reduceSub, Int.reduceMul, Int.reduceToNat, Int.reduceBEq, Int.reduceBNe, Nat.reduceBEq, Nat.reduceDiv, Nat.reduceMod, Nat.reduceBEq, Int.reduceNeg, Int.reduceToNat, Int.reduceEq, Nat.reduceLeDiff, c, sm, dq, hp, hG', hb, hr, hro, m1, m2, q1, q2, q3, q4, eb, eb2, eb3, eb4, eb5, eb6, callP_ok hmb, rowP_ro]
      refine ⟨_, rfl, ⟨base + 1, (σ (base + 1)).gen + 1, by simp, by simp -implicitDefEqProofs (disch := omega) only [go_sem, Nat.reduceAdd, Nat.reduceMul, Nat.reduceSub, Nat.reduceEqDiff, Nat.reduceLT, Nat.reduceLeDiff, reduceIte, reduceCtorEq, Int.reduceLE, Int.reduceLT, Int.reduceGE, Int.reduceGT, Int.reduceAdd, Int.reduceSub, Int.reduceMul, Int.reduceToNat, Int.reduceBEq, Int.reduceBNe, Nat.reduceBEq, Nat.reduceDiv, Nat.reduceMod, Nat.reduceBEq, Int.reduceNeg, Int.reduceToNat, Int.reduceEq, Nat.reduceLeDiff, eb4], .inr ⟨hf', base, (σ base).gen + 1, by simp, by omega, by simp -implicitDefEqProofs (disch := omega) only [go_sem, Nat.reduceAdd, Nat.reduceMul, Nat.reduceSub, Nat.reduceEqDiff, Nat.reduceLT, Nat.reduceLeDiff, reduceIte, reduceCtorEq, Int.reduceLE, Int.reduceLT, Int.reduceGE, Int.reduceGT, Int.reduceAdd, Int.reduceSub, Int.reduceMul, Int.reduceToNat, Int.reduceBEq, Int.reduceBNe, Nat.reduceBEq, Nat.reduceDiv, Nat.reduceMod, Nat.reduceBEq, Int.reduceNeg, Int.reduceToNat, Int.reduceEq, Nat.reduceLeDiff, go_sem], by simp -implicitDefEqProofs (disch := omega) only [go_sem, Nat.reduceAdd, Nat.reduceMul, Nat.reduceSub, Nat.reduceEqDiff, Nat.reduceLT, Nat.reduceLeDiff, reduceIte, reduceCtorEq, Int.reduceLE, Int.reduceLT, Int.reduceGE, Int.reduceGT, Int.reduceAdd, Int.reduceSub, Int.reduceMul, Int.reduceToNat, Int.reduceBEq, Int.reduceBNe, Nat.reduceBEq, Nat.reduceDiv, Nat.reduceMod, Nat.reduceBEq, Int.reduceNeg, Int.reduceToNat, Int.reduceEq, Nat.reduceLeDiff, eb2, eb5]⟩⟩, fun i h1 h2 h3 h4 => ?_⟩
      have h5 : i ≠ m := fun c => h4 (c ▸ hm)
      have h6 : i ≠ q := fun c => h4 (c ▸ hq)
      simp -implicitDefEqProofs (disch := omega) only [go_sem, Nat.reduceAdd, Nat.reduceMul, Nat.reduceSub, Nat.reduceEqDiff, Nat.reduceLT, Nat.reduceLeDiff, reduceIte, reduceCtorEq, Int.reduceLE, Int.reduceLT, Int.reduceGE, Int.reduceGT, Int.reduceAdd, Int.reduceSub, Int.reduceMul, Int.reduceToNat, Int.reduceBEq, Int.reduceBNe, Nat.reduceBEq, Nat.reduceDiv, Nat.reduceMod, Nat.reduceBEq, Int.reduceNeg, Int.reduceToNat, Int.reduceEq, Nat.reduceLeDiff, beq_no h1, beq_no h2, beq_no h3, beq_no h5, beq_no h6]
end Go.Vm.Ytcnnlnpebpakjaa
