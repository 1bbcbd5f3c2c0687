/- SHA-256: texts taken in piece by piece; digests of parts for a purpose. -/
import Derived.Test.YthfcgllahllkkaaShaR
set_option linter.unusedSectionVars false
set_option linter.unusedSimpArgs false
set_option linter.unusedVariables false
set_option maxHeartbeats 1000000
set_option maxRecDepth 10000
namespace Go.Vm
theorem absorb_nil (h : H8) : absorb h [] = (h, []) := absorb_lt h [] (by simp)
/-- A digest that has taken in a text, in a block of the caller's. -/
def Stream (X : List UInt8) (id g : Nat) (ids : List Nat) (σ : Store) : Prop :=
  ∃ rv, σ id = ⟨g, .rw, false, (absorb h0 X).1.v ++ [rv, .int .u64 ((UInt64.ofNat X.length).toNat : Int)]⟩ ∧
    ((X = [] ∧ rv = .sl .nil 0 []) ∨ (X ≠ [] ∧ ∃ q gq, q ∈ ids ∧ rv = .sli q gq 0 (absorb h0 X).2.length 1 ∧ σ q = ⟨gq, .rw, true, (absorb h0 X).2.map u8⟩))
theorem Stream.same {X : List UInt8} {id g : Nat} {ids : List Nat} {σ σ' : Store} (h : Stream X id g ids σ) (h1 : σ' id = σ id) (h2 : ∀ q ∈ ids, σ' q = σ q) : Stream X id g ids σ' := by
  obtain ⟨rv, e, hr⟩ := h
  refine ⟨rv, by rw [h1, e], ?_⟩
  rcases hr with hr | ⟨hx, q, gq, hq, hv, hs⟩
  · exact .inl hr
  · exact .inr ⟨hx, q, gq, hq, hv, by rw [h2 q hq, hs]⟩
theorem Stream.ids {X : List UInt8} {id g : Nat} {ids ids' : List Nat} {σ : Store} (h : Stream X id g ids σ) (hi : ∀ q ∈ ids, q ∈ ids') : Stream X id g ids' σ := by
  obtain ⟨rv, e, hr⟩ := h
  refine ⟨rv, e, ?_⟩
  rcases hr with hr | ⟨hx, q, gq, hq, hv, hs⟩
  · exact .inl hr
  · exact .inr ⟨hx, q, gq, hi q hq, hv, hs⟩
def tagB (p : UInt8) (l : List (List UInt8)) : List UInt8 := p :: l.flatMap fun s => four s.length ++ s
theorem tagB_snoc (p : UInt8) (l : List (List UInt8)) (s : List UInt8) : tagB p (l ++ [s]) = tagB p l ++ four s.length ++ s := by simp [tagB]
end Go.Vm
namespace Go.Vm.Ythfcgllahllkkaa
open Go.Proofs
variable {σ : Store} {base : Nat}
theorem contCn_ex {tbl : Tbl} {r : List IOp} {K : St → Prop} {t : Nat → V} {v : V} {o : Option (V × Store)} {P : Store → Prop} (h : ∃ σ', o = some (v, σ') ∧ P σ') (hk : ∀ σ', P σ' → regA tbl r K ⟨t, σ'⟩) : contCn tbl r K t o := by
  obtain ⟨σ', h1, h2⟩ := h
  exact contCn_of h1 (hk σ' h2)
theorem contC_ex {tbl : Tbl} {r : List IOp} {K : St → Prop} {t : Nat → V} {d : Nat} {v : V} {o : Option (V × Store)} {P : Store → Prop} (h : ∃ σ', o = some (v, σ') ∧ P σ') (hk : ∀ σ', P σ' → regA tbl r K ⟨upd t d v, σ'⟩) : contC tbl r K t d o := by
  obtain ⟨σ', h1, h2⟩ := h
  exact contC_of h1 (hk σ' h2)
theorem write_call (X s : List UInt8) (id g : Nat) (ids : List Nat) (h : Stream X id g ids σ) (hid : id ≠ base ∧ id ∉ ids) (hB : X.length + s.length ≤ 10000000000000) :
    ∃ σ', callR (tabW fns) σ base 32 [.ptr id g 0, .str s] = some (.tup [], σ') ∧ Stream (X ++ s) id g (base :: ids) σ' ∧ ∀ i, i ≠ id → i ≠ base → i ∉ ids → σ' i = σ i := by
  obtain ⟨rv, e, hr⟩ := h
  have hX := absorb_rest X.length h0 X (Nat.le_refl _)
  have hn : UInt64.ofNat X.length + UInt64.ofNat s.length = UInt64.ofNat (X ++ s).length := by rw [List.length_append]; simp
  have hab := absorb_app X.length h0 X s (Nat.le_refl _)
  have eb : (id == base) = false := beq_no hid.1
  have eb2 : (base == id) = false := beq_no (fun c => hid.1 c.symm)
  rcases hr with ⟨rfl, rfl⟩ | ⟨hx, q, gq, hq, rfl, hs⟩
  · rw [absorb_nil] at hX e hab
    have hw := Write_ok h0 false [] (UInt64.ofNat ([] : List UInt8).length) s (fun _ => rfl) (by simp; omega)
    rw [hn] at hw
    simp only [List.nil_append, Bool.false_or] at hw hab ⊢
    by_cases h : s = []
    · have hd2 : decide (s ≠ []) = false := by simp [h]
      rw [hd2] at hw
      simp -implicitDefEqProofs (disch := omega) only [go_sem, Nat.reduceAdd, Nat.reduceMul, Nat.reduceSub, Nat.reduceEqDiff, Nat.reduceLT, Nat.reduceLeDiff, reduceIte, reduceCtorEq, Int.reduceLE, Int.reduceLT, Int.reduceGE, Int.reduceGT, Int.reduceAdd, Int.reduceSub, Int.reduceMul, Int.reduceToNat, Int.reduceBEq, Int.reduceBNe, Nat.reduceBEq, Nat.reduceDiv, Nat.reduceMod, Int.reduceNeg, Int.reduceEq, digV, restV, H8.v] at hw
      simp -implicitDefEqProofs (disch := omega) only [go_sem, Nat.reduceAdd, Nat.reduceMul, Nat.reduceSub, Nat.reduceEqDiff, Nat.reduceLT, Nat.reduceLeDiff, reduceIte, reduceCtorEq, Int.reduceLE, Int.reduceLT, Int.reduceGE, Int.reduceGT, Int.reduceAdd, Int.reduceSub, Int.reduceMul, Int.reduceToNat, Int.reduceBEq, Int.reduceBNe, Nat.reduceBEq, Nat.reduceDiv, Nat.reduceMod, Int.reduceNeg, Int.reduceEq, callr32, e, H8.v, hw]
      refine ⟨_, rfl, ⟨.sl .nil 0 [], ?_, .inl ⟨h, rfl⟩⟩, fun i h1 h2 h3 => ?_⟩
      · simp -implicitDefEqProofs (disch := omega) only [go_sem, Nat.reduceAdd, Nat.reduceMul, Nat.reduceSub, Nat.reduceEqDiff, Nat.reduceLT, Nat.reduceLeDiff, reduceIte, reduceCtorEq, Int.reduceLE, Int.reduceLT, Int.reduceGE, Int.reduceGT, Int.reduceAdd, Int.reduceSub, Int.reduceMul, Int.reduceToNat, Int.reduceBEq, Int.reduceBNe, Nat.reduceBEq, Nat.reduceDiv, Nat.reduceMod, Int.reduceNeg, Int.reduceEq, H8.v]
      · simp -implicitDefEqProofs (disch := omega) only [go_sem, Nat.reduceAdd, Nat.reduceMul, Nat.reduceSub, Nat.reduceEqDiff, Nat.reduceLT, Nat.reduceLeDiff, reduceIte, reduceCtorEq, Int.reduceLE, Int.reduceLT, Int.reduceGE, Int.reduceGT, Int.reduceAdd, Int.reduceSub, Int.reduceMul, Int.reduceToNat, Int.reduceBEq, Int.reduceBNe, Nat.reduceBEq, Nat.reduceDiv, Nat.reduceMod, Int.reduceNeg, Int.reduceEq, beq_no h1]
    · have hd2 : decide (s ≠ []) = true := by simp [h]
      rw [hd2] at hw
      simp -implicitDefEqProofs (disch := omega) only [go_sem, Nat.reduceAdd, Nat.reduceMul, Nat.reduceSub, Nat.reduceEqDiff, Nat.reduceLT, Nat.reduceLeDiff, reduceIte, reduceCtorEq, Int.reduceLE, Int.reduceLT, Int.reduceGE, Int.reduceGT, Int.reduceAdd, Int.reduceSub, Int.reduceMul, Int.reduceToNat, Int.reduceBEq, Int.reduceBNe, Nat.reduceBEq, Nat.reduceDiv, Nat.reduceMod, Int.reduceNeg, Int.reduceEq, digV, restV, H8.v] at hw
      simp -implicitDefEqProofs (disch := omega) only [go_sem, Nat.reduceAdd, Nat.reduceMul, Nat.reduceSub, Nat.reduceEqDiff, Nat.reduceLT, Nat.reduceLeDiff, reduceIte, reduceCtorEq, Int.reduceLE, Int.reduceLT, Int.reduceGE, Int.reduceGT, Int.reduceAdd, Int.reduceSub, Int.reduceMul, Int.reduceToNat, Int.reduceBEq, Int.reduceBNe, Nat.reduceBEq, Nat.reduceDiv, Nat.reduceMod, Int.reduceNeg, Int.reduceEq, callr32, e, H8.v, hw, eb, eb2]
      refine ⟨_, rfl, ⟨_, ?_, .inr ⟨h, base, (σ base).gen + 1, by simp, rfl, ?_⟩⟩, fun i h1 h2 h3 => ?_⟩
      · simp -implicitDefEqProofs (disch := omega) only [go_sem, Nat.reduceAdd, Nat.reduceMul, Nat.reduceSub, Nat.reduceEqDiff, Nat.reduceLT, Nat.reduceLeDiff, reduceIte, reduceCtorEq, Int.reduceLE, Int.reduceLT, Int.reduceGE, Int.reduceGT, Int.reduceAdd, Int.reduceSub, Int.reduceMul, Int.reduceToNat, Int.reduceBEq, Int.reduceBNe, Nat.reduceBEq, Nat.reduceDiv, Nat.reduceMod, Int.reduceNeg, Int.reduceEq, H8.v]
      · simp -implicitDefEqProofs (disch := omega) only [go_sem, Nat.reduceAdd, Nat.reduceMul, Nat.reduceSub, Nat.reduceEqDiff, Nat.reduceLT, Nat.reduceLeDiff, reduceIte, reduceCtorEq, Int.reduceLE, Int.reduceLT, Int.reduceGE, Int.reduceGT, Int.reduceAdd, Int.reduceSub, Int.reduceMul, Int.reduceToNat, Int.reduceBEq, Int.reduceBNe, Nat.reduceBEq, Nat.reduceDiv, Nat.reduceMod, Int.reduceNeg, Int.reduceEq, eb2]
      · simp -implicitDefEqProofs (disch := omega) only [go_sem, Nat.reduceAdd, Nat.reduceMul, Nat.reduceSub, Nat.reduceEqDiff, Nat.reduceLT, Nat.reduceLeDiff, reduceIte, reduceCtorEq, Int.reduceLE, Int.reduceLT, Int.reduceGE, Int.reduceGT, Int.reduceAdd, Int.reduceSub, Int.reduceMul, Int.reduceToNat, Int.reduceBEq, Int.reduceBNe, Nat.reduceBEq, Nat.reduceDiv, Nat.reduceMod, Int.reduceNeg, Int.reduceEq, beq_no h1, beq_no h2]
  · have hid2 : id ≠ q := fun c => hid.2 (c ▸ hq)
    have hw := Write_ok (absorb h0 X).1 true (absorb h0 X).2 (UInt64.ofNat X.length) s (fun h => by cases h) (by omega)
    rw [hn, ← hab] at hw
    have hd2 : (true || decide (s ≠ [])) = true := rfl
    have hxs : X ++ s ≠ [] := by simp [hx]
    have e1 : (id == q) = false := beq_no hid2
    have e2 : (q == id) = false := beq_no (fun c => hid2 c.symm)
    rw [hd2] at hw
    simp -implicitDefEqProofs (disch := omega) only [go_sem, Nat.reduceAdd, Nat.reduceMul, Nat.reduceSub, Nat.reduceEqDiff, Nat.reduceLT, Nat.reduceLeDiff, reduceIte, reduceCtorEq, Int.reduceLE, Int.reduceLT, Int.reduceGE, Int.reduceGT, Int.reduceAdd, Int.reduceSub, Int.reduceMul, Int.reduceToNat, Int.reduceBEq, Int.reduceBNe, Nat.reduceBEq, Nat.reduceDiv, Nat.reduceMod, Int.reduceNeg, Int.reduceEq, digV, restV, H8.v] at hw
    simp -implicitDefEqProofs (disch := omega) only [go_sem, Nat.reduceAdd, Nat.reduceMul, Nat.reduceSub, Nat.reduceEqDiff, Nat.reduceLT, Nat.reduceLeDiff, reduceIte, reduceCtorEq, Int.reduceLE, Int.reduceLT, Int.reduceGE, Int.reduceGT, Int.reduceAdd, Int.reduceSub, Int.reduceMul, Int.reduceToNat, Int.reduceBEq, Int.reduceBNe, Nat.reduceBEq, Nat.reduceDiv, Nat.reduceMod, Int.reduceNeg, Int.reduceEq, callr32, e, H8.v, hs, hw, eb, eb2, e1, e2]
    refine ⟨_, rfl, ⟨_, ?_, .inr ⟨hxs, base, (σ base).gen + 1, by simp, rfl, ?_⟩⟩, fun i h1 h2 h3 => ?_⟩
    · simp -implicitDefEqProofs (disch := omega) only [go_sem, Nat.reduceAdd, Nat.reduceMul, Nat.reduceSub, Nat.reduceEqDiff, Nat.reduceLT, Nat.reduceLeDiff, reduceIte, reduceCtorEq, Int.reduceLE, Int.reduceLT, Int.reduceGE, Int.reduceGT, Int.reduceAdd, Int.reduceSub, Int.reduceMul, Int.reduceToNat, Int.reduceBEq, Int.reduceBNe, Nat.reduceBEq, Nat.reduceDiv, Nat.reduceMod, Int.reduceNeg, Int.reduceEq, H8.v]
    · simp -implicitDefEqProofs (disch := omega) only [go_sem, Nat.reduceAdd, Nat.reduceMul, Nat.reduceSub, Nat.reduceEqDiff, Nat.reduceLT, Nat.reduceLeDiff, reduceIte, reduceCtorEq, Int.reduceLE, Int.reduceLT, Int.reduceGE, Int.reduceGT, Int.reduceAdd, Int.reduceSub, Int.reduceMul, Int.reduceToNat, Int.reduceBEq, Int.reduceBNe, Nat.reduceBEq, Nat.reduceDiv, Nat.reduceMod, Int.reduceNeg, Int.reduceEq, eb2]
    · have : i ≠ q := fun c => h3 (c ▸ hq)
      simp -implicitDefEqProofs (disch := omega) only [go_sem, Nat.reduceAdd, Nat.reduceMul, Nat.reduceSub, Nat.reduceEqDiff, Nat.reduceLT, Nat.reduceLeDiff, reduceIte, reduceCtorEq, Int.reduceLE, Int.reduceLT, Int.reduceGE, Int.reduceGT, Int.reduceAdd, Int.reduceSub, Int.reduceMul, Int.reduceToNat, Int.reduceBEq, Int.reduceBNe, Nat.reduceBEq, Nat.reduceDiv, Nat.reduceMod, Int.reduceNeg, Int.reduceEq, beq_no h1, beq_no h2, beq_no this]
theorem sum_call (X : List UInt8) (id g : Nat) (ids : List Nat) (h : Stream X id g ids σ) (hB : X.length ≤ 10000000000000) : callR (tabW fns) σ base 34 [.ptr id g 0] = some (.str (sha X), σ) := by
  obtain ⟨rv, e, hr⟩ := h
  have hX := absorb_rest X.length h0 X (Nat.le_refl _)
  have hf : sha X = finish (absorb h0 X).1 (absorb h0 X).2 (UInt64.ofNat X.length) := by unfold sha; rw [UInt64.zero_add]
  rw [hf]
  rcases hr with ⟨rfl, rfl⟩ | ⟨hx, q, gq, hq, rfl, hs⟩
  · have hd := DSum_ok (absorb h0 []).1 false (absorb h0 []).2 (UInt64.ofNat ([] : List UInt8).length) (fun _ => by rw [absorb_nil]) (by omega)
    simp -implicitDefEqProofs (disch := omega) only [go_sem, Nat.reduceAdd, Nat.reduceMul, Nat.reduceSub, Nat.reduceEqDiff, Nat.reduceLT, Nat.reduceLeDiff, reduceIte, reduceCtorEq, Int.reduceLE, Int.reduceLT, Int.reduceGE, Int.reduceGT, Int.reduceAdd, Int.reduceSub, Int.reduceMul, Int.reduceToNat, Int.reduceBEq, Int.reduceBNe, Nat.reduceBEq, Nat.reduceDiv, Nat.reduceMod, Int.reduceNeg, Int.reduceEq, H8.v, roV_] at hd
    simp -implicitDefEqProofs (disch := omega) only [go_sem, Nat.reduceAdd, Nat.reduceMul, Nat.reduceSub, Nat.reduceEqDiff, Nat.reduceLT, Nat.reduceLeDiff, reduceIte, reduceCtorEq, Int.reduceLE, Int.reduceLT, Int.reduceGE, Int.reduceGT, Int.reduceAdd, Int.reduceSub, Int.reduceMul, Int.reduceToNat, Int.reduceBEq, Int.reduceBNe, Nat.reduceBEq, Nat.reduceDiv, Nat.reduceMod, Int.reduceNeg, Int.reduceEq, callr34, e, H8.v, hd]
  · have hd := DSum_ok (absorb h0 X).1 true (absorb h0 X).2 (UInt64.ofNat X.length) (fun h => by cases h) (by omega)
    simp -implicitDefEqProofs (disch := omega) only [go_sem, Nat.reduceAdd, Nat.reduceMul, Nat.reduceSub, Nat.reduceEqDiff, Nat.reduceLT, Nat.reduceLeDiff, reduceIte, reduceCtorEq, Int.reduceLE, Int.reduceLT, Int.reduceGE, Int.reduceGT, Int.reduceAdd, Int.reduceSub, Int.reduceMul, Int.reduceToNat, Int.reduceBEq, Int.reduceBNe, Nat.reduceBEq, Nat.reduceDiv, Nat.reduceMod, Int.reduceNeg, Int.reduceEq, H8.v, roV_] at hd
    simp -implicitDefEqProofs (disch := omega) only [go_sem, Nat.reduceAdd, Nat.reduceMul, Nat.reduceSub, Nat.reduceEqDiff, Nat.reduceLT, Nat.reduceLeDiff, reduceIte, reduceCtorEq, Int.reduceLE, Int.reduceLT, Int.reduceGE, Int.reduceGT, Int.reduceAdd, Int.reduceSub, Int.reduceMul, Int.reduceToNat, Int.reduceBEq, Int.reduceBNe, Nat.reduceBEq, Nat.reduceDiv, Nat.reduceMod, Int.reduceNeg, Int.reduceEq, callr34, e, H8.v, hs, hd]
theorem new_stream (id g : Nat) (ids : List Nat) (h : σ id = ⟨g, .rw, false, h0.v ++ [.sl .nil 0 [], .int .u64 0]⟩) : Stream [] id g ids σ := ⟨.sl .nil 0 [], by rw [h, absorb_nil]; rfl, .inl ⟨rfl, rfl⟩⟩
theorem four_ok (n : Nat) (hn : n < 9223372036854775808) : Gf fns 33 [.int .i64 (n : Int)] = some (.str (four n), []) := by
  refine Gf_start rfl rfl ?_
  simp -implicitDefEqProofs (disch := omega) only [go_sem, Nat.reduceAdd, Nat.reduceMul, Nat.reduceSub, Nat.reduceEqDiff, Nat.reduceLT, Nat.reduceLeDiff, reduceIte, reduceCtorEq, Int.reduceLE, Int.reduceLT, Int.reduceGE, Int.reduceGT, Int.reduceAdd, Int.reduceSub, Int.reduceMul, Int.reduceToNat, Int.reduceBEq, Int.reduceBNe, Nat.reduceBEq, Nat.reduceDiv, Nat.reduceMod, Int.reduceNeg, Int.reduceEq, four]
def tagI (p : UInt8) (k : SK) (l : List (List UInt8)) (i : Nat) (s : St) : Prop :=
  i ≤ l.length ∧ s.t 5 = .ptr 576 1 0 ∧ s.t 14 = .sl k l.length (l.map V.str) ∧ s.t 15 = .int .i64 (l.length : Int) ∧ s.t 16 = .int .i64 (i : Int) ∧ Stream (tagB p (l.take i)) 576 1 [896, 1600, 1792] s.σ
theorem tag_take_len (p : UInt8) : ∀ (l : List (List UInt8)) (i : Nat), (tagB p (l.take i)).length ≤ (tagB p l).length
  | [], i => by simp
  | a :: l, 0 => by simp [tagB]
  | a :: l, i + 1 => by
    have := tag_take_len p l i
    simp [tagB] at this ⊢
    omega
theorem Tagged_ok (p : UInt8) (k : SK) (l : List (List UInt8)) (hl : l.length ≤ 140737488355328) (hB : (tagB p l).length ≤ 1000000000000) : Gf fns 21 [.int .u8 (p.toNat : Int), .sl k l.length (l.map V.str)] = some (.str (sha (tagB p l)), []) := by
  refine Gf_start rfl rfl ?_
  have e0 : ((0 : UInt64).toNat : Int) = 0 := rfl
  simp -implicitDefEqProofs (disch := omega) only [go_sem, Nat.reduceAdd, Nat.reduceMul, Nat.reduceSub, Nat.reduceEqDiff, Nat.reduceLT, Nat.reduceLeDiff, reduceIte, reduceCtorEq, Int.reduceLE, Int.reduceLT, Int.reduceGE, Int.reduceGT, Int.reduceAdd, Int.reduceSub, Int.reduceMul, Int.reduceToNat, Int.reduceBEq, Int.reduceBNe, Nat.reduceBEq, Nat.reduceDiv, Nat.reduceMod, Int.reduceNeg, Int.reduceEq, New_ok, digV, restV, H8.v, e0]
  refine contC_ex (write_call [] [p] 576 1 [] (new_stream _ _ _ (by simp -implicitDefEqProofs (disch := omega) only [go_sem, Nat.reduceAdd, Nat.reduceMul, Nat.reduceSub, Nat.reduceEqDiff, Nat.reduceLT, Nat.reduceLeDiff, reduceIte, reduceCtorEq, Int.reduceLE, Int.reduceLT, Int.reduceGE, Int.reduceGT, Int.reduceAdd, Int.reduceSub, Int.reduceMul, Int.reduceToNat, Int.reduceBEq, Int.reduceBNe, Nat.reduceBEq, Nat.reduceDiv, Nat.reduceMod, Int.reduceNeg, Int.reduceEq, H8.v])) (by simp) (by simp)) ?_
  rintro σ1 ⟨hs1, hf1⟩
  simp -implicitDefEqProofs (disch := omega) only [go_sem, Nat.reduceAdd, Nat.reduceMul, Nat.reduceSub, Nat.reduceEqDiff, Nat.reduceLT, Nat.reduceLeDiff, reduceIte, reduceCtorEq, Int.reduceLE, Int.reduceLT, Int.reduceGE, Int.reduceGT, Int.reduceAdd, Int.reduceSub, Int.reduceMul, Int.reduceToNat, Int.reduceBEq, Int.reduceBNe, Nat.reduceBEq, Nat.reduceDiv, Nat.reduceMod, Int.reduceNeg, Int.reduceEq, go_sem]
  refine wp_loopS (tagI p k l) (fun i => l.length - i) 0 ⟨by omega, by simp -implicitDefEqProofs (disch := omega) only [go_sem, Nat.reduceAdd, Nat.reduceMul, Nat.reduceSub, Nat.reduceEqDiff, Nat.reduceLT, Nat.reduceLeDiff, reduceIte, reduceCtorEq, Int.reduceLE, Int.reduceLT, Int.reduceGE, Int.reduceGT, Int.reduceAdd, Int.reduceSub, Int.reduceMul, Int.reduceToNat, Int.reduceBEq, Int.reduceBNe, Nat.reduceBEq, Nat.reduceDiv, Nat.reduceMod, Int.reduceNeg, Int.reduceEq, go_sem], by simp -implicitDefEqProofs (disch := omega) only [go_sem, Nat.reduceAdd, Nat.reduceMul, Nat.reduceSub, Nat.reduceEqDiff, Nat.reduceLT, Nat.reduceLeDiff, reduceIte, reduceCtorEq, Int.reduceLE, Int.reduceLT, Int.reduceGE, Int.reduceGT, Int.reduceAdd, Int.reduceSub, Int.reduceMul, Int.reduceToNat, Int.reduceBEq, Int.reduceBNe, Nat.reduceBEq, Nat.reduceDiv, Nat.reduceMod, Int.reduceNeg, Int.reduceEq, go_sem], by simp -implicitDefEqProofs (disch := omega) only [go_sem, Nat.reduceAdd, Nat.reduceMul, Nat.reduceSub, Nat.reduceEqDiff, Nat.reduceLT, Nat.reduceLeDiff, reduceIte, reduceCtorEq, Int.reduceLE, Int.reduceLT, Int.reduceGE, Int.reduceGT, Int.reduceAdd, Int.reduceSub, Int.reduceMul, Int.reduceToNat, Int.reduceBEq, Int.reduceBNe, Nat.reduceBEq, Nat.reduceDiv, Nat.reduceMod, Int.reduceNeg, Int.reduceEq, go_sem], by simp -implicitDefEqProofs (disch := omega) only [go_sem, Nat.reduceAdd, Nat.reduceMul, Nat.reduceSub, Nat.reduceEqDiff, Nat.reduceLT, Nat.reduceLeDiff, reduceIte, reduceCtorEq, Int.reduceLE, Int.reduceLT, Int.reduceGE, Int.reduceGT, Int.reduceAdd, Int.reduceSub, Int.reduceMul, Int.reduceToNat, Int.reduceBEq, Int.reduceBNe, Nat.reduceBEq, Nat.reduceDiv, Nat.reduceMod, Int.reduceNeg, Int.reduceEq, go_sem], hs1.ids (by simp)⟩ ?_
  rintro i ⟨t, σ⟩ ⟨hi, h5, h14, h15, h16, hs⟩
  simp only at h5 h14 h15 h16 hs
  simp -implicitDefEqProofs (disch := omega) only [go_sem, Nat.reduceAdd, Nat.reduceMul, Nat.reduceSub, Nat.reduceEqDiff, Nat.reduceLT, Nat.reduceLeDiff, reduceIte, reduceCtorEq, Int.reduceLE, Int.reduceLT, Int.reduceGE, Int.reduceGT, Int.reduceAdd, Int.reduceSub, Int.reduceMul, Int.reduceToNat, Int.reduceBEq, Int.reduceBNe, Nat.reduceBEq, Nat.reduceDiv, Nat.reduceMod, Int.reduceNeg, Int.reduceEq, lp21_0, h15, h16]
  refine condC_dec (fun hc => ?_) (fun hc => ?_)
  · have ht : l.take (i + 1) = l.take i ++ [gt l i] := take_gt hc
    have h1 := tag_take_len p l (i + 1)
    rw [ht, tagB_snoc, List.length_append, List.length_append] at h1
    have h4 : (four (gt l i).length).length = 4 := rfl
    simp -implicitDefEqProofs (disch := omega) only [go_sem, Nat.reduceAdd, Nat.reduceMul, Nat.reduceSub, Nat.reduceEqDiff, Nat.reduceLT, Nat.reduceLeDiff, reduceIte, reduceCtorEq, Int.reduceLE, Int.reduceLT, Int.reduceGE, Int.reduceGT, Int.reduceAdd, Int.reduceSub, Int.reduceMul, Int.reduceToNat, Int.reduceBEq, Int.reduceBNe, Nat.reduceBEq, Nat.reduceDiv, Nat.reduceMod, Int.reduceNeg, Int.reduceEq, h5, h14, h15, h16, four_ok]
    refine contC_ex (write_call (tagB p (l.take i)) (four (gt l i).length) 576 1 _ hs (by simp) (by omega)) ?_
    rintro σ2 ⟨hs2, hf2⟩
    simp -implicitDefEqProofs (disch := omega) only [go_sem, Nat.reduceAdd, Nat.reduceMul, Nat.reduceSub, Nat.reduceEqDiff, Nat.reduceLT, Nat.reduceLeDiff, reduceIte, reduceCtorEq, Int.reduceLE, Int.reduceLT, Int.reduceGE, Int.reduceGT, Int.reduceAdd, Int.reduceSub, Int.reduceMul, Int.reduceToNat, Int.reduceBEq, Int.reduceBNe, Nat.reduceBEq, Nat.reduceDiv, Nat.reduceMod, Int.reduceNeg, Int.reduceEq, h5]
    refine contC_ex (write_call _ (gt l i) 576 1 _ (hs2.ids (ids' := [896, 1600, 1792]) (by simp)) (by simp) (by simp; omega)) ?_
    rintro σ3 ⟨hs3, hf3⟩
    simp -implicitDefEqProofs (disch := omega) only [go_sem, Nat.reduceAdd, Nat.reduceMul, Nat.reduceSub, Nat.reduceEqDiff, Nat.reduceLT, Nat.reduceLeDiff, reduceIte, reduceCtorEq, Int.reduceLE, Int.reduceLT, Int.reduceGE, Int.reduceGT, Int.reduceAdd, Int.reduceSub, Int.reduceMul, Int.reduceToNat, Int.reduceBEq, Int.reduceBNe, Nat.reduceBEq, Nat.reduceDiv, Nat.reduceMod, Int.reduceNeg, Int.reduceEq, h16]
    refine ⟨i + 1, by omega, by omega, by simp -implicitDefEqProofs (disch := omega) only [go_sem, Nat.reduceAdd, Nat.reduceMul, Nat.reduceSub, Nat.reduceEqDiff, Nat.reduceLT, Nat.reduceLeDiff, reduceIte, reduceCtorEq, Int.reduceLE, Int.reduceLT, Int.reduceGE, Int.reduceGT, Int.reduceAdd, Int.reduceSub, Int.reduceMul, Int.reduceToNat, Int.reduceBEq, Int.reduceBNe, Nat.reduceBEq, Nat.reduceDiv, Nat.reduceMod, Int.reduceNeg, Int.reduceEq, h5], by simp -implicitDefEqProofs (disch := omega) only [go_sem, Nat.reduceAdd, Nat.reduceMul, Nat.reduceSub, Nat.reduceEqDiff, Nat.reduceLT, Nat.reduceLeDiff, reduceIte, reduceCtorEq, Int.reduceLE, Int.reduceLT, Int.reduceGE, Int.reduceGT, Int.reduceAdd, Int.reduceSub, Int.reduceMul, Int.reduceToNat, Int.reduceBEq, Int.reduceBNe, Nat.reduceBEq, Nat.reduceDiv, Nat.reduceMod, Int.reduceNeg, Int.reduceEq, h14], by simp -implicitDefEqProofs (disch := omega) only [go_sem, Nat.reduceAdd, Nat.reduceMul, Nat.reduceSub, Nat.reduceEqDiff, Nat.reduceLT, Nat.reduceLeDiff, reduceIte, reduceCtorEq, Int.reduceLE, Int.reduceLT, Int.reduceGE, Int.reduceGT, Int.reduceAdd, Int.reduceSub, Int.reduceMul, Int.reduceToNat, Int.reduceBEq, Int.reduceBNe, Nat.reduceBEq, Nat.reduceDiv, Nat.reduceMod, Int.reduceNeg, Int.reduceEq, h15], by simp -implicitDefEqProofs (disch := omega) only [go_sem, Nat.reduceAdd, Nat.reduceMul, Nat.reduceSub, Nat.reduceEqDiff, Nat.reduceLT, Nat.reduceLeDiff, reduceIte, reduceCtorEq, Int.reduceLE, Int.reduceLT, Int.reduceGE, Int.reduceGT, Int.reduceAdd, Int.reduceSub, Int.reduceMul, Int.reduceToNat, Int.reduceBEq, Int.reduceBNe, Nat.reduceBEq, Nat.reduceDiv, Nat.reduceMod, Int.reduceNeg, Int.reduceEq, go_sem], ?_⟩
    rw [ht, tagB_snoc]
    exact hs3.ids (by simp)
  · obtain rfl : i = l.length := by omega
    rw [List.take_length] at hs
    simp -implicitDefEqProofs (disch := omega) only [go_sem, Nat.reduceAdd, Nat.reduceMul, Nat.reduceSub, Nat.reduceEqDiff, Nat.reduceLT, Nat.reduceLeDiff, reduceIte, reduceCtorEq, Int.reduceLE, Int.reduceLT, Int.reduceGE, Int.reduceGT, Int.reduceAdd, Int.reduceSub, Int.reduceMul, Int.reduceToNat, Int.reduceBEq, Int.reduceBNe, Nat.reduceBEq, Nat.reduceDiv, Nat.reduceMod, Int.reduceNeg, Int.reduceEq, h5, sum_call _ _ _ _ hs (by omega)]
theorem four_eq (n : Nat) : four n = [byteI ((n / 16777216 : Nat) : Int), byteI ((n / 65536 : Nat) : Int), byteI ((n / 256 : Nat) : Int), byteI (n : Int)] := rfl
def rtagI (p : UInt8) (k : SK) (l : List (List UInt8)) (i : Nat) (s : St) : Prop :=
  i ≤ l.length ∧ s.t 1 = .sl k l.length (l.map V.str) ∧ s.t 5 = .str (tagB p (l.take i)) ∧ s.t 6 = .int .i64 (i : Int)
theorem RTagged_ok (p : UInt8) (k : SK) (l : List (List UInt8)) (hl : l.length ≤ 140737488355328) (hB : (tagB p l).length ≤ 1000000000000) : Gf fns 13 [.int .u8 (p.toNat : Int), .sl k l.length (l.map V.str)] = some (.str (sha (tagB p l)), []) := by
  refine Gf_start rfl rfl ?_
  simp -implicitDefEqProofs (disch := omega) only [go_sem, Nat.reduceAdd, Nat.reduceMul, Nat.reduceSub, Nat.reduceEqDiff, Nat.reduceLT, Nat.reduceLeDiff, reduceIte, reduceCtorEq, Int.reduceLE, Int.reduceLT, Int.reduceGE, Int.reduceGT, Int.reduceAdd, Int.reduceSub, Int.reduceMul, Int.reduceToNat, Int.reduceBEq, Int.reduceBNe, Nat.reduceBEq, Nat.reduceDiv, Nat.reduceMod, Int.reduceNeg, Int.reduceEq, go_sem]
  refine wp_loopS (rtagI p k l) (fun i => l.length - i) 0 ⟨by omega, by simp -implicitDefEqProofs (disch := omega) only [go_sem, Nat.reduceAdd, Nat.reduceMul, Nat.reduceSub, Nat.reduceEqDiff, Nat.reduceLT, Nat.reduceLeDiff, reduceIte, reduceCtorEq, Int.reduceLE, Int.reduceLT, Int.reduceGE, Int.reduceGT, Int.reduceAdd, Int.reduceSub, Int.reduceMul, Int.reduceToNat, Int.reduceBEq, Int.reduceBNe, Nat.reduceBEq, Nat.reduceDiv, Nat.reduceMod, Int.reduceNeg, Int.reduceEq, go_sem], by simp -implicitDefEqProofs (disch := omega) only [go_sem, Nat.reduceAdd, Nat.reduceMul, Nat.reduceSub, Nat.reduceEqDiff, Nat.reduceLT, Nat.reduceLeDiff, reduceIte, reduceCtorEq, Int.reduceLE, Int.reduceLT, Int.reduceGE, Int.reduceGT, Int.reduceAdd, Int.reduceSub, Int.reduceMul, Int.reduceToNat, Int.reduceBEq, Int.reduceBNe, Nat.reduceBEq, Nat.reduceDiv, Nat.reduceMod, Int.reduceNeg, Int.reduceEq, tagB], by simp -implicitDefEqProofs (disch := omega) only [go_sem, Nat.reduceAdd, Nat.reduceMul, Nat.reduceSub, Nat.reduceEqDiff, Nat.reduceLT, Nat.reduceLeDiff, reduceIte, reduceCtorEq, Int.reduceLE, Int.reduceLT, Int.reduceGE, Int.reduceGT, Int.reduceAdd, Int.reduceSub, Int.reduceMul, Int.reduceToNat, Int.reduceBEq, Int.reduceBNe, Nat.reduceBEq, Nat.reduceDiv, Nat.reduceMod, Int.reduceNeg, Int.reduceEq, go_sem]⟩ ?_
  rintro i ⟨t, σ⟩ ⟨hi, h1, h5, h6⟩
  simp only at h1 h5 h6
  simp -implicitDefEqProofs (disch := omega) only [go_sem, Nat.reduceAdd, Nat.reduceMul, Nat.reduceSub, Nat.reduceEqDiff, Nat.reduceLT, Nat.reduceLeDiff, reduceIte, reduceCtorEq, Int.reduceLE, Int.reduceLT, Int.reduceGE, Int.reduceGT, Int.reduceAdd, Int.reduceSub, Int.reduceMul, Int.reduceToNat, Int.reduceBEq, Int.reduceBNe, Nat.reduceBEq, Nat.reduceDiv, Nat.reduceMod, Int.reduceNeg, Int.reduceEq, lp13_0, h1, h6]
  refine condC_dec (fun hc => ?_) (fun hc => ?_)
  · have ht : l.take (i + 1) = l.take i ++ [gt l i] := take_gt hc
    have hle := tag_take_len p l (i + 1)
    rw [ht, tagB_snoc, List.length_append, List.length_append] at hle
    have h4 : (four (gt l i).length).length = 4 := rfl
    have h0 : ¬ ((16777216 : Int) = 0) ∧ ¬ ((65536 : Int) = 0) ∧ ¬ ((256 : Int) = 0) := by omega
    simp -implicitDefEqProofs (disch := omega) only [go_sem, Nat.reduceAdd, Nat.reduceMul, Nat.reduceSub, Nat.reduceEqDiff, Nat.reduceLT, Nat.reduceLeDiff, reduceIte, reduceCtorEq, Int.reduceLE, Int.reduceLT, Int.reduceGE, Int.reduceGT, Int.reduceAdd, Int.reduceSub, Int.reduceMul, Int.reduceToNat, Int.reduceBEq, Int.reduceBNe, Nat.reduceBEq, Nat.reduceDiv, Nat.reduceMod, Int.reduceNeg, Int.reduceEq, h1, h6]
    refine wp_draw_E ?_
    simp -implicitDefEqProofs (disch := omega) only [go_sem, Nat.reduceAdd, Nat.reduceMul, Nat.reduceSub, Nat.reduceEqDiff, Nat.reduceLT, Nat.reduceLeDiff, reduceIte, reduceCtorEq, Int.reduceLE, Int.reduceLT, Int.reduceGE, Int.reduceGT, Int.reduceAdd, Int.reduceSub, Int.reduceMul, Int.reduceToNat, Int.reduceBEq, Int.reduceBNe, Nat.reduceBEq, Nat.reduceDiv, Nat.reduceMod, Int.reduceNeg, Int.reduceEq, h1, h5, h6, h0.1, h0.2.1, h0.2.2]
    refine ⟨i + 1, by omega, by omega, by simp -implicitDefEqProofs (disch := omega) only [go_sem, Nat.reduceAdd, Nat.reduceMul, Nat.reduceSub, Nat.reduceEqDiff, Nat.reduceLT, Nat.reduceLeDiff, reduceIte, reduceCtorEq, Int.reduceLE, Int.reduceLT, Int.reduceGE, Int.reduceGT, Int.reduceAdd, Int.reduceSub, Int.reduceMul, Int.reduceToNat, Int.reduceBEq, Int.reduceBNe, Nat.reduceBEq, Nat.reduceDiv, Nat.reduceMod, Int.reduceNeg, Int.reduceEq, h1], ?_, by simp -implicitDefEqProofs (disch := omega) only [go_sem, Nat.reduceAdd, Nat.reduceMul, Nat.reduceSub, Nat.reduceEqDiff, Nat.reduceLT, Nat.reduceLeDiff, reduceIte, reduceCtorEq, Int.reduceLE, Int.reduceLT, Int.reduceGE, Int.reduceGT, Int.reduceAdd, Int.reduceSub, Int.reduceMul, Int.reduceToNat, Int.reduceBEq, Int.reduceBNe, Nat.reduceBEq, Nat.reduceDiv, Nat.reduceMod, Int.reduceNeg, Int.reduceEq, go_sem]⟩
    rw [ht, tagB_snoc, four_eq]
    simp -implicitDefEqProofs (disch := omega) only [go_sem, Nat.reduceAdd, Nat.reduceMul, Nat.reduceSub, Nat.reduceEqDiff, Nat.reduceLT, Nat.reduceLeDiff, reduceIte, reduceCtorEq, Int.reduceLE, Int.reduceLT, Int.reduceGE, Int.reduceGT, Int.reduceAdd, Int.reduceSub, Int.reduceMul, Int.reduceToNat, Int.reduceBEq, Int.reduceBNe, Nat.reduceBEq, Nat.reduceDiv, Nat.reduceMod, Int.reduceNeg, Int.reduceEq, go_sem]
  · obtain rfl : i = l.length := by omega
    rw [List.take_length] at h5
    simp -implicitDefEqProofs (disch := omega) only [go_sem, Nat.reduceAdd, Nat.reduceMul, Nat.reduceSub, Nat.reduceEqDiff, Nat.reduceLT, Nat.reduceLeDiff, reduceIte, reduceCtorEq, Int.reduceLE, Int.reduceLT, Int.reduceGE, Int.reduceGT, Int.reduceAdd, Int.reduceSub, Int.reduceMul, Int.reduceToNat, Int.reduceBEq, Int.reduceBNe, Nat.reduceBEq, Nat.reduceDiv, Nat.reduceMod, Int.reduceNeg, Int.reduceEq, h5, refSha_ok _ (show (tagB p l).length ≤ 10000000000000 by omega)]
theorem sum_nil : callR (tabW fns) σ base 34 [.nilp] = some (.str [], σ) := by
  have h : Gf fns 34 [.nilp] = some (.str [], []) := by
    refine Gf_start rfl rfl ?_
    simp -implicitDefEqProofs (disch := omega) only [go_sem, Nat.reduceAdd, Nat.reduceMul, Nat.reduceSub, Nat.reduceEqDiff, Nat.reduceLT, Nat.reduceLeDiff, reduceIte, reduceCtorEq, Int.reduceLE, Int.reduceLT, Int.reduceGE, Int.reduceGT, Int.reduceAdd, Int.reduceSub, Int.reduceMul, Int.reduceToNat, Int.reduceBEq, Int.reduceBNe, Nat.reduceBEq, Nat.reduceDiv, Nat.reduceMod, Int.reduceNeg, Int.reduceEq, go_sem]
  simp -implicitDefEqProofs (disch := omega) only [go_sem, Nat.reduceAdd, Nat.reduceMul, Nat.reduceSub, Nat.reduceEqDiff, Nat.reduceLT, Nat.reduceLeDiff, reduceIte, reduceCtorEq, Int.reduceLE, Int.reduceLT, Int.reduceGE, Int.reduceGT, Int.reduceAdd, Int.reduceSub, Int.reduceMul, Int.reduceToNat, Int.reduceBEq, Int.reduceBNe, Nat.reduceBEq, Nat.reduceDiv, Nat.reduceMod, Int.reduceNeg, Int.reduceEq, callr34, h]
theorem write_nil (s : List UInt8) : callR (tabW fns) σ base 32 [.nilp, .str s] = some (.tup [], σ) := by
  simp -implicitDefEqProofs (disch := omega) only [go_sem, Nat.reduceAdd, Nat.reduceMul, Nat.reduceSub, Nat.reduceEqDiff, Nat.reduceLT, Nat.reduceLeDiff, reduceIte, reduceCtorEq, Int.reduceLE, Int.reduceLT, Int.reduceGE, Int.reduceGT, Int.reduceAdd, Int.reduceSub, Int.reduceMul, Int.reduceToNat, Int.reduceBEq, Int.reduceBNe, Nat.reduceBEq, Nat.reduceDiv, Nat.reduceMod, Int.reduceNeg, Int.reduceEq, callr32, WriteNil_ok]
end Go.Vm.Ythfcgllahllkkaa
