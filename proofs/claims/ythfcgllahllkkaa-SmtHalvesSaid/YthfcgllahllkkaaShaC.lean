/- SHA-256: what is written is taken in. -/
import Derived.Test.YthfcgllahllkkaaShaB
set_option linter.unusedSectionVars false
set_option linter.unusedSimpArgs false
set_option linter.unusedVariables false
set_option maxHeartbeats 4000000
set_option maxRecDepth 10000
namespace Go.Vm.Ythfcgllahllkkaa
open Go.Proofs

/-- A digest's bytes that wait: nil, or a slice of its own. -/
def restV (k : Bool) (b : List UInt8) : V := if k = true then .osl 1 b.length (b.map u8) else .sl .nil 0 []
def digV (h : H8) (k : Bool) (b : List UInt8) (n : UInt64) : V := .opt (h.v ++ [restV k b, .int .u64 (n.toNat : Int)])
theorem New_ok : Gf fns 31 [] = some (digV h0 false [] 0, []) := by
  refine Gf_start rfl rfl ?_
  simp -implicitDefEqProofs (disch := omega) only [go_sem, Nat.reduceAdd, Nat.reduceMul, Nat.reduceSub, Nat.reduceEqDiff, Nat.reduceLT, Nat.reduceLeDiff, reduceIte, reduceCtorEq, Int.reduceLE, Int.reduceLT, Int.reduceGE, Int.reduceGT, Int.reduceAdd, Int.reduceSub, Int.reduceMul, Int.reduceToNat, Int.reduceBEq, Int.reduceBNe, Nat.reduceBEq, Nat.reduceDiv, Nat.reduceMod, Int.reduceNeg, Int.reduceEq, begin_ok, H8.v, digV, restV]
  rfl

def writeS (q gq : Nat) (B : List UInt8) (nv : V) (r : H8 × List UInt8) (a : H8 × Nat) (s : St) : Prop :=
  a.2 ≤ B.length ∧ s.t 0 = .ptr 0 1 0 ∧ s.σ 0 = ⟨1, .rw, false, a.1.v ++ [.sli q gq a.2 (B.length - a.2) 1, nv]⟩ ∧ s.σ q = ⟨gq, .rw, true, B.map u8⟩ ∧ absorb a.1 (B.drop a.2) = r
theorem write_loop (q gq : Nat) (B : List UInt8) (nv : V) (r : H8 × List UInt8) (hq : q ≠ 0) (hq2 : q < 1048576) (hB : B.length ≤ 140737488355328) {Q : Ex → St → Prop} {s : St} (a0 : H8 × Nat) (h0 : writeS q gq B nv r a0 s)
    (hQ : ∀ a s, writeS q gq B nv r a s → B.length - a.2 < 64 → Q (.exit 0) s) : wpA (tabW fns) (.loop lp32_0) Q s := by
  refine wp_loopS (writeS q gq B nv r) (fun a => B.length - a.2) a0 h0 ?_
  rintro ⟨h, off⟩ ⟨t, σ⟩ ⟨hoff, h0, s0, sq, hr⟩
  simp only at hoff h0 s0 sq hr
  have hq3 : (q == 0) = false := beq_no hq
  have hq4 : ((0 : Nat) == q) = false := beq_no (by omega)
  simp -implicitDefEqProofs (disch := omega) only [go_sem, Nat.reduceAdd, Nat.reduceMul, Nat.reduceSub, Nat.reduceEqDiff, Nat.reduceLT, Nat.reduceLeDiff, reduceIte, reduceCtorEq, Int.reduceLE, Int.reduceLT, Int.reduceGE, Int.reduceGT, Int.reduceAdd, Int.reduceSub, Int.reduceMul, Int.reduceToNat, Int.reduceBEq, Int.reduceBNe, Nat.reduceBEq, Nat.reduceDiv, Nat.reduceMod, Int.reduceNeg, Int.reduceEq, lp32_0, h0, s0, H8.v]
  refine condC_dec (fun hlt => ?_) (fun hge => ?_)
  · obtain ⟨σ', e, hp, hs⟩ := block_ok σ 0 1 h (.sli q gq off (B.length - off) 1) nv (.sli q gq off 64 1) ((B.drop off).take 64) [q] s0 (by omega) (by simp; omega) (by simp -implicitDefEqProofs (disch := omega) only [go_sem, Nat.reduceAdd, Nat.reduceMul, Nat.reduceSub, Nat.reduceEqDiff, Nat.reduceLT, Nat.reduceLeDiff, reduceIte, reduceCtorEq, Int.reduceLE, Int.reduceLT, Int.reduceGE, Int.reduceGT, Int.reduceAdd, Int.reduceSub, Int.reduceMul, Int.reduceToNat, Int.reduceBEq, Int.reduceBNe, Nat.reduceBEq, Nat.reduceDiv, Nat.reduceMod, Int.reduceNeg, Int.reduceEq, sq])
    have sq' : σ' q = ⟨gq, .rw, true, B.map u8⟩ := by rw [hs q hq2 hq, sq]
    simp -implicitDefEqProofs (disch := omega) only [go_sem, Nat.reduceAdd, Nat.reduceMul, Nat.reduceSub, Nat.reduceEqDiff, Nat.reduceLT, Nat.reduceLeDiff, reduceIte, reduceCtorEq, Int.reduceLE, Int.reduceLT, Int.reduceGE, Int.reduceGT, Int.reduceAdd, Int.reduceSub, Int.reduceMul, Int.reduceToNat, Int.reduceBEq, Int.reduceBNe, Nat.reduceBEq, Nat.reduceDiv, Nat.reduceMod, Int.reduceNeg, Int.reduceEq, h0, s0, H8.v, sq]
    rw [e]
    simp -implicitDefEqProofs (disch := omega) only [go_sem, Nat.reduceAdd, Nat.reduceMul, Nat.reduceSub, Nat.reduceEqDiff, Nat.reduceLT, Nat.reduceLeDiff, reduceIte, reduceCtorEq, Int.reduceLE, Int.reduceLT, Int.reduceGE, Int.reduceGT, Int.reduceAdd, Int.reduceSub, Int.reduceMul, Int.reduceToNat, Int.reduceBEq, Int.reduceBNe, Nat.reduceBEq, Nat.reduceDiv, Nat.reduceMod, Int.reduceNeg, Int.reduceEq, h0, hp, H8.v, sq']
    refine ⟨(compress ((B.drop off).take 64) h, off + 64), by simp only; omega, ?_⟩
    simp -implicitDefEqProofs (disch := omega) only [go_sem, Nat.reduceAdd, Nat.reduceMul, Nat.reduceSub, Nat.reduceEqDiff, Nat.reduceLT, Nat.reduceLeDiff, reduceIte, reduceCtorEq, Int.reduceLE, Int.reduceLT, Int.reduceGE, Int.reduceGT, Int.reduceAdd, Int.reduceSub, Int.reduceMul, Int.reduceToNat, Int.reduceBEq, Int.reduceBNe, Nat.reduceBEq, Nat.reduceDiv, Nat.reduceMod, Int.reduceNeg, Int.reduceEq, writeS, h0, hp, H8.v, sq', hq3]
    refine ⟨by omega, ?_, ?_⟩
    · rw [show B.length - off - 64 = B.length - (off + 64) by omega]
    · rw [← hr, absorb_ge h _ (by simp; omega), List.drop_drop]
  · simp -implicitDefEqProofs (disch := omega) only [go_sem, Nat.reduceAdd, Nat.reduceMul, Nat.reduceSub, Nat.reduceEqDiff, Nat.reduceLT, Nat.reduceLeDiff, reduceIte, reduceCtorEq, Int.reduceLE, Int.reduceLT, Int.reduceGE, Int.reduceGT, Int.reduceAdd, Int.reduceSub, Int.reduceMul, Int.reduceToNat, Int.reduceBEq, Int.reduceBNe, Nat.reduceBEq, Nat.reduceDiv, Nat.reduceMod, Int.reduceNeg, Int.reduceEq, h0]
    exact hQ (h, off) _ ⟨hoff, by simp -implicitDefEqProofs (disch := omega) only [go_sem, Nat.reduceAdd, Nat.reduceMul, Nat.reduceSub, Nat.reduceEqDiff, Nat.reduceLT, Nat.reduceLeDiff, reduceIte, reduceCtorEq, Int.reduceLE, Int.reduceLT, Int.reduceGE, Int.reduceGT, Int.reduceAdd, Int.reduceSub, Int.reduceMul, Int.reduceToNat, Int.reduceBEq, Int.reduceBNe, Nat.reduceBEq, Nat.reduceDiv, Nat.reduceMod, Int.reduceNeg, Int.reduceEq, h0], s0, sq, hr⟩ (by simp only; omega)

theorem add_len (n : UInt64) (m : Nat) (h : m < 18446744073709551616) : IntKind.u64.wrap ((n.toNat + m : Nat) : Int) = ((n + UInt64.ofNat m).toNat : Int) := by
  have h2 : (UInt64.ofNat m).toNat = m := UInt64.toNat_ofNat_of_lt' (by show m < 18446744073709551616; exact h)
  rw [← add_u64, h2]
theorem Write_ok (h : H8) (k : Bool) (b : List UInt8) (n : UInt64) (s : List UInt8) (hk : k = false → b = []) (hB : b.length + s.length ≤ 140737488355328) :
    Gf fns 32 [digV h k b n, .str s] = some (.tup [], [digV (absorb h (b ++ s)).1 (k || decide (s ≠ [])) (absorb h (b ++ s)).2 (n + UInt64.ofNat s.length)]) := by
  have hw := add_len n s.length (by omega)
  have hdig : digV (absorb h (b ++ s)).1 (k || decide (s ≠ [])) (absorb h (b ++ s)).2 (n + UInt64.ofNat s.length) = .opt ((absorb h (b ++ s)).1.v ++ [restV (k || decide (s ≠ [])) (absorb h (b ++ s)).2, .int .u64 ((n + UInt64.ofNat s.length).toNat : Int)]) := rfl
  rw [hdig]
  clear hdig
  refine Gf_start rfl rfl ?_
  generalize hr : absorb h (b ++ s) = r
  by_cases hs : s = []
  · subst hs
    rw [List.append_nil] at hr
    have hn0 : n + UInt64.ofNat 0 = n := by simp
    cases k with
    | false =>
      obtain rfl := hk rfl
      rw [absorb_lt h [] (by simp)] at hr
      subst hr
      simp -implicitDefEqProofs (disch := omega) only [go_sem, Nat.reduceAdd, Nat.reduceMul, Nat.reduceSub, Nat.reduceEqDiff, Nat.reduceLT, Nat.reduceLeDiff, reduceIte, reduceCtorEq, Int.reduceLE, Int.reduceLT, Int.reduceGE, Int.reduceGT, Int.reduceAdd, Int.reduceSub, Int.reduceMul, Int.reduceToNat, Int.reduceBEq, Int.reduceBNe, Nat.reduceBEq, Nat.reduceDiv, Nat.reduceMod, Int.reduceNeg, Int.reduceEq, digV, H8.v, restV, hw]
      refine wp_loopS (fun (_ : Unit) s => s.t 0 = .ptr 0 1 0 ∧ s.σ 0 = ⟨1, .rw, false, h.v ++ [.sl .nil 0 [], .int .u64 ((n + UInt64.ofNat 0).toNat : Int)]⟩) (fun _ => 0) () (by simp -implicitDefEqProofs (disch := omega) only [go_sem, Nat.reduceAdd, Nat.reduceMul, Nat.reduceSub, Nat.reduceEqDiff, Nat.reduceLT, Nat.reduceLeDiff, reduceIte, reduceCtorEq, Int.reduceLE, Int.reduceLT, Int.reduceGE, Int.reduceGT, Int.reduceAdd, Int.reduceSub, Int.reduceMul, Int.reduceToNat, Int.reduceBEq, Int.reduceBNe, Nat.reduceBEq, Nat.reduceDiv, Nat.reduceMod, Int.reduceNeg, Int.reduceEq, H8.v, hn0]) ?_
      rintro _ ⟨t, σ⟩ ⟨h0, s0⟩
      simp only at h0 s0
      simp -implicitDefEqProofs (disch := omega) only [go_sem, Nat.reduceAdd, Nat.reduceMul, Nat.reduceSub, Nat.reduceEqDiff, Nat.reduceLT, Nat.reduceLeDiff, reduceIte, reduceCtorEq, Int.reduceLE, Int.reduceLT, Int.reduceGE, Int.reduceGT, Int.reduceAdd, Int.reduceSub, Int.reduceMul, Int.reduceToNat, Int.reduceBEq, Int.reduceBNe, Nat.reduceBEq, Nat.reduceDiv, Nat.reduceMod, Int.reduceNeg, Int.reduceEq, lp32_0, h0, s0, H8.v]
    | true =>
      simp -implicitDefEqProofs (disch := omega) only [go_sem, Nat.reduceAdd, Nat.reduceMul, Nat.reduceSub, Nat.reduceEqDiff, Nat.reduceLT, Nat.reduceLeDiff, reduceIte, reduceCtorEq, Int.reduceLE, Int.reduceLT, Int.reduceGE, Int.reduceGT, Int.reduceAdd, Int.reduceSub, Int.reduceMul, Int.reduceToNat, Int.reduceBEq, Int.reduceBNe, Nat.reduceBEq, Nat.reduceDiv, Nat.reduceMod, Int.reduceNeg, Int.reduceEq, digV, H8.v, restV, hw]
      refine write_loop 1 1 b (.int .u64 ((n + UInt64.ofNat 0).toNat : Int)) r (by omega) (by omega) (by omega) (h, 0) (by simp -implicitDefEqProofs (disch := omega) only [go_sem, Nat.reduceAdd, Nat.reduceMul, Nat.reduceSub, Nat.reduceEqDiff, Nat.reduceLT, Nat.reduceLeDiff, reduceIte, reduceCtorEq, Int.reduceLE, Int.reduceLT, Int.reduceGE, Int.reduceGT, Int.reduceAdd, Int.reduceSub, Int.reduceMul, Int.reduceToNat, Int.reduceBEq, Int.reduceBNe, Nat.reduceBEq, Nat.reduceDiv, Nat.reduceMod, Int.reduceNeg, Int.reduceEq, writeS, H8.v, hr, hn0]) ?_
      rintro ⟨h', off⟩ ⟨t, σ⟩ ⟨hoff, h0, s0, sq, hr'⟩ hlt
      simp only at hoff h0 s0 sq hr' hlt
      rw [absorb_lt _ _ (by simp; omega)] at hr'
      subst hr'
      simp -implicitDefEqProofs (disch := omega) only [go_sem, Nat.reduceAdd, Nat.reduceMul, Nat.reduceSub, Nat.reduceEqDiff, Nat.reduceLT, Nat.reduceLeDiff, reduceIte, reduceCtorEq, Int.reduceLE, Int.reduceLT, Int.reduceGE, Int.reduceGT, Int.reduceAdd, Int.reduceSub, Int.reduceMul, Int.reduceToNat, Int.reduceBEq, Int.reduceBNe, Nat.reduceBEq, Nat.reduceDiv, Nat.reduceMod, Int.reduceNeg, Int.reduceEq, h0, s0, sq, H8.v]
  · have hs0 : ¬ s.length = 0 := by simpa using hs
    cases k with
    | false =>
      obtain rfl := hk rfl
      simp -implicitDefEqProofs (disch := omega) only [go_sem, Nat.reduceAdd, Nat.reduceMul, Nat.reduceSub, Nat.reduceEqDiff, Nat.reduceLT, Nat.reduceLeDiff, reduceIte, reduceCtorEq, Int.reduceLE, Int.reduceLT, Int.reduceGE, Int.reduceGT, Int.reduceAdd, Int.reduceSub, Int.reduceMul, Int.reduceToNat, Int.reduceBEq, Int.reduceBNe, Nat.reduceBEq, Nat.reduceDiv, Nat.reduceMod, Int.reduceNeg, Int.reduceEq, digV, H8.v, restV, hw, hs0]
      refine write_loop 1472 1 s (.int .u64 ((n + UInt64.ofNat s.length).toNat : Int)) r (by omega) (by omega) (by omega) (h, 0) (by simp -implicitDefEqProofs (disch := omega) only [go_sem, Nat.reduceAdd, Nat.reduceMul, Nat.reduceSub, Nat.reduceEqDiff, Nat.reduceLT, Nat.reduceLeDiff, reduceIte, reduceCtorEq, Int.reduceLE, Int.reduceLT, Int.reduceGE, Int.reduceGT, Int.reduceAdd, Int.reduceSub, Int.reduceMul, Int.reduceToNat, Int.reduceBEq, Int.reduceBNe, Nat.reduceBEq, Nat.reduceDiv, Nat.reduceMod, Int.reduceNeg, Int.reduceEq, writeS, H8.v]; simpa using hr) ?_
      rintro ⟨h', off⟩ ⟨t, σ⟩ ⟨hoff, h0, s0, sq, hr'⟩ hlt
      simp only at hoff h0 s0 sq hr' hlt
      rw [absorb_lt _ _ (by simp; omega)] at hr'
      subst hr'
      simp -implicitDefEqProofs (disch := omega) only [go_sem, Nat.reduceAdd, Nat.reduceMul, Nat.reduceSub, Nat.reduceEqDiff, Nat.reduceLT, Nat.reduceLeDiff, reduceIte, reduceCtorEq, Int.reduceLE, Int.reduceLT, Int.reduceGE, Int.reduceGT, Int.reduceAdd, Int.reduceSub, Int.reduceMul, Int.reduceToNat, Int.reduceBEq, Int.reduceBNe, Nat.reduceBEq, Nat.reduceDiv, Nat.reduceMod, Int.reduceNeg, Int.reduceEq, h0, s0, sq, H8.v, hs]
    | true =>
      simp -implicitDefEqProofs (disch := omega) only [go_sem, Nat.reduceAdd, Nat.reduceMul, Nat.reduceSub, Nat.reduceEqDiff, Nat.reduceLT, Nat.reduceLeDiff, reduceIte, reduceCtorEq, Int.reduceLE, Int.reduceLT, Int.reduceGE, Int.reduceGT, Int.reduceAdd, Int.reduceSub, Int.reduceMul, Int.reduceToNat, Int.reduceBEq, Int.reduceBNe, Nat.reduceBEq, Nat.reduceDiv, Nat.reduceMod, Int.reduceNeg, Int.reduceEq, digV, H8.v, restV, hw, hs0]
      have hl : (b ++ s).length = b.length + s.length := List.length_append
      refine write_loop 1472 1 (b ++ s) (.int .u64 ((n + UInt64.ofNat s.length).toNat : Int)) r (by omega) (by omega) (by simp; omega) (h, 0) (by simp -implicitDefEqProofs (disch := omega) only [go_sem, Nat.reduceAdd, Nat.reduceMul, Nat.reduceSub, Nat.reduceEqDiff, Nat.reduceLT, Nat.reduceLeDiff, reduceIte, reduceCtorEq, Int.reduceLE, Int.reduceLT, Int.reduceGE, Int.reduceGT, Int.reduceAdd, Int.reduceSub, Int.reduceMul, Int.reduceToNat, Int.reduceBEq, Int.reduceBNe, Nat.reduceBEq, Nat.reduceDiv, Nat.reduceMod, Int.reduceNeg, Int.reduceEq, writeS, H8.v, hr]) ?_
      rintro ⟨h', off⟩ ⟨t, σ⟩ ⟨hoff, h0, s0, sq, hr'⟩ hlt
      simp only at hoff h0 s0 sq hr' hlt
      rw [absorb_lt _ _ (by simp at hlt ⊢; omega)] at hr'
      subst hr'
      simp -implicitDefEqProofs (disch := omega) only [go_sem, Nat.reduceAdd, Nat.reduceMul, Nat.reduceSub, Nat.reduceEqDiff, Nat.reduceLT, Nat.reduceLeDiff, reduceIte, reduceCtorEq, Int.reduceLE, Int.reduceLT, Int.reduceGE, Int.reduceGT, Int.reduceAdd, Int.reduceSub, Int.reduceMul, Int.reduceToNat, Int.reduceBEq, Int.reduceBNe, Nat.reduceBEq, Nat.reduceDiv, Nat.reduceMod, Int.reduceNeg, Int.reduceEq, h0, s0, sq, H8.v, hs]
theorem WriteNil_ok (s : List UInt8) : Gf fns 32 [.nilp, .str s] = some (.tup [], [.nilp]) := by
  refine Gf_start rfl rfl ?_
  simp -implicitDefEqProofs (disch := omega) only [go_sem, Nat.reduceAdd, Nat.reduceMul, Nat.reduceSub, Nat.reduceEqDiff, Nat.reduceLT, Nat.reduceLeDiff, reduceIte, reduceCtorEq, Int.reduceLE, Int.reduceLT, Int.reduceGE, Int.reduceGT, Int.reduceAdd, Int.reduceSub, Int.reduceMul, Int.reduceToNat, Int.reduceBEq, Int.reduceBNe, Nat.reduceBEq, Nat.reduceDiv, Nat.reduceMod, Int.reduceNeg, Int.reduceEq, go_sem]
end Go.Vm.Ythfcgllahllkkaa
