/- Frames, of both texts. -/
import Derived.Test.YtapehdbmfodmoaaWireF
set_option linter.unusedSectionVars false
set_option linter.unusedSimpArgs false
set_option linter.unusedVariables false
set_option maxHeartbeats 1000000
set_option maxRecDepth 10000
namespace Go.Vm
theorem shl8_nat (x : UInt64) : (x <<< UInt64.ofNat 8).toNat = (x.toNat % 2 ^ 56) * 2 ^ 8 := by
  have h2 : (UInt64.ofNat 8).toNat = 8 := rfl
  have hx := lt_u64 x
  rw [UInt64.toNat_shiftLeft, h2, Nat.mod_eq_of_lt (show 8 < 64 by omega), Nat.shiftLeft_eq]
  omega
theorem shl8_or (x : UInt64) (b : UInt8) : (x <<< UInt64.ofNat 8 ||| b.toUInt64).toNat = (x.toNat % 2 ^ 56) * 2 ^ 8 + b.toNat := by
  have hb := lt_u8 b
  rw [UInt64.toNat_or, shl8_nat, UInt8.toNat_toUInt64, ← Nat.shiftLeft_eq, ← Nat.shiftLeft_add_eq_or_of_lt (show b.toNat < 2 ^ 8 by omega)]
theorem mul256 (x : UInt64) (b : UInt8) : IntKind.u64.wrap ((((x * 256).toNat + b.toNat : Nat)) : Int) = ((x <<< UInt64.ofNat 8 ||| b.toUInt64).toNat : Int) := by
  have hb := lt_u8 b
  have hx := lt_u64 x
  have h2 : (256 : UInt64).toNat = 256 := rfl
  have h1 : (x * 256).toNat = (x.toNat % 2 ^ 56) * 2 ^ 8 := by
    rw [UInt64.toNat_mul, h2]
    omega
  rw [shl8_or, h1, wn_u64 (by omega)]
theorem mul256' (x : UInt64) (b : UInt8) : x * 256 + b.toUInt64 = x <<< UInt64.ofNat 8 ||| b.toUInt64 := by
  apply UInt64.toNat_inj.mp
  rw [shl8_or, UInt64.toNat_add, UInt64.toNat_mul]
  simp only [UInt8.toNat_toUInt64]
  have h1 := x.toNat_lt
  have h2 := b.toNat_lt
  have : (256 : UInt64).toNat = 256 := rfl
  rw [this]
  omega
theorem beV_lt : ∀ (k : Nat) (s : List UInt8), s.length ≤ k → k ≤ 7 → (beV s).toNat < 256 ^ k
  | 0, s, hs, _ => by
    obtain rfl : s = [] := List.eq_nil_of_length_eq_zero (by omega)
    decide
  | k + 1, s, hs, hk => by
    rcases List.eq_nil_or_concat s with rfl | ⟨t, b, rfl⟩
    · have : 0 < 256 ^ (k + 1) := Nat.pow_pos (by omega)
      have e : (beV []).toNat = 0 := rfl
      omega
    · rw [List.concat_eq_append] at hs ⊢
      rw [beV_snoc, shl8_or]
      have ih := beV_lt k t (by simp at hs; omega) (by omega)
      have hb := lt_u8 b
      have hm : (beV t).toNat % 2 ^ 56 ≤ (beV t).toNat := Nat.mod_le _ _
      rw [Nat.pow_succ]
      omega
theorem beV_numB : ∀ (b : Nat) (n : UInt64), b ≤ 7 → n.toNat < 256 ^ b → beV (numB n b) = n
  | 0, n, _, h => by
    have : n.toNat = 0 := by simpa using h
    apply UInt64.toNat_inj.1
    rw [this]
    rfl
  | b + 1, n, hb, h => by
    have hd : (n / 256).toNat = n.toNat / 256 := UInt64.toNat_div n 256
    rw [numB, beV_snoc, beV_numB b (n / 256) (by omega) (by rw [hd]; rw [Nat.pow_succ] at h; omega)]
    apply UInt64.toNat_inj.1
    have hn := lt_u64 n
    rw [shl8_or, hd, UInt64.toNat_toUInt8]
    omega
def frameB (x : List UInt8) : List UInt8 := numB (UInt64.ofNat x.length) 4 ++ numB (crc (numB (UInt64.ofNat x.length) 4 ++ x)).toUInt64 4 ++ x
/-- The text of a frame at a place, the place behind it, the error. -/
def unframe (s : List UInt8) (at' : Int) : List UInt8 × Nat × Int :=
  if at' < 0 ∨ (s.length : Int) < at' then ([], 0, 1) else
    let c := (Rd.mk (s.drop at'.toNat) 0 0).count 2147483647
    let m := c.1.number 4
    let t := m.1.bytes c.2
    if t.1.err ≠ 0 then ([], 0, t.1.err) else if m.2 ≠ (crc (numB (UInt64.ofNat c.2) 4 ++ t.2)).toUInt64 then ([], 0, 6) else (t.2, at'.toNat + t.1.at', 0)
end Go.Vm
namespace Go.Vm.Ytapehdbmfodmoaa
open Go.Proofs
theorem FBytes_ok (r : Rd) (h : r.ok) (n : Int) : Gf fns 46 [.agg r.v, .int .i64 n] = some (.tup [.agg (r.bytes n).1.v, .str (r.bytes n).2], []) := by
  obtain ⟨s, a, e⟩ := r
  obtain ⟨h1, h2⟩ := h
  simp only at h1 h2
  refine Gf_start rfl rfl ?_
  by_cases h0 : e = 0
  · subst h0
    by_cases hn : n < 0
    · simp -implicitDefEqProofs (disch := omega) only [go_sem, Nat.reduceAdd, Nat.reduceMul, Nat.reduceSub, Nat.reduceEqDiff, Nat.reduceLT, Nat.reduceLeDiff, reduceIte, reduceCtorEq, Int.reduceLE, Int.reduceLT, Int.reduceGE, Int.reduceGT, Int.reduceAdd, Int.reduceSub, Int.reduceMul, Int.reduceToNat, Int.reduceBEq, Int.reduceBNe, Nat.reduceBEq, Nat.reduceDiv, Nat.reduceMod, Int.reduceNeg, Int.reduceEq, Rd.v, Rd.bytes, hn]
    · obtain ⟨m, rfl⟩ : ∃ m : Nat, n = (m : Int) := ⟨n.toNat, by omega⟩
      by_cases hm : s.length - a < m
      · simp -implicitDefEqProofs (disch := omega) only [go_sem, Nat.reduceAdd, Nat.reduceMul, Nat.reduceSub, Nat.reduceEqDiff, Nat.reduceLT, Nat.reduceLeDiff, reduceIte, reduceCtorEq, Int.reduceLE, Int.reduceLT, Int.reduceGE, Int.reduceGT, Int.reduceAdd, Int.reduceSub, Int.reduceMul, Int.reduceToNat, Int.reduceBEq, Int.reduceBNe, Nat.reduceBEq, Nat.reduceDiv, Nat.reduceMod, Int.reduceNeg, Int.reduceEq, Rd.v, Rd.bytes, hn]
      · simp -implicitDefEqProofs (disch := omega) only [go_sem, Nat.reduceAdd, Nat.reduceMul, Nat.reduceSub, Nat.reduceEqDiff, Nat.reduceLT, Nat.reduceLeDiff, reduceIte, reduceCtorEq, Int.reduceLE, Int.reduceLT, Int.reduceGE, Int.reduceGT, Int.reduceAdd, Int.reduceSub, Int.reduceMul, Int.reduceToNat, Int.reduceBEq, Int.reduceBNe, Nat.reduceBEq, Nat.reduceDiv, Nat.reduceMod, Int.reduceNeg, Int.reduceEq, Rd.v, Rd.bytes, hn]
        refine wp_draw_E ?_
        have e1 : a + m - (a + m - m) = m := by omega
        have e2 : a + m - m = a := by omega
        have e3 : a + m - a = m := by omega
        simp -implicitDefEqProofs (disch := omega) only [go_sem, Nat.reduceAdd, Nat.reduceMul, Nat.reduceSub, Nat.reduceEqDiff, Nat.reduceLT, Nat.reduceLeDiff, reduceIte, reduceCtorEq, Int.reduceLE, Int.reduceLT, Int.reduceGE, Int.reduceGT, Int.reduceAdd, Int.reduceSub, Int.reduceMul, Int.reduceToNat, Int.reduceBEq, Int.reduceBNe, Nat.reduceBEq, Nat.reduceDiv, Nat.reduceMod, Int.reduceNeg, Int.reduceEq, e1, e2, e3]
  · simp -implicitDefEqProofs (disch := omega) only [go_sem, Nat.reduceAdd, Nat.reduceMul, Nat.reduceSub, Nat.reduceEqDiff, Nat.reduceLT, Nat.reduceLeDiff, reduceIte, reduceCtorEq, Int.reduceLE, Int.reduceLT, Int.reduceGE, Int.reduceGT, Int.reduceAdd, Int.reduceSub, Int.reduceMul, Int.reduceToNat, Int.reduceBEq, Int.reduceBNe, Nat.reduceBEq, Nat.reduceDiv, Nat.reduceMod, Int.reduceNeg, Int.reduceEq, Rd.v, Rd.bytes, h0]
def fnumS (p2 p4 : V) (b2 b4 : Blk) (x : List UInt8) (i : Nat) (s : St) : Prop := i ≤ x.length ∧ s.t 2 = p2 ∧ s.t 4 = p4 ∧ s.t 6 = .str x ∧ s.σ 192 = b2 ∧ s.σ 320 = b4 ∧ s.t 7 = .int .u64 ((beV (x.take i)).toNat : Int) ∧ s.t 8 = .int .i64 (i : Int)
theorem fnum_loop (p2 p4 : V) (b2 b4 : Blk) (x : List UInt8) (hx : x.length ≤ 140737488355328) {Q : Ex → St → Prop} {s : St} (h : fnumS p2 p4 b2 b4 x 0 s) (hQ : ∀ t σ, t 2 = p2 → t 4 = p4 → σ 192 = b2 → σ 320 = b4 → t 7 = .int .u64 ((beV x).toNat : Int) → Q (.exit 0) ⟨t, σ⟩) : wpA (tabW fns) (.loop lp26_0) Q s := by
  refine wp_loopS (fnumS p2 p4 b2 b4 x) (fun i => x.length - i) 0 h ?_
  rintro i ⟨t, σ⟩ ⟨hi, h2, h4, h6, s2, s4, h7, h8⟩
  simp only at h2 h4 h6 s2 s4 h7 h8
  have hm : IntKind.u64.wrap (((beV (x.take i)).toNat * 256 : Nat) : Int) = ((beV (x.take i) * 256).toNat : Int) := mul_u64 _ 256
  simp -implicitDefEqProofs (disch := omega) only [go_sem, Nat.reduceAdd, Nat.reduceMul, Nat.reduceSub, Nat.reduceEqDiff, Nat.reduceLT, Nat.reduceLeDiff, reduceIte, reduceCtorEq, Int.reduceLE, Int.reduceLT, Int.reduceGE, Int.reduceGT, Int.reduceAdd, Int.reduceSub, Int.reduceMul, Int.reduceToNat, Int.reduceBEq, Int.reduceBNe, Nat.reduceBEq, Nat.reduceDiv, Nat.reduceMod, Int.reduceNeg, Int.reduceEq, lp26_0, h6, h8]
  refine condC_dec (fun hc => ?_) (fun hc => ?_)
  · simp -implicitDefEqProofs (disch := omega) only [go_sem, Nat.reduceAdd, Nat.reduceMul, Nat.reduceSub, Nat.reduceEqDiff, Nat.reduceLT, Nat.reduceLeDiff, reduceIte, reduceCtorEq, Int.reduceLE, Int.reduceLT, Int.reduceGE, Int.reduceGT, Int.reduceAdd, Int.reduceSub, Int.reduceMul, Int.reduceToNat, Int.reduceBEq, Int.reduceBNe, Nat.reduceBEq, Nat.reduceDiv, Nat.reduceMod, Int.reduceNeg, Int.reduceEq, h6, h7, h8, hm]
    refine ⟨i + 1, by omega, by omega, by simp -implicitDefEqProofs (disch := omega) only [go_sem, Nat.reduceAdd, Nat.reduceMul, Nat.reduceSub, Nat.reduceEqDiff, Nat.reduceLT, Nat.reduceLeDiff, reduceIte, reduceCtorEq, Int.reduceLE, Int.reduceLT, Int.reduceGE, Int.reduceGT, Int.reduceAdd, Int.reduceSub, Int.reduceMul, Int.reduceToNat, Int.reduceBEq, Int.reduceBNe, Nat.reduceBEq, Nat.reduceDiv, Nat.reduceMod, Int.reduceNeg, Int.reduceEq, h2], by simp -implicitDefEqProofs (disch := omega) only [go_sem, Nat.reduceAdd, Nat.reduceMul, Nat.reduceSub, Nat.reduceEqDiff, Nat.reduceLT, Nat.reduceLeDiff, reduceIte, reduceCtorEq, Int.reduceLE, Int.reduceLT, Int.reduceGE, Int.reduceGT, Int.reduceAdd, Int.reduceSub, Int.reduceMul, Int.reduceToNat, Int.reduceBEq, Int.reduceBNe, Nat.reduceBEq, Nat.reduceDiv, Nat.reduceMod, Int.reduceNeg, Int.reduceEq, h4], by simp -implicitDefEqProofs (disch := omega) only [go_sem, Nat.reduceAdd, Nat.reduceMul, Nat.reduceSub, Nat.reduceEqDiff, Nat.reduceLT, Nat.reduceLeDiff, reduceIte, reduceCtorEq, Int.reduceLE, Int.reduceLT, Int.reduceGE, Int.reduceGT, Int.reduceAdd, Int.reduceSub, Int.reduceMul, Int.reduceToNat, Int.reduceBEq, Int.reduceBNe, Nat.reduceBEq, Nat.reduceDiv, Nat.reduceMod, Int.reduceNeg, Int.reduceEq, h6], s2, s4, ?_, by simp -implicitDefEqProofs (disch := omega) only [go_sem, Nat.reduceAdd, Nat.reduceMul, Nat.reduceSub, Nat.reduceEqDiff, Nat.reduceLT, Nat.reduceLeDiff, reduceIte, reduceCtorEq, Int.reduceLE, Int.reduceLT, Int.reduceGE, Int.reduceGT, Int.reduceAdd, Int.reduceSub, Int.reduceMul, Int.reduceToNat, Int.reduceBEq, Int.reduceBNe, Nat.reduceBEq, Nat.reduceDiv, Nat.reduceMod, Int.reduceNeg, Int.reduceEq, go_sem]⟩
    rw [take_gt hc, beV_snoc, ← mul256']
    simp -implicitDefEqProofs (disch := omega) only [go_sem, Nat.reduceAdd, Nat.reduceMul, Nat.reduceSub, Nat.reduceEqDiff, Nat.reduceLT, Nat.reduceLeDiff, reduceIte, reduceCtorEq, Int.reduceLE, Int.reduceLT, Int.reduceGE, Int.reduceGT, Int.reduceAdd, Int.reduceSub, Int.reduceMul, Int.reduceToNat, Int.reduceBEq, Int.reduceBNe, Nat.reduceBEq, Nat.reduceDiv, Nat.reduceMod, Int.reduceNeg, Int.reduceEq, go_sem]
  · have ht : x.take i = x := take_all (by omega)
    rw [ht] at h7
    simp -implicitDefEqProofs (disch := omega) only [go_sem, Nat.reduceAdd, Nat.reduceMul, Nat.reduceSub, Nat.reduceEqDiff, Nat.reduceLT, Nat.reduceLeDiff, reduceIte, reduceCtorEq, Int.reduceLE, Int.reduceLT, Int.reduceGE, Int.reduceGT, Int.reduceAdd, Int.reduceSub, Int.reduceMul, Int.reduceToNat, Int.reduceBEq, Int.reduceBNe, Nat.reduceBEq, Nat.reduceDiv, Nat.reduceMod, Int.reduceNeg, Int.reduceEq, go_sem]
    exact hQ _ _ (by simp -implicitDefEqProofs (disch := omega) only [go_sem, Nat.reduceAdd, Nat.reduceMul, Nat.reduceSub, Nat.reduceEqDiff, Nat.reduceLT, Nat.reduceLeDiff, reduceIte, reduceCtorEq, Int.reduceLE, Int.reduceLT, Int.reduceGE, Int.reduceGT, Int.reduceAdd, Int.reduceSub, Int.reduceMul, Int.reduceToNat, Int.reduceBEq, Int.reduceBNe, Nat.reduceBEq, Nat.reduceDiv, Nat.reduceMod, Int.reduceNeg, Int.reduceEq, h2]) (by simp -implicitDefEqProofs (disch := omega) only [go_sem, Nat.reduceAdd, Nat.reduceMul, Nat.reduceSub, Nat.reduceEqDiff, Nat.reduceLT, Nat.reduceLeDiff, reduceIte, reduceCtorEq, Int.reduceLE, Int.reduceLT, Int.reduceGE, Int.reduceGT, Int.reduceAdd, Int.reduceSub, Int.reduceMul, Int.reduceToNat, Int.reduceBEq, Int.reduceBNe, Nat.reduceBEq, Nat.reduceDiv, Nat.reduceMod, Int.reduceNeg, Int.reduceEq, h4]) s2 s4 (by simp -implicitDefEqProofs (disch := omega) only [go_sem, Nat.reduceAdd, Nat.reduceMul, Nat.reduceSub, Nat.reduceEqDiff, Nat.reduceLT, Nat.reduceLeDiff, reduceIte, reduceCtorEq, Int.reduceLE, Int.reduceLT, Int.reduceGE, Int.reduceGT, Int.reduceAdd, Int.reduceSub, Int.reduceMul, Int.reduceToNat, Int.reduceBEq, Int.reduceBNe, Nat.reduceBEq, Nat.reduceDiv, Nat.reduceMod, Int.reduceNeg, Int.reduceEq, h7])
theorem FNumber_ok (r : Rd) (h : r.ok) (n : Int) : Gf fns 26 [.agg r.v, .int .i64 n] = some (.tup [.agg (r.number n).1.v, .int .u64 ((r.number n).2.toNat : Int)], []) := by
  have hb0 := FBytes_ok r h n
  have hb1 := FBytes_ok { r with err := 1 } h n
  have l0 := Rd.bytes_len r n
  have l1 := Rd.bytes_len { r with err := 1 } n
  have hlen := h.2
  refine Gf_start rfl rfl ?_
  by_cases hc : r.err = 0 ∧ 8 < n
  · have hn : r.number n = ((({ r with err := 1 } : Rd).bytes n).1, beV (({ r with err := 1 } : Rd).bytes n).2) := by unfold Rd.number; rw [if_pos hc]
    rw [hn]
    generalize ({ r with err := 1 } : Rd).bytes n = q at *
    obtain ⟨⟨qs, qa, qe⟩, x⟩ := q
    obtain ⟨s, a, e⟩ := r
    obtain ⟨h0, h8⟩ := hc
    simp only at h0 l1 hlen
    subst h0
    simp -implicitDefEqProofs (disch := omega) only [go_sem, Nat.reduceAdd, Nat.reduceMul, Nat.reduceSub, Nat.reduceEqDiff, Nat.reduceLT, Nat.reduceLeDiff, reduceIte, reduceCtorEq, Int.reduceLE, Int.reduceLT, Int.reduceGE, Int.reduceGT, Int.reduceAdd, Int.reduceSub, Int.reduceMul, Int.reduceToNat, Int.reduceBEq, Int.reduceBNe, Nat.reduceBEq, Nat.reduceDiv, Nat.reduceMod, Int.reduceNeg, Int.reduceEq, Rd.v] at hb1 ⊢
    simp -implicitDefEqProofs (disch := omega) only [go_sem, Nat.reduceAdd, Nat.reduceMul, Nat.reduceSub, Nat.reduceEqDiff, Nat.reduceLT, Nat.reduceLeDiff, reduceIte, reduceCtorEq, Int.reduceLE, Int.reduceLT, Int.reduceGE, Int.reduceGT, Int.reduceAdd, Int.reduceSub, Int.reduceMul, Int.reduceToNat, Int.reduceBEq, Int.reduceBNe, Nat.reduceBEq, Nat.reduceDiv, Nat.reduceMod, Int.reduceNeg, Int.reduceEq, h8, hb1]
    refine fnum_loop (.ptr 192 1 0) (.ptr 320 1 0) ⟨1, .rw, false, [.str qs, .int .i64 (qa : Int), .int .i64 qe]⟩ ⟨1, .rw, false, [.str [], .int .i64 0, .int .i64 0]⟩ x (by omega) ⟨by omega, by simp -implicitDefEqProofs (disch := omega) only [go_sem, Nat.reduceAdd, Nat.reduceMul, Nat.reduceSub, Nat.reduceEqDiff, Nat.reduceLT, Nat.reduceLeDiff, reduceIte, reduceCtorEq, Int.reduceLE, Int.reduceLT, Int.reduceGE, Int.reduceGT, Int.reduceAdd, Int.reduceSub, Int.reduceMul, Int.reduceToNat, Int.reduceBEq, Int.reduceBNe, Nat.reduceBEq, Nat.reduceDiv, Nat.reduceMod, Int.reduceNeg, Int.reduceEq, go_sem], by simp -implicitDefEqProofs (disch := omega) only [go_sem, Nat.reduceAdd, Nat.reduceMul, Nat.reduceSub, Nat.reduceEqDiff, Nat.reduceLT, Nat.reduceLeDiff, reduceIte, reduceCtorEq, Int.reduceLE, Int.reduceLT, Int.reduceGE, Int.reduceGT, Int.reduceAdd, Int.reduceSub, Int.reduceMul, Int.reduceToNat, Int.reduceBEq, Int.reduceBNe, Nat.reduceBEq, Nat.reduceDiv, Nat.reduceMod, Int.reduceNeg, Int.reduceEq, go_sem], by simp -implicitDefEqProofs (disch := omega) only [go_sem, Nat.reduceAdd, Nat.reduceMul, Nat.reduceSub, Nat.reduceEqDiff, Nat.reduceLT, Nat.reduceLeDiff, reduceIte, reduceCtorEq, Int.reduceLE, Int.reduceLT, Int.reduceGE, Int.reduceGT, Int.reduceAdd, Int.reduceSub, Int.reduceMul, Int.reduceToNat, Int.reduceBEq, Int.reduceBNe, Nat.reduceBEq, Nat.reduceDiv, Nat.reduceMod, Int.reduceNeg, Int.reduceEq, go_sem], by simp -implicitDefEqProofs (disch := omega) only [go_sem, Nat.reduceAdd, Nat.reduceMul, Nat.reduceSub, Nat.reduceEqDiff, Nat.reduceLT, Nat.reduceLeDiff, reduceIte, reduceCtorEq, Int.reduceLE, Int.reduceLT, Int.reduceGE, Int.reduceGT, Int.reduceAdd, Int.reduceSub, Int.reduceMul, Int.reduceToNat, Int.reduceBEq, Int.reduceBNe, Nat.reduceBEq, Nat.reduceDiv, Nat.reduceMod, Int.reduceNeg, Int.reduceEq, go_sem], by simp -implicitDefEqProofs (disch := omega) only [go_sem, Nat.reduceAdd, Nat.reduceMul, Nat.reduceSub, Nat.reduceEqDiff, Nat.reduceLT, Nat.reduceLeDiff, reduceIte, reduceCtorEq, Int.reduceLE, Int.reduceLT, Int.reduceGE, Int.reduceGT, Int.reduceAdd, Int.reduceSub, Int.reduceMul, Int.reduceToNat, Int.reduceBEq, Int.reduceBNe, Nat.reduceBEq, Nat.reduceDiv, Nat.reduceMod, Int.reduceNeg, Int.reduceEq, go_sem], by simp -implicitDefEqProofs (disch := omega) only [go_sem, Nat.reduceAdd, Nat.reduceMul, Nat.reduceSub, Nat.reduceEqDiff, Nat.reduceLT, Nat.reduceLeDiff, reduceIte, reduceCtorEq, Int.reduceLE, Int.reduceLT, Int.reduceGE, Int.reduceGT, Int.reduceAdd, Int.reduceSub, Int.reduceMul, Int.reduceToNat, Int.reduceBEq, Int.reduceBNe, Nat.reduceBEq, Nat.reduceDiv, Nat.reduceMod, Int.reduceNeg, Int.reduceEq, List.take_zero]; rfl, by simp -implicitDefEqProofs (disch := omega) only [go_sem, Nat.reduceAdd, Nat.reduceMul, Nat.reduceSub, Nat.reduceEqDiff, Nat.reduceLT, Nat.reduceLeDiff, reduceIte, reduceCtorEq, Int.reduceLE, Int.reduceLT, Int.reduceGE, Int.reduceGT, Int.reduceAdd, Int.reduceSub, Int.reduceMul, Int.reduceToNat, Int.reduceBEq, Int.reduceBNe, Nat.reduceBEq, Nat.reduceDiv, Nat.reduceMod, Int.reduceNeg, Int.reduceEq, go_sem]⟩ ?_
    intro t σ h2 h4 s2 s4 h7
    simp -implicitDefEqProofs (disch := omega) only [go_sem, Nat.reduceAdd, Nat.reduceMul, Nat.reduceSub, Nat.reduceEqDiff, Nat.reduceLT, Nat.reduceLeDiff, reduceIte, reduceCtorEq, Int.reduceLE, Int.reduceLT, Int.reduceGE, Int.reduceGT, Int.reduceAdd, Int.reduceSub, Int.reduceMul, Int.reduceToNat, Int.reduceBEq, Int.reduceBNe, Nat.reduceBEq, Nat.reduceDiv, Nat.reduceMod, Int.reduceNeg, Int.reduceEq, h2, h4, s2, s4, h7]
  · have hn : r.number n = ((r.bytes n).1, beV (r.bytes n).2) := by unfold Rd.number; rw [if_neg hc]
    rw [hn]
    generalize r.bytes n = q at *
    obtain ⟨⟨qs, qa, qe⟩, x⟩ := q
    obtain ⟨s, a, e⟩ := r
    simp only at l0 hlen hc
    simp -implicitDefEqProofs (disch := omega) only [go_sem, Nat.reduceAdd, Nat.reduceMul, Nat.reduceSub, Nat.reduceEqDiff, Nat.reduceLT, Nat.reduceLeDiff, reduceIte, reduceCtorEq, Int.reduceLE, Int.reduceLT, Int.reduceGE, Int.reduceGT, Int.reduceAdd, Int.reduceSub, Int.reduceMul, Int.reduceToNat, Int.reduceBEq, Int.reduceBNe, Nat.reduceBEq, Nat.reduceDiv, Nat.reduceMod, Int.reduceNeg, Int.reduceEq, Rd.v] at hb0 ⊢
    by_cases h0 : e = 0
    · have h8 : ¬ 8 < n := fun c => hc ⟨h0, c⟩
      subst h0
      simp -implicitDefEqProofs (disch := omega) only [go_sem, Nat.reduceAdd, Nat.reduceMul, Nat.reduceSub, Nat.reduceEqDiff, Nat.reduceLT, Nat.reduceLeDiff, reduceIte, reduceCtorEq, Int.reduceLE, Int.reduceLT, Int.reduceGE, Int.reduceGT, Int.reduceAdd, Int.reduceSub, Int.reduceMul, Int.reduceToNat, Int.reduceBEq, Int.reduceBNe, Nat.reduceBEq, Nat.reduceDiv, Nat.reduceMod, Int.reduceNeg, Int.reduceEq, h8, hb0]
      refine fnum_loop (.ptr 192 1 0) (.ptr 320 1 0) ⟨1, .rw, false, [.str qs, .int .i64 (qa : Int), .int .i64 qe]⟩ ⟨1, .rw, false, [.str [], .int .i64 0, .int .i64 0]⟩ x (by omega) ⟨by omega, by simp -implicitDefEqProofs (disch := omega) only [go_sem, Nat.reduceAdd, Nat.reduceMul, Nat.reduceSub, Nat.reduceEqDiff, Nat.reduceLT, Nat.reduceLeDiff, reduceIte, reduceCtorEq, Int.reduceLE, Int.reduceLT, Int.reduceGE, Int.reduceGT, Int.reduceAdd, Int.reduceSub, Int.reduceMul, Int.reduceToNat, Int.reduceBEq, Int.reduceBNe, Nat.reduceBEq, Nat.reduceDiv, Nat.reduceMod, Int.reduceNeg, Int.reduceEq, go_sem], by simp -implicitDefEqProofs (disch := omega) only [go_sem, Nat.reduceAdd, Nat.reduceMul, Nat.reduceSub, Nat.reduceEqDiff, Nat.reduceLT, Nat.reduceLeDiff, reduceIte, reduceCtorEq, Int.reduceLE, Int.reduceLT, Int.reduceGE, Int.reduceGT, Int.reduceAdd, Int.reduceSub, Int.reduceMul, Int.reduceToNat, Int.reduceBEq, Int.reduceBNe, Nat.reduceBEq, Nat.reduceDiv, Nat.reduceMod, Int.reduceNeg, Int.reduceEq, go_sem], by simp -implicitDefEqProofs (disch := omega) only [go_sem, Nat.reduceAdd, Nat.reduceMul, Nat.reduceSub, Nat.reduceEqDiff, Nat.reduceLT, Nat.reduceLeDiff, reduceIte, reduceCtorEq, Int.reduceLE, Int.reduceLT, Int.reduceGE, Int.reduceGT, Int.reduceAdd, Int.reduceSub, Int.reduceMul, Int.reduceToNat, Int.reduceBEq, Int.reduceBNe, Nat.reduceBEq, Nat.reduceDiv, Nat.reduceMod, Int.reduceNeg, Int.reduceEq, go_sem], by simp -implicitDefEqProofs (disch := omega) only [go_sem, Nat.reduceAdd, Nat.reduceMul, Nat.reduceSub, Nat.reduceEqDiff, Nat.reduceLT, Nat.reduceLeDiff, reduceIte, reduceCtorEq, Int.reduceLE, Int.reduceLT, Int.reduceGE, Int.reduceGT, Int.reduceAdd, Int.reduceSub, Int.reduceMul, Int.reduceToNat, Int.reduceBEq, Int.reduceBNe, Nat.reduceBEq, Nat.reduceDiv, Nat.reduceMod, Int.reduceNeg, Int.reduceEq, go_sem], by simp -implicitDefEqProofs (disch := omega) only [go_sem, Nat.reduceAdd, Nat.reduceMul, Nat.reduceSub, Nat.reduceEqDiff, Nat.reduceLT, Nat.reduceLeDiff, reduceIte, reduceCtorEq, Int.reduceLE, Int.reduceLT, Int.reduceGE, Int.reduceGT, Int.reduceAdd, Int.reduceSub, Int.reduceMul, Int.reduceToNat, Int.reduceBEq, Int.reduceBNe, Nat.reduceBEq, Nat.reduceDiv, Nat.reduceMod, Int.reduceNeg, Int.reduceEq, go_sem], by simp -implicitDefEqProofs (disch := omega) only [go_sem, Nat.reduceAdd, Nat.reduceMul, Nat.reduceSub, Nat.reduceEqDiff, Nat.reduceLT, Nat.reduceLeDiff, reduceIte, reduceCtorEq, Int.reduceLE, Int.reduceLT, Int.reduceGE, Int.reduceGT, Int.reduceAdd, Int.reduceSub, Int.reduceMul, Int.reduceToNat, Int.reduceBEq, Int.reduceBNe, Nat.reduceBEq, Nat.reduceDiv, Nat.reduceMod, Int.reduceNeg, Int.reduceEq, List.take_zero]; rfl, by simp -implicitDefEqProofs (disch := omega) only [go_sem, Nat.reduceAdd, Nat.reduceMul, Nat.reduceSub, Nat.reduceEqDiff, Nat.reduceLT, Nat.reduceLeDiff, reduceIte, reduceCtorEq, Int.reduceLE, Int.reduceLT, Int.reduceGE, Int.reduceGT, Int.reduceAdd, Int.reduceSub, Int.reduceMul, Int.reduceToNat, Int.reduceBEq, Int.reduceBNe, Nat.reduceBEq, Nat.reduceDiv, Nat.reduceMod, Int.reduceNeg, Int.reduceEq, go_sem]⟩ ?_
      intro t σ h2 h4 s2 s4 h7
      simp -implicitDefEqProofs (disch := omega) only [go_sem, Nat.reduceAdd, Nat.reduceMul, Nat.reduceSub, Nat.reduceEqDiff, Nat.reduceLT, Nat.reduceLeDiff, reduceIte, reduceCtorEq, Int.reduceLE, Int.reduceLT, Int.reduceGE, Int.reduceGT, Int.reduceAdd, Int.reduceSub, Int.reduceMul, Int.reduceToNat, Int.reduceBEq, Int.reduceBNe, Nat.reduceBEq, Nat.reduceDiv, Nat.reduceMod, Int.reduceNeg, Int.reduceEq, h2, h4, s2, s4, h7]
    · simp -implicitDefEqProofs (disch := omega) only [go_sem, Nat.reduceAdd, Nat.reduceMul, Nat.reduceSub, Nat.reduceEqDiff, Nat.reduceLT, Nat.reduceLeDiff, reduceIte, reduceCtorEq, Int.reduceLE, Int.reduceLT, Int.reduceGE, Int.reduceGT, Int.reduceAdd, Int.reduceSub, Int.reduceMul, Int.reduceToNat, Int.reduceBEq, Int.reduceBNe, Nat.reduceBEq, Nat.reduceDiv, Nat.reduceMod, Int.reduceNeg, Int.reduceEq, h0, hb0]
      refine fnum_loop (.ptr 192 1 0) (.ptr 320 1 0) ⟨1, .rw, false, [.str qs, .int .i64 (qa : Int), .int .i64 qe]⟩ ⟨1, .rw, false, [.str [], .int .i64 0, .int .i64 0]⟩ x (by omega) ⟨by omega, by simp -implicitDefEqProofs (disch := omega) only [go_sem, Nat.reduceAdd, Nat.reduceMul, Nat.reduceSub, Nat.reduceEqDiff, Nat.reduceLT, Nat.reduceLeDiff, reduceIte, reduceCtorEq, Int.reduceLE, Int.reduceLT, Int.reduceGE, Int.reduceGT, Int.reduceAdd, Int.reduceSub, Int.reduceMul, Int.reduceToNat, Int.reduceBEq, Int.reduceBNe, Nat.reduceBEq, Nat.reduceDiv, Nat.reduceMod, Int.reduceNeg, Int.reduceEq, go_sem], by simp -implicitDefEqProofs (disch := omega) only [go_sem, Nat.reduceAdd, Nat.reduceMul, Nat.reduceSub, Nat.reduceEqDiff, Nat.reduceLT, Nat.reduceLeDiff, reduceIte, reduceCtorEq, Int.reduceLE, Int.reduceLT, Int.reduceGE, Int.reduceGT, Int.reduceAdd, Int.reduceSub, Int.reduceMul, Int.reduceToNat, Int.reduceBEq, Int.reduceBNe, Nat.reduceBEq, Nat.reduceDiv, Nat.reduceMod, Int.reduceNeg, Int.reduceEq, go_sem], by simp -implicitDefEqProofs (disch := omega) only [go_sem, Nat.reduceAdd, Nat.reduceMul, Nat.reduceSub, Nat.reduceEqDiff, Nat.reduceLT, Nat.reduceLeDiff, reduceIte, reduceCtorEq, Int.reduceLE, Int.reduceLT, Int.reduceGE, Int.reduceGT, Int.reduceAdd, Int.reduceSub, Int.reduceMul, Int.reduceToNat, Int.reduceBEq, Int.reduceBNe, Nat.reduceBEq, Nat.reduceDiv, Nat.reduceMod, Int.reduceNeg, Int.reduceEq, go_sem], by simp -implicitDefEqProofs (disch := omega) only [go_sem, Nat.reduceAdd, Nat.reduceMul, Nat.reduceSub, Nat.reduceEqDiff, Nat.reduceLT, Nat.reduceLeDiff, reduceIte, reduceCtorEq, Int.reduceLE, Int.reduceLT, Int.reduceGE, Int.reduceGT, Int.reduceAdd, Int.reduceSub, Int.reduceMul, Int.reduceToNat, Int.reduceBEq, Int.reduceBNe, Nat.reduceBEq, Nat.reduceDiv, Nat.reduceMod, Int.reduceNeg, Int.reduceEq, go_sem], by simp -implicitDefEqProofs (disch := omega) only [go_sem, Nat.reduceAdd, Nat.reduceMul, Nat.reduceSub, Nat.reduceEqDiff, Nat.reduceLT, Nat.reduceLeDiff, reduceIte, reduceCtorEq, Int.reduceLE, Int.reduceLT, Int.reduceGE, Int.reduceGT, Int.reduceAdd, Int.reduceSub, Int.reduceMul, Int.reduceToNat, Int.reduceBEq, Int.reduceBNe, Nat.reduceBEq, Nat.reduceDiv, Nat.reduceMod, Int.reduceNeg, Int.reduceEq, go_sem], by simp -implicitDefEqProofs (disch := omega) only [go_sem, Nat.reduceAdd, Nat.reduceMul, Nat.reduceSub, Nat.reduceEqDiff, Nat.reduceLT, Nat.reduceLeDiff, reduceIte, reduceCtorEq, Int.reduceLE, Int.reduceLT, Int.reduceGE, Int.reduceGT, Int.reduceAdd, Int.reduceSub, Int.reduceMul, Int.reduceToNat, Int.reduceBEq, Int.reduceBNe, Nat.reduceBEq, Nat.reduceDiv, Nat.reduceMod, Int.reduceNeg, Int.reduceEq, List.take_zero]; rfl, by simp -implicitDefEqProofs (disch := omega) only [go_sem, Nat.reduceAdd, Nat.reduceMul, Nat.reduceSub, Nat.reduceEqDiff, Nat.reduceLT, Nat.reduceLeDiff, reduceIte, reduceCtorEq, Int.reduceLE, Int.reduceLT, Int.reduceGE, Int.reduceGT, Int.reduceAdd, Int.reduceSub, Int.reduceMul, Int.reduceToNat, Int.reduceBEq, Int.reduceBNe, Nat.reduceBEq, Nat.reduceDiv, Nat.reduceMod, Int.reduceNeg, Int.reduceEq, go_sem]⟩ ?_
      intro t σ h2 h4 s2 s4 h7
      simp -implicitDefEqProofs (disch := omega) only [go_sem, Nat.reduceAdd, Nat.reduceMul, Nat.reduceSub, Nat.reduceEqDiff, Nat.reduceLT, Nat.reduceLeDiff, reduceIte, reduceCtorEq, Int.reduceLE, Int.reduceLT, Int.reduceGE, Int.reduceGT, Int.reduceAdd, Int.reduceSub, Int.reduceMul, Int.reduceToNat, Int.reduceBEq, Int.reduceBNe, Nat.reduceBEq, Nat.reduceDiv, Nat.reduceMod, Int.reduceNeg, Int.reduceEq, h2, h4, s2, s4, h7]
theorem FCount_ok (r : Rd) (h : r.ok) (most : Int) (hm : most < 9223372036854775808) : Gf fns 27 [.agg r.v, .int .i64 most] = some (.tup [.agg (r.count most).1.v, .int .i64 ((r.count most).2 : Int)], []) := by
  have hn := FNumber_ok r h 4
  have hz : (r.number 4).1.err ≠ 0 → (r.number 4).2 = 0 := by
    unfold Rd.number
    simp only
    intro hne
    have : ∀ q : Rd, (q.bytes 4).1.err ≠ 0 → (q.bytes 4).2 = [] := by
      intro q hq
      unfold Rd.bytes at hq ⊢
      repeat' split
      · rfl
      · rfl
      · rfl
      · rename_i g1 g2 g3
        rw [if_neg g1, if_neg g2, if_neg g3] at hq
        exact absurd (by simpa using g1) hq
    rw [this _ hne]
    rfl
  have hso : (r.number 4).1.s = r.s := (Rd.number_ok h 4).2
  unfold Rd.count
  generalize r.number 4 = q at *
  obtain ⟨⟨qs, qa, qe⟩, x⟩ := q
  obtain ⟨s, a, e⟩ := r
  simp only at hso
  subst hso
  have hx := lt_u64 x
  simp -implicitDefEqProofs (disch := omega) only [go_sem, Nat.reduceAdd, Nat.reduceMul, Nat.reduceSub, Nat.reduceEqDiff, Nat.reduceLT, Nat.reduceLeDiff, reduceIte, reduceCtorEq, Int.reduceLE, Int.reduceLT, Int.reduceGE, Int.reduceGT, Int.reduceAdd, Int.reduceSub, Int.reduceMul, Int.reduceToNat, Int.reduceBEq, Int.reduceBNe, Nat.reduceBEq, Nat.reduceDiv, Nat.reduceMod, Int.reduceNeg, Int.reduceEq, Rd.v] at hn
  refine Gf_start rfl rfl ?_
  by_cases hq : qe = 0
  · subst hq
    by_cases h0 : most < 0
    · simp -implicitDefEqProofs (disch := omega) only [go_sem, Nat.reduceAdd, Nat.reduceMul, Nat.reduceSub, Nat.reduceEqDiff, Nat.reduceLT, Nat.reduceLeDiff, reduceIte, reduceCtorEq, Int.reduceLE, Int.reduceLT, Int.reduceGE, Int.reduceGT, Int.reduceAdd, Int.reduceSub, Int.reduceMul, Int.reduceToNat, Int.reduceBEq, Int.reduceBNe, Nat.reduceBEq, Nat.reduceDiv, Nat.reduceMod, Int.reduceNeg, Int.reduceEq, Rd.v, hn, h0]
    · obtain ⟨m, rfl⟩ : ∃ m : Nat, most = (m : Int) := ⟨most.toNat, by omega⟩
      by_cases hmx : m < x.toNat
      · simp -implicitDefEqProofs (disch := omega) only [go_sem, Nat.reduceAdd, Nat.reduceMul, Nat.reduceSub, Nat.reduceEqDiff, Nat.reduceLT, Nat.reduceLeDiff, reduceIte, reduceCtorEq, Int.reduceLE, Int.reduceLT, Int.reduceGE, Int.reduceGT, Int.reduceAdd, Int.reduceSub, Int.reduceMul, Int.reduceToNat, Int.reduceBEq, Int.reduceBNe, Nat.reduceBEq, Nat.reduceDiv, Nat.reduceMod, Int.reduceNeg, Int.reduceEq, Rd.v, hn, hmx]
      · simp -implicitDefEqProofs (disch := omega) only [go_sem, Nat.reduceAdd, Nat.reduceMul, Nat.reduceSub, Nat.reduceEqDiff, Nat.reduceLT, Nat.reduceLeDiff, reduceIte, reduceCtorEq, Int.reduceLE, Int.reduceLT, Int.reduceGE, Int.reduceGT, Int.reduceAdd, Int.reduceSub, Int.reduceMul, Int.reduceToNat, Int.reduceBEq, Int.reduceBNe, Nat.reduceBEq, Nat.reduceDiv, Nat.reduceMod, Int.reduceNeg, Int.reduceEq, Rd.v, hn, hmx]
  · have hx0 : x = 0 := hz hq
    subst hx0
    have z0 : ((0 : UInt64).toNat : Int) = 0 := rfl
    simp -implicitDefEqProofs (disch := omega) only [go_sem, Nat.reduceAdd, Nat.reduceMul, Nat.reduceSub, Nat.reduceEqDiff, Nat.reduceLT, Nat.reduceLeDiff, reduceIte, reduceCtorEq, Int.reduceLE, Int.reduceLT, Int.reduceGE, Int.reduceGT, Int.reduceAdd, Int.reduceSub, Int.reduceMul, Int.reduceToNat, Int.reduceBEq, Int.reduceBNe, Nat.reduceBEq, Nat.reduceDiv, Nat.reduceMod, Int.reduceNeg, Int.reduceEq, Rd.v, hn, hq, z0]
end Go.Vm.Ytapehdbmfodmoaa
