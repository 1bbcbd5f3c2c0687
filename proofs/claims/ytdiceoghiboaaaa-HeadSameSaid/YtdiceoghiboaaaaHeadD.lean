/- Headers: one read. -/
import Derived.Test.YtdiceoghiboaaaaHeadC
set_option linter.unusedSectionVars false
set_option linter.unusedSimpArgs false
set_option linter.unusedVariables false
set_option maxHeartbeats 1000000
set_option maxRecDepth 10000
namespace Go.Vm.Ytdiceoghiboaaaa
open Go.Proofs
theorem okS {a : Nat} (h : a ≤ 107) : (Rd.mk hdS a 0).ok := ⟨by rw [hdS_len]; exact h, by rw [hdS_len]; omega⟩
theorem rn1 (a : Nat) (ha : a ≤ 107) (x : UInt64) (y : Int) (hy : y = (x.toNat : Int)) (he : (Rd.mk hdS a 0).number 1 = (⟨hdS, a + 1, 0⟩, x)) : Gf fns 31 [.opt (Rd.v ⟨hdS, a, 0⟩), .int .i64 1] = some (.int .u64 y, [.opt (Rd.v ⟨hdS, a + 1, 0⟩)]) := by
  have h := RNumber_ok _ (okS ha) 1
  rw [he] at h
  rw [hy]
  exact h
theorem TakeM_ok : Gf fns 33 [.opt (Rd.v ⟨hdS, 104, 0⟩)] = some (.osl 1 2 [.int .i64 2, .int .i64 5], [.opt (Rd.v ⟨hdS, 107, 0⟩)]) := by
  have a1 := rn1 104 (by omega) 2 2 rfl (by kernel_rfl)
  have a2 := rn1 105 (by omega) 2 2 rfl (by kernel_rfl)
  have a3 := rn1 106 (by omega) 5 5 rfl (by kernel_rfl)
  have e1 := Err_ok ⟨hdS, 105, 0⟩
  have e2 := Err_ok ⟨hdS, 106, 0⟩
  have e3 := Err_ok ⟨hdS, 107, 0⟩
  have m := Members_ok .ro [2, 5] (by decide)
  rw [show membersB [2, 5] = true by decide] at m
  simp -implicitDefEqProofs (disch := omega) only [go_sem, Nat.reduceAdd, Nat.reduceMul, Nat.reduceSub, Nat.reduceEqDiff, Nat.reduceLT, Nat.reduceLeDiff, reduceIte, reduceCtorEq, Int.reduceLE, Int.reduceLT, Int.reduceGE, Int.reduceGT, Int.reduceAdd, Int.reduceSub, Int.reduceMul, Int.reduceToNat, Int.reduceBEq, Int.reduceBNe, Nat.reduceBEq, Nat.reduceDiv, Nat.reduceMod, Nat.reduceBEq, Int.reduceNeg, Int.reduceToNat, Int.reduceEq, Nat.reduceLeDiff, iI] at m
  simp -implicitDefEqProofs (disch := omega) only [go_sem, Nat.reduceAdd, Nat.reduceMul, Nat.reduceSub, Nat.reduceEqDiff, Nat.reduceLT, Nat.reduceLeDiff, reduceIte, reduceCtorEq, Int.reduceLE, Int.reduceLT, Int.reduceGE, Int.reduceGT, Int.reduceAdd, Int.reduceSub, Int.reduceMul, Int.reduceToNat, Int.reduceBEq, Int.reduceBNe, Nat.reduceBEq, Nat.reduceDiv, Nat.reduceMod, Nat.reduceBEq, Int.reduceNeg, Int.reduceToNat, Int.reduceEq, Nat.reduceLeDiff, Rd.v] at a1 a2 a3 e1 e2 e3
  refine Gf_start rfl rfl ?_
  simp -implicitDefEqProofs (disch := omega) only [go_sem, Nat.reduceAdd, Nat.reduceMul, Nat.reduceSub, Nat.reduceEqDiff, Nat.reduceLT, Nat.reduceLeDiff, reduceIte, reduceCtorEq, Int.reduceLE, Int.reduceLT, Int.reduceGE, Int.reduceGT, Int.reduceAdd, Int.reduceSub, Int.reduceMul, Int.reduceToNat, Int.reduceBEq, Int.reduceBNe, Nat.reduceBEq, Nat.reduceDiv, Nat.reduceMod, Nat.reduceBEq, Int.reduceNeg, Int.reduceToNat, Int.reduceEq, Nat.reduceLeDiff, Rd.v, callr31, a1, ↓wp_unroll, lp33_0, e1, a2, e2, a3, e3, m]
theorem Take_ok : Gf fns 25 [.opt (Rd.v ⟨hdS, 0, 0⟩)] = some (.agg [.int .u64 1, .str z32s, .str z32s, .str z32s, .osl 1 2 [.int .i64 2, .int .i64 5]], [.opt (Rd.v ⟨hdS, 107, 0⟩)]) := by
  have n1 := RNumber_ok _ (okS (a := 0) (by omega)) 8
  rw [show (Rd.mk hdS 0 0).number 8 = (⟨hdS, 8, 0⟩, 1) by kernel_rfl] at n1
  have h1 := RHash_ok _ (okS (a := 8) (by omega))
  rw [show (Rd.mk hdS 8 0).bytes 32 = (⟨hdS, 40, 0⟩, z32s) by kernel_rfl] at h1
  have h2 := RHash_ok _ (okS (a := 40) (by omega))
  rw [show (Rd.mk hdS 40 0).bytes 32 = (⟨hdS, 72, 0⟩, z32s) by kernel_rfl] at h2
  have h3 := RHash_ok _ (okS (a := 72) (by omega))
  rw [show (Rd.mk hdS 72 0).bytes 32 = (⟨hdS, 104, 0⟩, z32s) by kernel_rfl] at h3
  have tm := TakeM_ok
  have e3 := Err_ok ⟨hdS, 107, 0⟩
  have c := Check_ok hd1 (by refine ⟨?_, ?_, ?_, ?_⟩ <;> decide) .ro
  rw [hd1_fine] at c
  replace c : Gf fns 20 [.agg [.int .u64 1, .str z32s, .str z32s, .str z32s, .sl .ro 2 [.int .i64 2, .int .i64 5]]] = some (.int .i64 0, []) := c
  have f := RFail_ok ⟨hdS, 107, 0⟩ 0
  rw [show (Rd.mk hdS 107 0).fail 0 = ⟨hdS, 107, 0⟩ from rfl] at f
  replace n1 : Gf fns 31 [.opt (Rd.v ⟨hdS, 0, 0⟩), .int .i64 8] = some (.int .u64 1, [.opt (Rd.v ⟨hdS, 8, 0⟩)]) := n1
  simp -implicitDefEqProofs (disch := omega) only [go_sem, Nat.reduceAdd, Nat.reduceMul, Nat.reduceSub, Nat.reduceEqDiff, Nat.reduceLT, Nat.reduceLeDiff, reduceIte, reduceCtorEq, Int.reduceLE, Int.reduceLT, Int.reduceGE, Int.reduceGT, Int.reduceAdd, Int.reduceSub, Int.reduceMul, Int.reduceToNat, Int.reduceBEq, Int.reduceBNe, Nat.reduceBEq, Nat.reduceDiv, Nat.reduceMod, Nat.reduceBEq, Int.reduceNeg, Int.reduceToNat, Int.reduceEq, Nat.reduceLeDiff, Rd.v] at n1 h1 h2 h3 tm e3 f
  refine Gf_start rfl rfl ?_
  simp -implicitDefEqProofs (disch := omega) only [go_sem, Nat.reduceAdd, Nat.reduceMul, Nat.reduceSub, Nat.reduceEqDiff, Nat.reduceLT, Nat.reduceLeDiff, reduceIte, reduceCtorEq, Int.reduceLE, Int.reduceLT, Int.reduceGE, Int.reduceGT, Int.reduceAdd, Int.reduceSub, Int.reduceMul, Int.reduceToNat, Int.reduceBEq, Int.reduceBNe, Nat.reduceBEq, Nat.reduceDiv, Nat.reduceMod, Nat.reduceBEq, Int.reduceNeg, Int.reduceToNat, Int.reduceEq, Nat.reduceLeDiff, Rd.v, callr31, n1, callr32, h1, h2, h3, callr33, tm, e3, c, callr35, f]
theorem Decode_ok : Gf fns 14 [.str hdS] = some (.tup [.agg [.int .u64 1, .str z32s, .str z32s, .str z32s, .osl 1 2 [.int .i64 2, .int .i64 5]], .int .i64 0], []) := by
  have n := NewReader_ok hdS
  have tk := Take_ok
  have e := REnd_ok _ (okS (a := 107) (by omega))
  rw [show (Rd.mk hdS 107 0).end' = ⟨hdS, 107, 0⟩ by kernel_rfl] at e
  simp -implicitDefEqProofs (disch := omega) only [go_sem, Nat.reduceAdd, Nat.reduceMul, Nat.reduceSub, Nat.reduceEqDiff, Nat.reduceLT, Nat.reduceLeDiff, reduceIte, reduceCtorEq, Int.reduceLE, Int.reduceLT, Int.reduceGE, Int.reduceGT, Int.reduceAdd, Int.reduceSub, Int.reduceMul, Int.reduceToNat, Int.reduceBEq, Int.reduceBNe, Nat.reduceBEq, Nat.reduceDiv, Nat.reduceMod, Nat.reduceBEq, Int.reduceNeg, Int.reduceToNat, Int.reduceEq, Nat.reduceLeDiff, Rd.v] at n tk e
  refine Gf_start rfl rfl ?_
  simp -implicitDefEqProofs (disch := omega) only [go_sem, Nat.reduceAdd, Nat.reduceMul, Nat.reduceSub, Nat.reduceEqDiff, Nat.reduceLT, Nat.reduceLeDiff, reduceIte, reduceCtorEq, Int.reduceLE, Int.reduceLT, Int.reduceGE, Int.reduceGT, Int.reduceAdd, Int.reduceSub, Int.reduceMul, Int.reduceToNat, Int.reduceBEq, Int.reduceBNe, Nat.reduceBEq, Nat.reduceDiv, Nat.reduceMod, Nat.reduceBEq, Int.reduceNeg, Int.reduceToNat, Int.reduceEq, Nat.reduceLeDiff, Rd.v, n, callr25, tk, callr26, e]
theorem awake_ok : Gf fns 6 [] = some (.bool true, []) := by
  have z := zeros_ok
  rw [show List.replicate 32 0 = z32s from rfl] at z
  refine Gf_start rfl rfl ?_
  simp -implicitDefEqProofs (disch := omega) only [go_sem, Nat.reduceAdd, Nat.reduceMul, Nat.reduceSub, Nat.reduceEqDiff, Nat.reduceLT, Nat.reduceLeDiff, reduceIte, reduceCtorEq, Int.reduceLE, Int.reduceLT, Int.reduceGE, Int.reduceGT, Int.reduceAdd, Int.reduceSub, Int.reduceMul, Int.reduceToNat, Int.reduceBEq, Int.reduceBNe, Nat.reduceBEq, Nat.reduceDiv, Nat.reduceMod, Nat.reduceBEq, Int.reduceNeg, Int.reduceToNat, Int.reduceEq, Nat.reduceLeDiff, z, Encode_ok, Decode_ok]


theorem hwrapi64_id {x : Int} (h0 : -9223372036854775808 ≤ x) (h1 : x ≤ 9223372036854775807) : IntKind.i64.wrap x = x := by
  rw [IntKind.wrap_i64]; omega
theorem hofInt_toNat (x : Int) : (BitVec.ofInt 64 x).toNat = (x % 18446744073709551616).toNat := by
  rw [BitVec.toNat_ofInt]; rfl
/-- Behind a mask of the lowest bits a number's rest is left. -/
theorem hand_mask (x : Int) (j : Nat) (hj : j < 63) : Go.bits .and .i64 x (2 ^ j - 1) = x % 2 ^ j := by
  have hp : (2 : Nat) ^ j < 2 ^ 63 := Nat.pow_lt_pow_right (by decide) hj
  have hpos : 0 < (2 : Nat) ^ j := Nat.two_pow_pos j
  have hpi : ((2 : Int) ^ j) = ((2 ^ j : Nat) : Int) := by simp
  have h2 : (BitVec.ofInt 64 ((2 : Int) ^ j - 1)).toNat = 2 ^ j - 1 := by
    rw [hofInt_toNat, hpi]
    omega
  have e : Go.bits .and .i64 x (2 ^ j - 1) = IntKind.i64.wrap ((BitVec.ofInt 64 x &&& BitVec.ofInt 64 ((2 : Int) ^ j - 1)).toNat : Int) := rfl
  rw [e, BitVec.toNat_and, h2, Nat.and_two_pow_sub_one_eq_mod, hofInt_toNat]
  have hm : (((x % 18446744073709551616).toNat % 2 ^ j : Nat) : Int) = x % 2 ^ j := by
    rw [Int.natCast_emod, Int.toNat_of_nonneg (by omega), hpi, Int.emod_emod_of_dvd]
    have : (18446744073709551616 : Int) = ((2 ^ 64 : Nat) : Int) := by decide
    rw [this]
    exact Int.natCast_dvd_natCast.2 (Nat.pow_dvd_pow 2 (by omega))
  rw [hm]
  have h3 : 0 ≤ x % 2 ^ j := Int.emod_nonneg _ (by rw [hpi]; omega)
  have h4 : x % 2 ^ j < 2 ^ j := Int.emod_lt_of_pos _ (by rw [hpi]; omega)
  rw [hpi] at h4
  exact hwrapi64_id (by omega) (by omega)
theorem memb_ne {m : List Int} (h : membersB m = true) : ¬ m = [] := fun e => by rw [e] at h; cases h
theorem set99 {m : List Int} (h : membersB m = true) : (m.map iI).set 0 (.int .i64 99) = (m.set 0 99).map iI := by rw [List.map_set]; rfl
theorem set99_ne {m : List Int} (h : membersB m = true) : ¬ m = m.set 0 99 := fun e => by
  cases m with
  | nil => cases h
  | cons x l =>
    have := ((memb_range h).1 x (by simp)).2
    rw [List.set_cons_zero] at e
    injection e with e1 e2
    omega
theorem headSame_law (a b : Hd) (n : Int) (hn : -9223372036854775808 ≤ n ∧ n < 9223372036854775808) (ha : a.small) (hb : b.small) (ka kb : SK) (hka : ka = .nil → a.m = []) (hkb : kb = .nil → b.m = []) (hka2 : ka = .nil ∨ ka = .ro) (hkb2 : kb = .nil ∨ kb = .ro) : fnA (tabW fns) [.bor, .bor, .bor] ir3 [.agg (a.v (a.ms ka)), .agg (b.v (b.ms kb)), .int .i64 n] (fun q => q = (.bool true, [])) := by
  have ra := Ref_ok a ka
  have rb := Ref_ok b kb
  have ca := RCheck_ok a ha ka
  have cb := RCheck_ok b hb kb
  refine fnA_start rfl ?_
  cases fa : a.fine
  · rw [fa] at ca
    rcases hka2 with rfl | rfl
    · simp -implicitDefEqProofs (disch := omega) only [go_sem, Nat.reduceAdd, Nat.reduceMul, Nat.reduceSub, Nat.reduceEqDiff, Nat.reduceLT, Nat.reduceLeDiff, reduceIte, reduceCtorEq, Int.reduceLE, Int.reduceLT, Int.reduceGE, Int.reduceGT, Int.reduceAdd, Int.reduceSub, Int.reduceMul, Int.reduceToNat, Int.reduceBEq, Int.reduceBNe, Nat.reduceBEq, Nat.reduceDiv, Nat.reduceMod, Nat.reduceBEq, Int.reduceNeg, Int.reduceToNat, Int.reduceEq, Nat.reduceLeDiff, Hd.v, Hd.ms] at ra ca
      simp -implicitDefEqProofs (disch := omega) only [go_sem, Nat.reduceAdd, Nat.reduceMul, Nat.reduceSub, Nat.reduceEqDiff, Nat.reduceLT, Nat.reduceLeDiff, reduceIte, reduceCtorEq, Int.reduceLE, Int.reduceLT, Int.reduceGE, Int.reduceGT, Int.reduceAdd, Int.reduceSub, Int.reduceMul, Int.reduceToNat, Int.reduceBEq, Int.reduceBNe, Nat.reduceBEq, Nat.reduceDiv, Nat.reduceMod, Nat.reduceBEq, Int.reduceNeg, Int.reduceToNat, Int.reduceEq, Nat.reduceLeDiff, Hd.v, Hd.ms, ra, ca, awake_ok]
    · simp -implicitDefEqProofs (disch := omega) only [go_sem, Nat.reduceAdd, Nat.reduceMul, Nat.reduceSub, Nat.reduceEqDiff, Nat.reduceLT, Nat.reduceLeDiff, reduceIte, reduceCtorEq, Int.reduceLE, Int.reduceLT, Int.reduceGE, Int.reduceGT, Int.reduceAdd, Int.reduceSub, Int.reduceMul, Int.reduceToNat, Int.reduceBEq, Int.reduceBNe, Nat.reduceBEq, Nat.reduceDiv, Nat.reduceMod, Nat.reduceBEq, Int.reduceNeg, Int.reduceToNat, Int.reduceEq, Nat.reduceLeDiff, Hd.v, Hd.ms] at ra ca
      simp -implicitDefEqProofs (disch := omega) only [go_sem, Nat.reduceAdd, Nat.reduceMul, Nat.reduceSub, Nat.reduceEqDiff, Nat.reduceLT, Nat.reduceLeDiff, reduceIte, reduceCtorEq, Int.reduceLE, Int.reduceLT, Int.reduceGE, Int.reduceGT, Int.reduceAdd, Int.reduceSub, Int.reduceMul, Int.reduceToNat, Int.reduceBEq, Int.reduceBNe, Nat.reduceBEq, Nat.reduceDiv, Nat.reduceMod, Nat.reduceBEq, Int.reduceNeg, Int.reduceToNat, Int.reduceEq, Nat.reduceLeDiff, Hd.v, Hd.ms, ra, ca, awake_ok]
  obtain ⟨a0, a1, a2, a3, a4⟩ := fine_of fa
  obtain rfl : ka = .ro := by
    rcases hka2 with h | h
    · exact absurd (hka h) (memb_ne a4)
    · exact h
  have nz : (a.m.length != 0) = true := by simpa using memb_ne a4
  cases fb : b.fine
  · rw [fa] at ca
    rw [fb] at cb
    rcases hkb2 with rfl | rfl
    · simp -implicitDefEqProofs (disch := omega) only [go_sem, Nat.reduceAdd, Nat.reduceMul, Nat.reduceSub, Nat.reduceEqDiff, Nat.reduceLT, Nat.reduceLeDiff, reduceIte, reduceCtorEq, Int.reduceLE, Int.reduceLT, Int.reduceGE, Int.reduceGT, Int.reduceAdd, Int.reduceSub, Int.reduceMul, Int.reduceToNat, Int.reduceBEq, Int.reduceBNe, Nat.reduceBEq, Nat.reduceDiv, Nat.reduceMod, Nat.reduceBEq, Int.reduceNeg, Int.reduceToNat, Int.reduceEq, Nat.reduceLeDiff, Hd.v, Hd.ms] at ra ca rb cb
      simp -implicitDefEqProofs (disch := omega) only [go_sem, Nat.reduceAdd, Nat.reduceMul, Nat.reduceSub, Nat.reduceEqDiff, Nat.reduceLT, Nat.reduceLeDiff, reduceIte, reduceCtorEq, Int.reduceLE, Int.reduceLT, Int.reduceGE, Int.reduceGT, Int.reduceAdd, Int.reduceSub, Int.reduceMul, Int.reduceToNat, Int.reduceBEq, Int.reduceBNe, Nat.reduceBEq, Nat.reduceDiv, Nat.reduceMod, Nat.reduceBEq, Int.reduceNeg, Int.reduceToNat, Int.reduceEq, Nat.reduceLeDiff, Hd.v, Hd.ms, ra, ca, rb, cb, awake_ok, nz]
    · simp -implicitDefEqProofs (disch := omega) only [go_sem, Nat.reduceAdd, Nat.reduceMul, Nat.reduceSub, Nat.reduceEqDiff, Nat.reduceLT, Nat.reduceLeDiff, reduceIte, reduceCtorEq, Int.reduceLE, Int.reduceLT, Int.reduceGE, Int.reduceGT, Int.reduceAdd, Int.reduceSub, Int.reduceMul, Int.reduceToNat, Int.reduceBEq, Int.reduceBNe, Nat.reduceBEq, Nat.reduceDiv, Nat.reduceMod, Nat.reduceBEq, Int.reduceNeg, Int.reduceToNat, Int.reduceEq, Nat.reduceLeDiff, Hd.v, Hd.ms] at ra ca rb cb
      simp -implicitDefEqProofs (disch := omega) only [go_sem, Nat.reduceAdd, Nat.reduceMul, Nat.reduceSub, Nat.reduceEqDiff, Nat.reduceLT, Nat.reduceLeDiff, reduceIte, reduceCtorEq, Int.reduceLE, Int.reduceLT, Int.reduceGE, Int.reduceGT, Int.reduceAdd, Int.reduceSub, Int.reduceMul, Int.reduceToNat, Int.reduceBEq, Int.reduceBNe, Nat.reduceBEq, Nat.reduceDiv, Nat.reduceMod, Nat.reduceBEq, Int.reduceNeg, Int.reduceToNat, Int.reduceEq, Nat.reduceLeDiff, Hd.v, Hd.ms, ra, ca, rb, cb, awake_ok, nz]
  obtain ⟨b0, b1, b2, b3, b4⟩ := fine_of fb
  obtain rfl : kb = .ro := by
    rcases hkb2 with h | h
    · exact absurd (hkb h) (memb_ne b4)
    · exact h
  have cl := HClone_ok a fa
  have ba := RBytes8_ok a fa .ro
  have bb := RBytes8_ok b fb .ro
  have eb := bytes_inj fa fb
  have s1 := Same_ok a b ha.2.2.2 hb.2.2.2 .ro .ro
  have s2 := Same_ok a a ha.2.2.2 ha.2.2.2 .ro .ro
  have s3 := Same_ok a ⟨a.n, a.p, a.t, a.s, a.m.set 0 99⟩ ha.2.2.2 (by simp only [List.length_set]; exact ha.2.2.2) .ro .ro
  have l := memb_len a4
  have nzb : (b.m.length != 0) = true := by simpa using memb_ne b4
  have l1 := (memb_range a4).2
  have e99 := set99 a4
  have n99 := set99_ne a4
  have el : (a.m.set 0 99).length = a.m.length := List.length_set
  have r7 := iI_ro 6 a.m
  have r6 := iI_ro 5 a.m
  have r5 := iI_ro 4 a.m
  rw [fa] at ca
  rw [fb] at cb
  obtain ⟨an, ap, at1, as1, am⟩ := a
  obtain ⟨bn, bp, bt, bs, bm⟩ := b
  simp only [Hd.mk.injEq] at *
  simp -implicitDefEqProofs (disch := omega) only [go_sem, Nat.reduceAdd, Nat.reduceMul, Nat.reduceSub, Nat.reduceEqDiff, Nat.reduceLT, Nat.reduceLeDiff, reduceIte, reduceCtorEq, Int.reduceLE, Int.reduceLT, Int.reduceGE, Int.reduceGT, Int.reduceAdd, Int.reduceSub, Int.reduceMul, Int.reduceToNat, Int.reduceBEq, Int.reduceBNe, Nat.reduceBEq, Nat.reduceDiv, Nat.reduceMod, Nat.reduceBEq, Int.reduceNeg, Int.reduceToNat, Int.reduceEq, Nat.reduceLeDiff, Hd.v, Hd.ms, el] at ra ca rb cb cl ba bb s1 s2 s3
  simp -implicitDefEqProofs (disch := omega) only [go_sem, Nat.reduceAdd, Nat.reduceMul, Nat.reduceSub, Nat.reduceEqDiff, Nat.reduceLT, Nat.reduceLeDiff, reduceIte, reduceCtorEq, Int.reduceLE, Int.reduceLT, Int.reduceGE, Int.reduceGT, Int.reduceAdd, Int.reduceSub, Int.reduceMul, Int.reduceToNat, Int.reduceBEq, Int.reduceBNe, Nat.reduceBEq, Nat.reduceDiv, Nat.reduceMod, Nat.reduceBEq, Int.reduceNeg, Int.reduceToNat, Int.reduceEq, Nat.reduceLeDiff, Hd.v, Hd.ms, ra, ca, rb, cb, cl, nz, nzb, r7, r6]
  obtain ⟨K, hK⟩ : ∃ K : Nat, Go.bits .and .i64 n 1023 = (K : Int) ∧ K < 1024 := ⟨(n % 1024).toNat, by rw [show Go.bits .and .i64 n 1023 = n % 1024 from hand_mask n 10 (by omega)]; omega, by omega⟩
  have hm := headMost_ok K (by omega)
  have q1 : (K : Int) < 2 * ((K / 2 + 1 : Nat) : Int) := by omega
  have q2 : 2 * ((K / 2 : Nat) : Int) ≤ (K : Int) := by omega
  refine wp_draw_E ?_
  simp -implicitDefEqProofs (disch := omega) only [go_sem, Nat.reduceAdd, Nat.reduceMul, Nat.reduceSub, Nat.reduceEqDiff, Nat.reduceLT, Nat.reduceLeDiff, reduceIte, reduceCtorEq, Int.reduceLE, Int.reduceLT, Int.reduceGE, Int.reduceGT, Int.reduceAdd, Int.reduceSub, Int.reduceMul, Int.reduceToNat, Int.reduceBEq, Int.reduceBNe, Nat.reduceBEq, Nat.reduceDiv, Nat.reduceMod, Nat.reduceBEq, Int.reduceNeg, Int.reduceToNat, Int.reduceEq, Nat.reduceLeDiff, ra, rb, ba, bb, awake_ok, eb, s1, s2, s3, r7, r6, r5, e99, nz, nzb, hK.1, hm]
theorem tHeader : tysOf Try.prog 25 = some [22, 9, 9, 9, 23] := by kernel_rfl
theorem uInts : Try.prog.underlying 23 = some (.slice 3) := by kernel_rfl
theorem bInt : Try.prog.bytesOf 3 = 8 := by kernel_rfl
theorem fitL_hd {d : Nat} {vs : List V} (h : FitsL Try.prog (d + 2) [22, 9, 9, 9, 23] vs) : ∃ (a : Hd) (k : SK), vs = a.v (a.ms k) ∧ a.small ∧ (k = .nil → a.m = []) ∧ (k = .nil ∨ k = .ro) := by
  obtain ⟨a1, b1, rfl, h1, a2, b2, rfl, h2, a3, b3, rfl, h3, a4, b4, rfl, h4, a5, b5, rfl, h5, rfl⟩ := h
  obtain ⟨x, rfl, hx⟩ := fits_int uU64 h1
  obtain ⟨n, rfl⟩ := of_u64 x hx
  obtain ⟨p, rfl, hp⟩ := fits_str uStr h2
  obtain ⟨t, rfl, ht⟩ := fits_str uStr h3
  obtain ⟨s, rfl, hs⟩ := fits_str uStr h4
  obtain ⟨k, m, rfl, hk, hk2, hb, _⟩ := fits_slice iI (fun _ => True) uInts (fun r hr => by obtain ⟨n, rfl, _⟩ := fits_int uInt hr; exact ⟨n, rfl, trivial⟩) h5
  rw [bInt] at hb
  have := reach_lt
  exact ⟨⟨n, p, t, s, m⟩, k, rfl, ⟨by simp only; omega, by simp only; omega, by simp only; omega, by simp only; omega⟩, hk, hk2⟩
theorem headSame_main (xs : List V) (h : FitsA Try.prog 8 [25, 25, 3] xs) : fnA (tabW fns) ([25, 25, 3].map fun _ => Mode.bor) ir3 xs (fun p => p = (.bool true, [])) := by
  obtain ⟨x, ys, rfl, h1, h⟩ := fitsA_s h
  obtain ⟨y, zs, rfl, h2, h⟩ := fitsA_s h
  obtain ⟨z, ws, rfl, h3, h⟩ := fitsA_s h
  obtain rfl := fitsA_0 h
  obtain ⟨v1, rfl, g1⟩ := fit_struct (d := 7) tHeader h1
  obtain ⟨v2, rfl, g2⟩ := fit_struct (d := 7) tHeader h2
  obtain ⟨n, rfl, hn⟩ := fit_int (d := 7) uInt h3
  obtain ⟨a, ka, rfl, ha, hka, hka2⟩ := fitL_hd g1
  obtain ⟨b, kb, rfl, hb, hkb, hkb2⟩ := fitL_hd g2
  exact headSame_law a b n (i64_wf hn) ha hb ka kb hka hkb hka2 hkb2
end Go.Vm.Ytdiceoghiboaaaa
