/- (seval) Clients: which calls may be. -/
import Derived.Test.YtahbkkleholmaaaClF
set_option linter.unusedSectionVars false
set_option linter.unusedSimpArgs false
set_option linter.unusedVariables false
set_option maxHeartbeats 4000000
set_option maxRecDepth 10000
namespace Go.Vm.Ytahbkkleholmaaa
open Go.Proofs
structure Cx where
  k : Int
  ops : List Opn
  key : List UInt8
  h : Int
  mem : List Int
def Cx.v (ko km : SK) (x : Cx) : List V := [.int .i64 x.k, .sl ko x.ops.length (rows Opn.v x.ops), .str x.key, .int .u64 x.h, .sl km x.mem.length (x.mem.map iI)]
def mayC (x : Cx) : Bool := if x.k = 1 then okTx ⟨0, 1, x.ops⟩ else if x.k = 2 then (decide (1 ≤ x.key.length) && decide (x.key.length ≤ 32)) else if x.k = 4 then membersB x.mem else decide (x.k = 3)
def Cx.ok (x : Cx) : Prop := x.ops.length ≤ 140737488355328 ∧ (∀ o ∈ x.ops, smallO o) ∧ x.key.length ≤ 140737488355328 ∧ x.mem.length ≤ 140737488355328
theorem kro {k : SK} (h : k = .nil ∨ k = .ro) : k ≠ .zero := by rcases h with rfl | rfl <;> simp
theorem Check_c (x : Cx) (hx : x.ok) (ko km : SK) (hk : ko = .nil ∨ ko = .ro) : Gf fns 7 [.agg (x.v ko km)] = some (.bool (mayC x), []) := by
  obtain ⟨k, ops, key, h, mem⟩ := x
  obtain ⟨h1, h2, h3, h4⟩ := hx
  simp only at h1 h2 h3 h4
  have c := Check_ok ⟨0, 1, ops⟩ ko (kro hk) h1 h2
  have m := Members_ok km mem h4
  have z0 : (0 : UInt64).toNat = 0 := rfl
  have z1 : (1 : UInt64).toNat = 1 := rfl
  simp -implicitDefEqProofs (disch := omega) only [go_sem, seval, Tn.v, Tn.os, z0, z1] at c
  unfold mayC
  refine Gf_start rfl rfl ?_
  by_cases k1 : k = 1
  · subst k1
    cases ho : okTx ⟨0, 1, ops⟩
    · rw [ho] at c
      simp -implicitDefEqProofs (disch := omega) only [go_sem, seval, Cx.v, c]
    · rw [ho] at c
      simp -implicitDefEqProofs (disch := omega) only [go_sem, seval, Cx.v, c]
  · by_cases k2 : k = 2
    · subst k2
      by_cases q1 : 1 ≤ key.length
      · by_cases q2 : key.length ≤ 32
        · simp -implicitDefEqProofs (disch := omega) only [go_sem, seval, Cx.v, q1, q2]
        · simp -implicitDefEqProofs (disch := omega) only [go_sem, seval, Cx.v, q1, q2]
      · simp -implicitDefEqProofs (disch := omega) only [go_sem, seval, Cx.v, q1]
    · by_cases k4 : k = 4
      · subst k4
        simp -implicitDefEqProofs (disch := omega) only [go_sem, seval, Cx.v, m]
      · simp -implicitDefEqProofs (disch := omega) only [go_sem, seval, Cx.v, k1, k2, k4]
theorem cut_ok (t : Tn) : okTx ⟨t.c, t.n, t.ops.take 9⟩ = okTx t := by
  rcases Nat.lt_or_ge 9 t.ops.length with h | h
  · have h1 : ¬ t.ops.length ≤ 8 := by omega
    have h2 : ¬ (t.ops.take 9).length ≤ 8 := by simp; omega
    unfold okTx
    simp only [h1, h2, decide_false, Bool.false_and, Bool.and_false]
  · rw [take_all h]
theorem may_c (x : Cx) (hx : x.ok) (ko km : SK) (hk : ko = .nil ∨ ko = .ro) (hkn : ko = .nil → x.ops = []) : Gf fns 8 [.agg (x.v ko km)] = some (.bool (mayC x), []) := by
  obtain ⟨k, ops, key, h, mem⟩ := x
  obtain ⟨h1, h2, h3, h4⟩ := hx
  simp only at h1 h2 h3 h4 hkn
  have r := Ref_ok ⟨0, 1, ops⟩ ko h1
  have c := RCheck_ok ⟨0, 1, ops.take 9⟩ .ro (by simp; omega) (fun o ho => h2 o (List.mem_of_mem_take ho))
  have cn := RCheck_ok ⟨0, 1, []⟩ .nil (by simp) (fun o ho => by simp at ho)
  rw [cut_ok ⟨0, 1, ops⟩] at c
  rw [show okTx ⟨0, 1, []⟩ = false by kernel_rfl] at cn
  have m := RMembers_ok km mem h4
  have z0 : (0 : UInt64).toNat = 0 := rfl
  have z1 : (1 : UInt64).toNat = 1 := rfl
  have hrt9 := rlen (ops.take 9)
  rw [List.length_take] at hrt9
  have hrt := rlen ops
  have r7 := rro 6 (ops.take 9)
  have r6 := rro 5 (ops.take 9)
  unfold mayC
  refine Gf_start rfl rfl ?_
  by_cases k1 : k = 1
  · subst k1
    by_cases ho : ops = []
    · subst ho
      simp -implicitDefEqProofs (disch := omega) only [go_sem, seval, Tn.v, Tn.os, z0, z1, ownRows, rows_nil] at r cn
      rcases hk with rfl | rfl
      · simp -implicitDefEqProofs (disch := omega) only [go_sem, seval, Cx.v, r, cn, rows_nil, show okTx ⟨0, 1, []⟩ = false by kernel_rfl]
      · simp -implicitDefEqProofs (disch := omega) only [go_sem, seval, Cx.v, r, cn, rows_nil, show okTx ⟨0, 1, []⟩ = false by kernel_rfl]
    · have h9 : ¬ ops.take 9 = [] := by intro h; cases ops with | nil => exact ho rfl | cons => simp at h
      have hl9 : ¬ (ops.take 9).length = 0 := by simpa using h9
      have hl0 : ¬ ops.length = 0 := by simpa using ho
      obtain rfl : ko = .ro := by
        rcases hk with h | h
        · exact absurd (hkn h) ho
        · exact h
      simp -implicitDefEqProofs (disch := omega) only [go_sem, seval, Tn.v, Tn.os, z0, z1, ownRows, h9] at r c
      cases hok : okTx ⟨0, 1, ops⟩
      · rw [hok] at c
        simp -implicitDefEqProofs (disch := omega) only [go_sem, seval, Cx.v, r, c, r7, r6, hl9, hl0]
      · rw [hok] at c
        simp -implicitDefEqProofs (disch := omega) only [go_sem, seval, Cx.v, r, c, r7, r6, hl9, hl0]
  · by_cases k2 : k = 2
    · subst k2
      by_cases q1 : 1 ≤ key.length
      · by_cases q2 : key.length ≤ 32
        · simp -implicitDefEqProofs (disch := omega) only [go_sem, seval, Cx.v, q1, q2]
        · simp -implicitDefEqProofs (disch := omega) only [go_sem, seval, Cx.v, q1, q2]
      · simp -implicitDefEqProofs (disch := omega) only [go_sem, seval, Cx.v, q1]
    · by_cases k4 : k = 4
      · subst k4
        simp -implicitDefEqProofs (disch := omega) only [go_sem, seval, Cx.v, m]
      · simp -implicitDefEqProofs (disch := omega) only [go_sem, seval, Cx.v, k1, k2, k4]
theorem New1_c (x : Cx) (hx : x.ok) (ko km : SK) (hk : ko = .nil ∨ ko = .ro) : Gf fns 16 [.agg (x.v ko km)] = some (.bool (!mayC x), []) := by
  have c := Check_c x hx ko km hk
  simp -implicitDefEqProofs (disch := omega) only [go_sem, seval, Cx.v] at c
  refine Gf_start rfl rfl ?_
  simp -implicitDefEqProofs (disch := omega) only [go_sem, seval, Cx.v, c]
theorem Idx_c (x : Cx) (hx : x.ok) (ko km : SK) (hk : ko = .nil ∨ ko = .ro) : Gf fns 30 [.sl .ro 1 (x.v ko km), .fn 16 []] = some (.int .i64 (if mayC x = true then -1 else 0), []) := by
  have c := New1_c x hx ko km hk
  refine Gf_start rfl rfl ?_
  cases hm : mayC x
  · rw [hm] at c
    simp -implicitDefEqProofs (disch := omega) only [go_sem, seval, Cx.v] at c
    simp -implicitDefEqProofs (disch := omega) only [go_sem, seval, Cx.v, ↓wp_unroll, lp30_0, callV_T at16, c]
  · rw [hm] at c
    simp -implicitDefEqProofs (disch := omega) only [go_sem, seval, Cx.v] at c
    simp -implicitDefEqProofs (disch := omega) only [go_sem, seval, Cx.v, ↓wp_unroll, lp30_0, callV_T at16, c]
theorem Con_c (x : Cx) (hx : x.ok) (ko km : SK) (hk : ko = .nil ∨ ko = .ro) : Gf fns 15 [.sl .ro 1 (x.v ko km), .fn 16 []] = some (.bool (!mayC x), []) := by
  have c := Idx_c x hx ko km hk
  refine Gf_start rfl rfl ?_
  cases hm : mayC x
  · rw [hm] at c
    simp -implicitDefEqProofs (disch := omega) only [go_sem, seval, Cx.v] at c
    simp -implicitDefEqProofs (disch := omega) only [go_sem, seval, Cx.v, c]
  · rw [hm] at c
    simp -implicitDefEqProofs (disch := omega) only [go_sem, seval, Cx.v] at c
    simp -implicitDefEqProofs (disch := omega) only [go_sem, seval, Cx.v, c]
theorem Con_nil : Gf fns 15 [.sl .nil 0 [], .fn 16 []] = some (.bool false, []) := by
  have c : Gf fns 30 [.sl .nil 0 [], .fn 16 []] = some (.int .i64 (-1), []) := by
    refine Gf_start rfl rfl ?_
    simp -implicitDefEqProofs (disch := omega) only [go_sem, seval, ↓wp_unroll, lp30_0]
  refine Gf_start rfl rfl ?_
  simp -implicitDefEqProofs (disch := omega) only [go_sem, seval, c]
def inB (n r : Int) : Bool := decide (0 ≤ n) && (decide (n < 8) && (decide (1 ≤ r) && decide (r ≤ 16)))
def madeC (n r : Int) (l : V) : V := .opt [.int .i64 n, .int .i64 r, .int .i64 0, l, .int .i64 0, .int .u64 1, .int .i64 0, .int .i64 0, .sl .nil 0 []]
theorem NewN_c (n r : Int) : Gf fns 5 [.int .i64 n, .int .i64 r, .sl .nil 0 []] = some (if inB n r = true then .tup [madeC n r (.sl .nil 0 []), .int .i64 0] else .tup [.nilp, .int .i64 1], []) := by
  have c := Con_nil
  have k : Gf fns 17 [.sl .nil 0 []] = some (.sl .nil 0 [], []) := by
    refine Gf_start rfl rfl ?_
    simp -implicitDefEqProofs (disch := omega) only [go_sem, seval, go_sem]
  unfold inB
  refine Gf_start rfl rfl ?_
  by_cases a1 : 0 ≤ n
  · by_cases a2 : n < 8
    · by_cases a3 : 1 ≤ r
      · by_cases a4 : r ≤ 16
        · simp -implicitDefEqProofs (disch := omega) only [go_sem, seval, a1, a2, a3, a4, c, k, madeC]
        · simp -implicitDefEqProofs (disch := omega) only [go_sem, seval, a1, a2, a3, a4]
      · simp -implicitDefEqProofs (disch := omega) only [go_sem, seval, a1, a2, a3]
    · simp -implicitDefEqProofs (disch := omega) only [go_sem, seval, a1, a2]
  · simp -implicitDefEqProofs (disch := omega) only [go_sem, seval, a1]
theorem NewC_c (n r : Int) (x : Cx) (hx : x.ok) (ko km : SK) (hk : ko = .nil ∨ ko = .ro) : Gf fns 5 [.int .i64 n, .int .i64 r, .sl .ro 1 (x.v ko km)] = some (if (inB n r && mayC x) = true then .tup [madeC n r (.osl 5 1 (x.v ko km)), .int .i64 0] else .tup [.nilp, .int .i64 1], []) := by
  have c := Con_c x hx ko km hk
  have e2 : (SK.ro == SK.nil) = false := rfl
  have k : Gf fns 17 [.sl .ro 1 (x.v ko km)] = some (.osl 5 1 (x.v ko km), []) := by
    refine Gf_start rfl rfl ?_
    simp -implicitDefEqProofs (disch := omega) only [go_sem, seval, Cx.v, e2]
  unfold inB
  simp -implicitDefEqProofs (disch := omega) only [go_sem, seval, Cx.v] at k
  refine Gf_start rfl rfl ?_
  by_cases a1 : 0 ≤ n
  · by_cases a2 : n < 8
    · by_cases a3 : 1 ≤ r
      · by_cases a4 : r ≤ 16
        · cases hm : mayC x
          · rw [hm] at c
            simp -implicitDefEqProofs (disch := omega) only [go_sem, seval, Cx.v] at c
            simp -implicitDefEqProofs (disch := omega) only [go_sem, seval, Cx.v, a1, a2, a3, a4, c, k, madeC, ite_self]
          · rw [hm] at c
            simp -implicitDefEqProofs (disch := omega) only [go_sem, seval, Cx.v] at c
            simp -implicitDefEqProofs (disch := omega) only [go_sem, seval, Cx.v, a1, a2, a3, a4, c, k, madeC, ite_self]
        · simp -implicitDefEqProofs (disch := omega) only [go_sem, seval, Cx.v, a1, a2, a3, a4]
      · simp -implicitDefEqProofs (disch := omega) only [go_sem, seval, Cx.v, a1, a2, a3]
    · simp -implicitDefEqProofs (disch := omega) only [go_sem, seval, Cx.v, a1, a2]
  · simp -implicitDefEqProofs (disch := omega) only [go_sem, seval, Cx.v, a1]
theorem checks_run (x : Cx) (hx : x.ok) (ko km : SK) (hk : ko = .nil ∨ ko = .ro) (hkn : ko = .nil → x.ops = []) (hk2 : km = .nil ∨ km = .ro) (hkn2 : km = .nil → x.mem = []) (n r : Int) (hl : x.mem.length ≤ 40) :
    fnA (tabW fns) [.bor, .bor, .bor] ir3 [.agg (x.v ko km), .int .i64 n, .int .i64 r] (fun q => q = (.bool true, [])) := by
  have a := NewN_c n r
  have b := NewC_c n r x hx ko km hk
  have c := Check_c x hx ko km hk
  have d := may_c x hx ko km hk hkn
  unfold inB at a b
  cases hm : mayC x
  · rw [hm] at b c d
    obtain ⟨k, ops, key, h, mem⟩ := x
    simp only at hl hkn hkn2
    have hl2 : ¬ 40 < mem.length := by omega
    cases hq : (hasRo 7 (V.sl ko ops.length (rows Opn.v ops)) || hasRo 7 (V.sl km mem.length (mem.map iI)))
    · have hq6 : (hasRo 6 (V.sl ko ops.length (rows Opn.v ops)) || hasRo 6 (V.sl km mem.length (mem.map iI))) = false := by rw [← hq]; cases ko <;> cases km <;> rfl
      have hq5 : (hasRo 5 (V.sl ko ops.length (rows Opn.v ops)) || hasRo 5 (V.sl km mem.length (mem.map iI))) = false := by rw [← hq]; cases ko <;> cases km <;> rfl
      refine fnA_start rfl ?_
      by_cases a1 : 0 ≤ n
      · by_cases a2 : n < 8
        · by_cases a3 : 1 ≤ r
          · by_cases a4 : r ≤ 16
            ·
              simp -implicitDefEqProofs (disch := omega) only [go_sem, seval, Cx.v, a1, a2, a3, a4, madeC] at a b c d
              simp -implicitDefEqProofs (disch := omega) only [go_sem, seval, Cx.v, hl2, a1, a2, a3, a4, b, hq, hq6, hq5]
              simp -implicitDefEqProofs (disch := omega) only [go_sem, seval, a, hq, hq6, hq5]
              refine wp_draw_E ?_
              simp -implicitDefEqProofs (disch := omega) only [go_sem, seval, awake_ok, c, d, hq, hq6, hq5]
            ·
              simp -implicitDefEqProofs (disch := omega) only [go_sem, seval, Cx.v, a1, a2, a3, a4, madeC] at a b c d
              simp -implicitDefEqProofs (disch := omega) only [go_sem, seval, Cx.v, hl2, a1, a2, a3, a4, b, hq, hq6, hq5]
              simp -implicitDefEqProofs (disch := omega) only [go_sem, seval, a, hq, hq6, hq5]
              refine wp_draw_E ?_
              simp -implicitDefEqProofs (disch := omega) only [go_sem, seval, awake_ok, c, d, hq, hq6, hq5]
          ·
            simp -implicitDefEqProofs (disch := omega) only [go_sem, seval, Cx.v, a1, a2, a3, madeC] at a b c d
            simp -implicitDefEqProofs (disch := omega) only [go_sem, seval, Cx.v, hl2, a1, a2, a3, b, hq, hq6, hq5]
            simp -implicitDefEqProofs (disch := omega) only [go_sem, seval, a, hq, hq6, hq5]
            refine wp_draw_E ?_
            simp -implicitDefEqProofs (disch := omega) only [go_sem, seval, awake_ok, c, d, hq, hq6, hq5]
        ·
          simp -implicitDefEqProofs (disch := omega) only [go_sem, seval, Cx.v, a1, a2, madeC] at a b c d
          simp -implicitDefEqProofs (disch := omega) only [go_sem, seval, Cx.v, hl2, a1, a2, b, hq, hq6, hq5]
          simp -implicitDefEqProofs (disch := omega) only [go_sem, seval, a, hq, hq6, hq5]
          refine wp_draw_E ?_
          simp -implicitDefEqProofs (disch := omega) only [go_sem, seval, awake_ok, c, d, hq, hq6, hq5]
      ·
        simp -implicitDefEqProofs (disch := omega) only [go_sem, seval, Cx.v, a1, madeC] at a b c d
        simp -implicitDefEqProofs (disch := omega) only [go_sem, seval, Cx.v, hl2, a1, b, hq, hq6, hq5]
        simp -implicitDefEqProofs (disch := omega) only [go_sem, seval, a, hq, hq6, hq5]
        refine wp_draw_E ?_
        simp -implicitDefEqProofs (disch := omega) only [go_sem, seval, awake_ok, c, d, hq, hq6, hq5]
    · have hq6 : (hasRo 6 (V.sl ko ops.length (rows Opn.v ops)) || hasRo 6 (V.sl km mem.length (mem.map iI))) = true := by rw [← hq]; cases ko <;> cases km <;> rfl
      have hq5 : (hasRo 5 (V.sl ko ops.length (rows Opn.v ops)) || hasRo 5 (V.sl km mem.length (mem.map iI))) = true := by rw [← hq]; cases ko <;> cases km <;> rfl
      refine fnA_start rfl ?_
      by_cases a1 : 0 ≤ n
      · by_cases a2 : n < 8
        · by_cases a3 : 1 ≤ r
          · by_cases a4 : r ≤ 16
            ·
              simp -implicitDefEqProofs (disch := omega) only [go_sem, seval, Cx.v, a1, a2, a3, a4, madeC] at a b c d
              simp -implicitDefEqProofs (disch := omega) only [go_sem, seval, Cx.v, hl2, a1, a2, a3, a4, b, hq, hq6, hq5]
              simp -implicitDefEqProofs (disch := omega) only [go_sem, seval, a, hq, hq6, hq5]
              refine wp_draw_E ?_
              simp -implicitDefEqProofs (disch := omega) only [go_sem, seval, awake_ok, c, d, hq, hq6, hq5]
            ·
              simp -implicitDefEqProofs (disch := omega) only [go_sem, seval, Cx.v, a1, a2, a3, a4, madeC] at a b c d
              simp -implicitDefEqProofs (disch := omega) only [go_sem, seval, Cx.v, hl2, a1, a2, a3, a4, b, hq, hq6, hq5]
              simp -implicitDefEqProofs (disch := omega) only [go_sem, seval, a, hq, hq6, hq5]
              refine wp_draw_E ?_
              simp -implicitDefEqProofs (disch := omega) only [go_sem, seval, awake_ok, c, d, hq, hq6, hq5]
          ·
            simp -implicitDefEqProofs (disch := omega) only [go_sem, seval, Cx.v, a1, a2, a3, madeC] at a b c d
            simp -implicitDefEqProofs (disch := omega) only [go_sem, seval, Cx.v, hl2, a1, a2, a3, b, hq, hq6, hq5]
            simp -implicitDefEqProofs (disch := omega) only [go_sem, seval, a, hq, hq6, hq5]
            refine wp_draw_E ?_
            simp -implicitDefEqProofs (disch := omega) only [go_sem, seval, awake_ok, c, d, hq, hq6, hq5]
        ·
          simp -implicitDefEqProofs (disch := omega) only [go_sem, seval, Cx.v, a1, a2, madeC] at a b c d
          simp -implicitDefEqProofs (disch := omega) only [go_sem, seval, Cx.v, hl2, a1, a2, b, hq, hq6, hq5]
          simp -implicitDefEqProofs (disch := omega) only [go_sem, seval, a, hq, hq6, hq5]
          refine wp_draw_E ?_
          simp -implicitDefEqProofs (disch := omega) only [go_sem, seval, awake_ok, c, d, hq, hq6, hq5]
      ·
        simp -implicitDefEqProofs (disch := omega) only [go_sem, seval, Cx.v, a1, madeC] at a b c d
        simp -implicitDefEqProofs (disch := omega) only [go_sem, seval, Cx.v, hl2, a1, b, hq, hq6, hq5]
        simp -implicitDefEqProofs (disch := omega) only [go_sem, seval, a, hq, hq6, hq5]
        refine wp_draw_E ?_
        simp -implicitDefEqProofs (disch := omega) only [go_sem, seval, awake_ok, c, d, hq, hq6, hq5]
  · rw [hm] at b c d
    obtain ⟨k, ops, key, h, mem⟩ := x
    simp only at hl hkn hkn2
    have hl2 : ¬ 40 < mem.length := by omega
    cases hq : (hasRo 7 (V.sl ko ops.length (rows Opn.v ops)) || hasRo 7 (V.sl km mem.length (mem.map iI)))
    · have hq6 : (hasRo 6 (V.sl ko ops.length (rows Opn.v ops)) || hasRo 6 (V.sl km mem.length (mem.map iI))) = false := by rw [← hq]; cases ko <;> cases km <;> rfl
      have hq5 : (hasRo 5 (V.sl ko ops.length (rows Opn.v ops)) || hasRo 5 (V.sl km mem.length (mem.map iI))) = false := by rw [← hq]; cases ko <;> cases km <;> rfl
      refine fnA_start rfl ?_
      by_cases a1 : 0 ≤ n
      · by_cases a2 : n < 8
        · by_cases a3 : 1 ≤ r
          · by_cases a4 : r ≤ 16
            ·
              simp -implicitDefEqProofs (disch := omega) only [go_sem, seval, Cx.v, a1, a2, a3, a4, madeC] at a b c d
              simp -implicitDefEqProofs (disch := omega) only [go_sem, seval, Cx.v, hl2, a1, a2, a3, a4, b, hq, hq6, hq5]
              simp -implicitDefEqProofs (disch := omega) only [go_sem, seval, a, hq, hq6, hq5]
              refine wp_draw_E ?_
              simp -implicitDefEqProofs (disch := omega) only [go_sem, seval, awake_ok, c, d, hq, hq6, hq5]
            ·
              simp -implicitDefEqProofs (disch := omega) only [go_sem, seval, Cx.v, a1, a2, a3, a4, madeC] at a b c d
              simp -implicitDefEqProofs (disch := omega) only [go_sem, seval, Cx.v, hl2, a1, a2, a3, a4, b, hq, hq6, hq5]
              simp -implicitDefEqProofs (disch := omega) only [go_sem, seval, a, hq, hq6, hq5]
              refine wp_draw_E ?_
              simp -implicitDefEqProofs (disch := omega) only [go_sem, seval, awake_ok, c, d, hq, hq6, hq5]
          ·
            simp -implicitDefEqProofs (disch := omega) only [go_sem, seval, Cx.v, a1, a2, a3, madeC] at a b c d
            simp -implicitDefEqProofs (disch := omega) only [go_sem, seval, Cx.v, hl2, a1, a2, a3, b, hq, hq6, hq5]
            simp -implicitDefEqProofs (disch := omega) only [go_sem, seval, a, hq, hq6, hq5]
            refine wp_draw_E ?_
            simp -implicitDefEqProofs (disch := omega) only [go_sem, seval, awake_ok, c, d, hq, hq6, hq5]
        ·
          simp -implicitDefEqProofs (disch := omega) only [go_sem, seval, Cx.v, a1, a2, madeC] at a b c d
          simp -implicitDefEqProofs (disch := omega) only [go_sem, seval, Cx.v, hl2, a1, a2, b, hq, hq6, hq5]
          simp -implicitDefEqProofs (disch := omega) only [go_sem, seval, a, hq, hq6, hq5]
          refine wp_draw_E ?_
          simp -implicitDefEqProofs (disch := omega) only [go_sem, seval, awake_ok, c, d, hq, hq6, hq5]
      ·
        simp -implicitDefEqProofs (disch := omega) only [go_sem, seval, Cx.v, a1, madeC] at a b c d
        simp -implicitDefEqProofs (disch := omega) only [go_sem, seval, Cx.v, hl2, a1, b, hq, hq6, hq5]
        simp -implicitDefEqProofs (disch := omega) only [go_sem, seval, a, hq, hq6, hq5]
        refine wp_draw_E ?_
        simp -implicitDefEqProofs (disch := omega) only [go_sem, seval, awake_ok, c, d, hq, hq6, hq5]
    · have hq6 : (hasRo 6 (V.sl ko ops.length (rows Opn.v ops)) || hasRo 6 (V.sl km mem.length (mem.map iI))) = true := by rw [← hq]; cases ko <;> cases km <;> rfl
      have hq5 : (hasRo 5 (V.sl ko ops.length (rows Opn.v ops)) || hasRo 5 (V.sl km mem.length (mem.map iI))) = true := by rw [← hq]; cases ko <;> cases km <;> rfl
      refine fnA_start rfl ?_
      by_cases a1 : 0 ≤ n
      · by_cases a2 : n < 8
        · by_cases a3 : 1 ≤ r
          · by_cases a4 : r ≤ 16
            ·
              simp -implicitDefEqProofs (disch := omega) only [go_sem, seval, Cx.v, a1, a2, a3, a4, madeC] at a b c d
              simp -implicitDefEqProofs (disch := omega) only [go_sem, seval, Cx.v, hl2, a1, a2, a3, a4, b, hq, hq6, hq5]
              simp -implicitDefEqProofs (disch := omega) only [go_sem, seval, a, hq, hq6, hq5]
              refine wp_draw_E ?_
              simp -implicitDefEqProofs (disch := omega) only [go_sem, seval, awake_ok, c, d, hq, hq6, hq5]
            ·
              simp -implicitDefEqProofs (disch := omega) only [go_sem, seval, Cx.v, a1, a2, a3, a4, madeC] at a b c d
              simp -implicitDefEqProofs (disch := omega) only [go_sem, seval, Cx.v, hl2, a1, a2, a3, a4, b, hq, hq6, hq5]
              simp -implicitDefEqProofs (disch := omega) only [go_sem, seval, a, hq, hq6, hq5]
              refine wp_draw_E ?_
              simp -implicitDefEqProofs (disch := omega) only [go_sem, seval, awake_ok, c, d, hq, hq6, hq5]
          ·
            simp -implicitDefEqProofs (disch := omega) only [go_sem, seval, Cx.v, a1, a2, a3, madeC] at a b c d
            simp -implicitDefEqProofs (disch := omega) only [go_sem, seval, Cx.v, hl2, a1, a2, a3, b, hq, hq6, hq5]
            simp -implicitDefEqProofs (disch := omega) only [go_sem, seval, a, hq, hq6, hq5]
            refine wp_draw_E ?_
            simp -implicitDefEqProofs (disch := omega) only [go_sem, seval, awake_ok, c, d, hq, hq6, hq5]
        ·
          simp -implicitDefEqProofs (disch := omega) only [go_sem, seval, Cx.v, a1, a2, madeC] at a b c d
          simp -implicitDefEqProofs (disch := omega) only [go_sem, seval, Cx.v, hl2, a1, a2, b, hq, hq6, hq5]
          simp -implicitDefEqProofs (disch := omega) only [go_sem, seval, a, hq, hq6, hq5]
          refine wp_draw_E ?_
          simp -implicitDefEqProofs (disch := omega) only [go_sem, seval, awake_ok, c, d, hq, hq6, hq5]
      ·
        simp -implicitDefEqProofs (disch := omega) only [go_sem, seval, Cx.v, a1, madeC] at a b c d
        simp -implicitDefEqProofs (disch := omega) only [go_sem, seval, Cx.v, hl2, a1, b, hq, hq6, hq5]
        simp -implicitDefEqProofs (disch := omega) only [go_sem, seval, a, hq, hq6, hq5]
        refine wp_draw_E ?_
        simp -implicitDefEqProofs (disch := omega) only [go_sem, seval, awake_ok, c, d, hq, hq6, hq5]
end Go.Vm.Ytahbkkleholmaaa
