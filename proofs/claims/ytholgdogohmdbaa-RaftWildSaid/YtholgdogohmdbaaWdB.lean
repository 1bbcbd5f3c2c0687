/- (seval) Raft: which messages may be. -/
import Derived.Test.YtholgdogohmdbaaWdA
set_option linter.unusedSectionVars false
set_option linter.unusedSimpArgs false
set_option linter.unusedVariables false
set_option maxHeartbeats 4000000
set_option maxRecDepth 10000
namespace Go.Vm.YtholgdogohmdbaaW
open Go.Proofs
structure Msg where
  k : Int
  f : Int
  t : Int
  term : Int
  ix : Int
  lt : Int
  cm : Int
  y : Bool
  ek : SK
  en : Nat
  ec : List V
  off : Int
  pc : List UInt8
  d : Bool
  mk' : SK
  mn : Nat
  mc : List V
  deriving Inhabited
def Msg.v (m : Msg) : List V := [.int .i64 m.k, .int .i64 m.f, .int .i64 m.t, .int .i64 m.term, .int .i64 m.ix, .int .i64 m.lt, .int .i64 m.cm, .bool m.y, .sl m.ek m.en m.ec, .int .i64 m.off, .str m.pc, .bool m.d, .sl m.mk' m.mn m.mc]
theorem Msg.v_len (m : Msg) : m.v.length = 13 := rfl
def mayM (m : Msg) : Bool := (decide (1 ≤ m.k) && (decide (m.k ≤ 6) && (decide (0 ≤ m.f) && (decide (m.f < 16) && (decide (0 ≤ m.t) && (decide (m.t < 16) && (!decide (m.f = m.t) && (decide (0 ≤ m.term) && (decide (m.term ≤ 2147483647) && (decide (0 ≤ m.ix) && (decide (m.ix ≤ 2147483647) && (decide (0 ≤ m.lt) && (decide (m.lt ≤ 2147483647) && (decide (0 ≤ m.cm) && (decide (m.cm ≤ 2147483647) && (decide (0 ≤ m.off) && (decide (m.off ≤ 2147483647) && (decide (m.lt ≤ m.term) && (decide (m.en ≤ 16) && decide (m.pc.length ≤ 200))))))))))))))))))))
theorem Check_ok (m : Msg) : Gf fns 24 [.agg m.v] = some (.bool (mayM m), []) := by
  obtain ⟨k, f, t, term, ix, lt, cm, y, ek, en, ec, off, pc, d, mk2, mn, mc⟩ := m
  unfold mayM
  refine Gf_start rfl rfl ?_
  simp -implicitDefEqProofs (disch := omega) only [go_sem, seval, Msg.v]
  by_cases a0 : 1 ≤ k
  rotate_left
  · simp -implicitDefEqProofs (disch := omega) only [go_sem, seval, a0, ↓wp_unroll, lp24_0]
  by_cases a1 : k ≤ 6
  rotate_left
  · simp -implicitDefEqProofs (disch := omega) only [go_sem, seval, a0, a1, ↓wp_unroll, lp24_0]
  by_cases a2 : 0 ≤ f
  rotate_left
  · simp -implicitDefEqProofs (disch := omega) only [go_sem, seval, a0, a1, a2, ↓wp_unroll, lp24_0]
  by_cases a3 : f < 16
  rotate_left
  · simp -implicitDefEqProofs (disch := omega) only [go_sem, seval, a0, a1, a2, a3, ↓wp_unroll, lp24_0]
  by_cases a4 : 0 ≤ t
  rotate_left
  · simp -implicitDefEqProofs (disch := omega) only [go_sem, seval, a0, a1, a2, a3, a4, ↓wp_unroll, lp24_0]
  by_cases a5 : t < 16
  rotate_left
  · simp -implicitDefEqProofs (disch := omega) only [go_sem, seval, a0, a1, a2, a3, a4, a5, ↓wp_unroll, lp24_0]
  by_cases a6 : f = t
  · simp -implicitDefEqProofs (disch := omega) only [go_sem, seval, a0, a1, a2, a3, a4, a5, a6, ↓wp_unroll, lp24_0]
  by_cases a7 : 0 ≤ term
  rotate_left
  · simp -implicitDefEqProofs (disch := omega) only [go_sem, seval, a0, a1, a2, a3, a4, a5, a6, a7, ↓wp_unroll, lp24_0]
  by_cases a8 : term ≤ 2147483647
  rotate_left
  · simp -implicitDefEqProofs (disch := omega) only [go_sem, seval, a0, a1, a2, a3, a4, a5, a6, a7, a8, ↓wp_unroll, lp24_0]
  by_cases a9 : 0 ≤ ix
  rotate_left
  · simp -implicitDefEqProofs (disch := omega) only [go_sem, seval, a0, a1, a2, a3, a4, a5, a6, a7, a8, a9, ↓wp_unroll, lp24_0]
  by_cases a10 : ix ≤ 2147483647
  rotate_left
  · simp -implicitDefEqProofs (disch := omega) only [go_sem, seval, a0, a1, a2, a3, a4, a5, a6, a7, a8, a9, a10, ↓wp_unroll, lp24_0]
  by_cases a11 : 0 ≤ lt
  rotate_left
  · simp -implicitDefEqProofs (disch := omega) only [go_sem, seval, a0, a1, a2, a3, a4, a5, a6, a7, a8, a9, a10, a11, ↓wp_unroll, lp24_0]
  by_cases a12 : lt ≤ 2147483647
  rotate_left
  · simp -implicitDefEqProofs (disch := omega) only [go_sem, seval, a0, a1, a2, a3, a4, a5, a6, a7, a8, a9, a10, a11, a12, ↓wp_unroll, lp24_0]
  by_cases a13 : 0 ≤ cm
  rotate_left
  · simp -implicitDefEqProofs (disch := omega) only [go_sem, seval, a0, a1, a2, a3, a4, a5, a6, a7, a8, a9, a10, a11, a12, a13, ↓wp_unroll, lp24_0]
  by_cases a14 : cm ≤ 2147483647
  rotate_left
  · simp -implicitDefEqProofs (disch := omega) only [go_sem, seval, a0, a1, a2, a3, a4, a5, a6, a7, a8, a9, a10, a11, a12, a13, a14, ↓wp_unroll, lp24_0]
  by_cases a15 : 0 ≤ off
  rotate_left
  · simp -implicitDefEqProofs (disch := omega) only [go_sem, seval, a0, a1, a2, a3, a4, a5, a6, a7, a8, a9, a10, a11, a12, a13, a14, a15, ↓wp_unroll, lp24_0]
  by_cases a16 : off ≤ 2147483647
  rotate_left
  · simp -implicitDefEqProofs (disch := omega) only [go_sem, seval, a0, a1, a2, a3, a4, a5, a6, a7, a8, a9, a10, a11, a12, a13, a14, a15, a16, ↓wp_unroll, lp24_0]
  by_cases a17 : lt ≤ term
  rotate_left
  · simp -implicitDefEqProofs (disch := omega) only [go_sem, seval, a0, a1, a2, a3, a4, a5, a6, a7, a8, a9, a10, a11, a12, a13, a14, a15, a16, a17, ↓wp_unroll, lp24_0]
  by_cases a18 : en ≤ 16
  rotate_left
  · simp -implicitDefEqProofs (disch := omega) only [go_sem, seval, a0, a1, a2, a3, a4, a5, a6, a7, a8, a9, a10, a11, a12, a13, a14, a15, a16, a17, a18, ↓wp_unroll, lp24_0]
  by_cases a19 : pc.length ≤ 200
  rotate_left
  · simp -implicitDefEqProofs (disch := omega) only [go_sem, seval, a0, a1, a2, a3, a4, a5, a6, a7, a8, a9, a10, a11, a12, a13, a14, a15, a16, a17, a18, a19, ↓wp_unroll, lp24_0]
  simp -implicitDefEqProofs (disch := omega) only [go_sem, seval, a0, a1, a2, a3, a4, a5, a6, a7, a8, a9, a10, a11, a12, a13, a14, a15, a16, a17, a18, a19, ↓wp_unroll, lp24_0]
end Go.Vm.YtholgdogohmdbaaW
