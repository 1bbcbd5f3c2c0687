/- (seval) Raft: a replica that gets whatever messages: what it reads of itself. -/
import Derived.Test.YtholgdogohmdbaaWdB
set_option linter.unusedSectionVars false
set_option linter.unusedSimpArgs false
set_option linter.unusedVariables false
set_option maxHeartbeats 4000000
set_option maxRecDepth 10000
namespace Go.Vm.YtholgdogohmdbaaW
open Go.Proofs
structure Nd where
  term : Int
  vote : Int
  bi : Int
  bt : Int
  base : List UInt8
  l : List Ent
  leader : Int
  commit : Int
  since : Int
  heard : Int
  tmo : Int
  hi : Int
  ht : Int
  hs : List UInt8
/-- A follower's cells. -/
def nw (d : Nd) (bc lv : V) : List V :=
  [.int .i64 1, .int .i64 d.term, .int .i64 d.vote, .int .i64 d.bi, .int .i64 d.bt, .str d.base, bc, lv, .int .i64 1, .int .i64 d.leader, .int .i64 d.commit, .int .i64 d.since, .int .i64 d.heard, .int .i64 d.tmo, .sl .nil 0 [], .nilm, .nilm, .nilm, .nilm, .int .i64 d.hi, .int .i64 d.ht, .str d.hs]
def lastW (d : Nd) : Int := d.bi + d.l.length
theorem last_w (d : Nd) (bc : V) (kl : SK) (hb : 0 ≤ d.bi ∧ d.bi ≤ 4294967296) (hl : d.l.length ≤ 1000000) : Gf fns 36 [.pt (nw d bc (.sl kl d.l.length (rows Ent.v d.l))) 0] = some (.int .i64 (lastW d), []) := by
  refine Gf_start rfl rfl ?_
  simp -implicitDefEqProofs (disch := omega) only [go_sem, seval, go_sem]
  refine wp_draw_E ?_
  simp -implicitDefEqProofs (disch := omega) only [go_sem, seval, nw, lastW]
def termW (d : Nd) (i : Int) : Int × Bool :=
  if i = d.bi then (d.bt, true) else if i < d.bi ∨ lastW d < i then (0, false) else ((gt d.l (i - d.bi - 1).toNat).term, true)
theorem term_w (d : Nd) (bc : V) (kl : SK) (hb : 0 ≤ d.bi ∧ d.bi ≤ 4294967296) (hl : d.l.length ≤ 1000000) (i : Int) (hi : 0 ≤ i ∧ i ≤ 8589934592) :
    Gf fns 53 [.pt (nw d bc (.sl kl d.l.length (rows Ent.v d.l))) 0, .int .i64 i] = some (.tup [.int .i64 (termW d i).1, .bool (termW d i).2], []) := by
  have la := last_w d bc kl hb hl
  have hn := elen d.l
  simp -implicitDefEqProofs (disch := omega) only [go_sem, seval, nw] at la
  unfold termW
  refine Gf_start rfl rfl ?_
  by_cases c1 : i = d.bi
  · simp -implicitDefEqProofs (disch := omega) only [go_sem, seval, nw, c1]
  · by_cases c2 : i < d.bi
    · simp -implicitDefEqProofs (disch := omega) only [go_sem, seval, nw, c1, c2]
    · by_cases c3 : lastW d < i
      · simp -implicitDefEqProofs (disch := omega) only [go_sem, seval, nw, c1, c2, la, c3, or_true]
      · have hj : (i - d.bi - 1).toNat < d.l.length := by unfold lastW at c3; omega
        have e := ecell d.l _ hj
        have h0 : 0 ≤ i - d.bi - 1 := by omega
        have h1 : i - d.bi - 1 < (d.l.length : Int) := by unfold lastW at c3; omega
        simp -implicitDefEqProofs (disch := omega) only [go_sem, seval, nw, c1, c2, la, c3, or_false]
        refine wp_draw_E ?_
        simp -implicitDefEqProofs (disch := omega) only [go_sem, seval, e, h0, h1]
end Go.Vm.YtholgdogohmdbaaW
