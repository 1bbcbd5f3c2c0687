/- (seval) Raft: a replica that gets whatever messages: whose log is newer. -/
import Derived.Test.YtholgdogohmdbaaWdH
set_option linter.unusedSectionVars false
set_option linter.unusedSimpArgs false
set_option linter.unusedVariables false
set_option maxHeartbeats 1000000
set_option maxRecDepth 10000
namespace Go.Vm.YtholgdogohmdbaaW
open Go.Proofs
variable {σ : Store} {g : Nat}
theorem newer_w (d : Nd) (bc : V) (kl : SK) (hb : 0 ≤ d.bi ∧ d.bi ≤ 4294967296) (hl : d.l.length ≤ 1000000) (m : Msg) (hi : 0 ≤ m.ix ∧ m.ix ≤ 2147483647) :
    Gf fns 45 [.pt (nw d bc (.sl kl d.l.length (rows Ent.v d.l))) 0, .agg m.v] = some (.bool (decide ((termW d (lastW d)).1 < m.lt) || (decide (m.lt = (termW d (lastW d)).1) && decide (lastW d ≤ m.ix))), []) := by
  have la := last_w d bc kl hb hl
  have hL : 0 ≤ lastW d ∧ lastW d ≤ 8589934592 := by unfold lastW; omega
  have te := term_w d bc kl hb hl (lastW d) hL
  simp -implicitDefEqProofs (disch := omega) only [go_sem, seval, nw] at la
  simp -implicitDefEqProofs (disch := omega) only [go_sem, seval, nw] at te
  refine Gf_start rfl rfl ?_
  simp -implicitDefEqProofs (disch := omega) only [go_sem, seval, nw, Msg.v, la, te]
  refine wp_draw_E ?_
  generalize (termW d (lastW d)).1 = x
  by_cases c1 : x < m.lt
  · simp -implicitDefEqProofs (disch := omega) only [go_sem, seval, c1, la]
  · by_cases c2 : m.lt = x
    · simp -implicitDefEqProofs (disch := omega) only [go_sem, seval, c1, c2, la]
    · simp -implicitDefEqProofs (disch := omega) only [go_sem, seval, c1, c2, la]
end Go.Vm.YtholgdogohmdbaaW
