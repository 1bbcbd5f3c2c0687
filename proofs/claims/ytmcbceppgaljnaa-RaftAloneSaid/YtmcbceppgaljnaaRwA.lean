/- (seval) Raft: a replica alone, on its own blocks: what is read. -/
import Derived.Test.YtmcbceppgaljnaaRaftA
set_option linter.unusedSectionVars false
set_option linter.unusedSimpArgs false
set_option linter.unusedVariables false
set_option maxHeartbeats 4000000
set_option maxRecDepth 10000
namespace Go.Vm
abbrev EA := Int × List UInt8
def eA (e : EA) : List V := [.int .i64 e.1, .str e.2, .bool false, .sl .nil 0 []]
theorem eA_len (e : EA) : (eA e).length = 4 := rfl
theorem eAn (l : List EA) : (rows eA l).length = l.length * 4 := rows_length eA_len l
theorem eA0 (l : List EA) (i : Nat) (h : i < l.length) : (rows eA l)[i * 4]? = some (.int .i64 (gt l i).1) := rows_at (j := 0) eA_len h (by omega)
theorem eA2 (l : List EA) (i : Nat) (h : i < l.length) : (rows eA l)[i * 4 + 2]? = some (.bool false) := rows_at (j := 2) eA_len h (by omega)
theorem eArow (l : List EA) (i : Nat) (h : i < l.length) : ((rows eA l).drop (i * 4)).take 4 = eA (gt l i) := rows_row eA_len h
end Go.Vm
namespace Go.Vm.Ytmcbceppgaljnaa
open Go.Proofs
/-- A node's cells: alone in its list. -/
def na (bc : V) (term vote : Int) (log : V) (role leader commit since heard timeout : Int) (dr votes nxt mtc snt : V) : List V :=
  [.int .i64 0, .int .i64 term, .int .i64 vote, .int .i64 0, .int .i64 0, .str [], bc, log, .int .i64 role, .int .i64 leader, .int .i64 commit, .int .i64 since, .int .i64 heard, .int .i64 timeout, dr, votes, nxt, mtc, snt, .int .i64 0, .int .i64 0, .str []]
def latI (kl : SK) (l : List EA) (j : Nat) (s : St) : Prop := j ≤ l.length ∧ s.t 0 = .sl .ro 1 [.int .i64 0] ∧ s.t 1 = .sl kl l.length (rows eA l) ∧ s.t 6 = .int .i64 ((j : Int) - 1)
theorem Latest_a (kl : SK) (l : List EA) (hl : l.length ≤ 1000) : Gf fns 45 [.sl .ro 1 [.int .i64 0], .sl kl l.length (rows eA l)] = some (.tup [.osl 1 1 [.int .i64 0], .int .i64 0], []) := by
  have hn := eAn l
  refine Gf_start rfl rfl ?_
  simp -implicitDefEqProofs (disch := omega) only [go_sem, seval, go_sem]
  refine wp_loopS (latI kl l) (fun j => j) l.length ⟨by omega, by simp -implicitDefEqProofs (disch := omega) only [go_sem, seval, go_sem], by simp -implicitDefEqProofs (disch := omega) only [go_sem, seval, go_sem], by simp -implicitDefEqProofs (disch := omega) only [go_sem, seval, go_sem]⟩ ?_
  rintro j ⟨t, σ⟩ ⟨hj, h0, h1, h6⟩
  simp only at h0 h1 h6
  cases j with
  | zero =>
    rw [show ((0 : Nat) : Int) - 1 = -1 from rfl] at h6
    simp -implicitDefEqProofs (disch := omega) only [go_sem, seval, lp45_0, h6]
    simp -implicitDefEqProofs (disch := omega) only [go_sem, seval, h0, Clone_one]
  | succ j =>
    rw [show ((j + 1 : Nat) : Int) - 1 = (j : Int) by omega] at h6
    have e2 := eA2 l j (by omega)
    simp -implicitDefEqProofs (disch := omega) only [go_sem, seval, lp45_0, h6]
    simp -implicitDefEqProofs (disch := omega) only [go_sem, seval, h1, h6, e2]
    refine ⟨j, by omega, by omega, by simp -implicitDefEqProofs (disch := omega) only [go_sem, seval, h0], by simp -implicitDefEqProofs (disch := omega) only [go_sem, seval, h1], by simp -implicitDefEqProofs (disch := omega) only [go_sem, seval, go_sem]⟩
variable (term vote role leader commit since heard timeout : Int) (dr vs nx mt sn : V)
theorem last_a (kl : SK) (l : List EA) (hl : l.length ≤ 1000) : Gf fns 17 [.pt (na (.sl .ro 1 [.int .i64 0]) term vote (.sl kl l.length (rows eA l)) role leader commit since heard timeout dr vs nx mt sn) 0] = some (.int .i64 (l.length : Int), []) := by
  refine Gf_start rfl rfl ?_
  simp -implicitDefEqProofs (disch := omega) only [go_sem, seval, go_sem]
  refine wp_draw_E ?_
  simp -implicitDefEqProofs (disch := omega) only [go_sem, seval, na]
theorem term_a (kl : SK) (l : List EA) (hl : l.length ≤ 1000) (i : Nat) (hi : i < l.length) : Gf fns 35 [.pt (na (.sl .ro 1 [.int .i64 0]) term vote (.sl kl l.length (rows eA l)) role leader commit since heard timeout dr vs nx mt sn) 0, .int .i64 ((i + 1 : Nat) : Int)] = some (.tup [.int .i64 (gt l i).1, .bool true], []) := by
  have la := last_a term vote role leader commit since heard timeout dr vs nx mt sn kl l hl
  have e0 := eA0 l i hi
  have hn := eAn l
  have hh : ¬ l.length < i + 1 := by omega
  simp -implicitDefEqProofs (disch := omega) only [go_sem, seval, na] at la
  refine Gf_start rfl rfl ?_
  simp -implicitDefEqProofs (disch := omega) only [go_sem, seval, na, la, hh]
  refine wp_draw_E ?_
  simp -implicitDefEqProofs (disch := omega) only [go_sem, seval, e0]
theorem Members_a (kl : SK) (l : List EA) (hl : l.length ≤ 1000) : Gf fns 24 [.pt (na (.sl .ro 1 [.int .i64 0]) term vote (.sl kl l.length (rows eA l)) role leader commit since heard timeout dr vs nx mt sn) 0] = some (.osl 1 1 [.int .i64 0], []) := by
  have la := Latest_a kl l hl
  refine Gf_start rfl rfl ?_
  simp -implicitDefEqProofs (disch := omega) only [go_sem, seval, go_sem]
  refine wp_draw_E ?_
  simp -implicitDefEqProofs (disch := omega) only [go_sem, seval, na, la]
theorem others_a (kl : SK) (l : List EA) (hl : l.length ≤ 1000) : Gf fns 29 [.pt (na (.sl .ro 1 [.int .i64 0]) term vote (.sl kl l.length (rows eA l)) role leader commit since heard timeout dr vs nx mt sn) 0] = some (.osl 1 0 [], []) := by
  have la := Members_a term vote role leader commit since heard timeout dr vs nx mt sn kl l hl
  simp -implicitDefEqProofs (disch := omega) only [go_sem, seval, na] at la
  refine Gf_start rfl rfl ?_
  simp -implicitDefEqProofs (disch := omega) only [go_sem, seval, go_sem]
  refine wp_draw_E ?_
  simp -implicitDefEqProofs (disch := omega) only [go_sem, seval, na, la, Without_ok]
theorem stands_a (kl : SK) (l : List EA) (hl : l.length ≤ 1000) : Gf fns 31 [.pt (na (.sl .ro 1 [.int .i64 0]) term vote (.sl kl l.length (rows eA l)) role leader commit since heard timeout dr vs nx mt sn) 0] = some (.bool true, []) := by
  have la := Latest_a kl l hl
  refine Gf_start rfl rfl ?_
  simp -implicitDefEqProofs (disch := omega) only [go_sem, seval, go_sem]
  refine wp_draw_E ?_
  simp -implicitDefEqProofs (disch := omega) only [go_sem, seval, na, la, Has_ok]
end Go.Vm.Ytmcbceppgaljnaa
