/- (seval) Raft: a replica that is asked for its vote: it follows, votes, answers. -/
import Derived.Test.YtjakgbhlnndhiaaRaftVB
set_option linter.unusedSectionVars false
set_option linter.unusedSimpArgs false
set_option linter.unusedVariables false
set_option maxHeartbeats 4000000
set_option maxRecDepth 10000
namespace Go.Vm.Ytjakgbhlnndhiaa
open Go.Proofs
/-- A slice's value at a border: told, or owned. -/
def Own (e n : Nat) (cs : List V) (v : V) : Prop := (∃ k, v = .sl k n cs) ∨ v = .osl e n cs
def tmoT (T : Nat) : Int := ((10 + ((14 + T * 3) % 20 + 20) % 20 : Nat) : Int)
def n0 (term vote : Int) (bc log : V) : List V := [.int .i64 2, .int .i64 term, .int .i64 vote, .int .i64 0, .int .i64 0, .str [], bc, log, .int .i64 0, .int .i64 (-1), .int .i64 0, .int .i64 0, .int .i64 0, .int .i64 0, .sl .nil 0 [], .nilm, .nilm, .nilm, .nilm, .int .i64 0, .int .i64 0, .str []]
theorem Term2 (term vote since tmo : Int) (bc log : V) : Gf fns 17 [.pt (n2 term vote bc log since tmo) 0] = some (.int .i64 term, []) := by
  refine Gf_start rfl rfl ?_
  simp -implicitDefEqProofs (disch := omega) only [go_sem, seval, n2]
section
variable (vote since tmo : Int) (nb : Nat) (cb : List V) (nl : Nat) (cl : List V) (bc log : V) (hb : Own 1 nb cb bc) (hg : Own 4 nl cl log) (hcb : cb.length = nb) (hcl : cl.length = nl * 4)
include hb hg hcb hcl
theorem rest2 (T : Nat) (hT : T ≤ 2147483647) : Gf fns 81 [.opt (n2 (T : Int) vote bc log 0 0)] = some (.tup [], [.opt (n2 (T : Int) vote bc log 0 (tmoT T))]) := by
  have e20 : ¬ (20 : Int) = 0 := by decide
  rcases hb with ⟨kb, rfl⟩ | rfl
  all_goals rcases hg with ⟨kg, rfl⟩ | rfl
  all_goals
    refine Gf_start rfl rfl ?_
    simp -implicitDefEqProofs (disch := omega) only [go_sem, seval, n2]
    refine wp_draw_E ?_
    simp -implicitDefEqProofs (disch := omega) only [go_sem, seval, n2, tmoT, show IntKind.i64.wrap 0 = 0 from rfl, show IntKind.i64.wrap 14 = 14 from rfl, e20]
theorem followN (T : Nat) (hT : T ≤ 2147483647) : Gf fns 46 [.opt (n0 (T : Int) vote bc log), .int .i64 (T : Int), .int .i64 (-1)] = some (.tup [], [.opt (n2 (T : Int) vote bc log 0 (tmoT T))]) := by
  have r := rest2 vote nb cb nl cl bc log hb hg hcb hcl T hT
  have hlt : ¬ T < T := by omega
  simp -implicitDefEqProofs (disch := omega) only [go_sem, seval, n2] at r
  rcases hb with ⟨kb, rfl⟩ | rfl
  all_goals rcases hg with ⟨kg, rfl⟩ | rfl
  all_goals
    refine Gf_start rfl rfl ?_
    simp -implicitDefEqProofs (disch := omega) only [go_sem, seval, n0, n2, hlt, callr81, r, ite_self]
theorem followU (term term' : Int) (h : term < term') : Gf fns 46 [.opt (n2 term vote bc log since tmo), .int .i64 term', .int .i64 (-1)] = some (.tup [], [.opt (n2 term' (-1) bc log since tmo)]) := by
  rcases hb with ⟨kb, rfl⟩ | rfl
  all_goals rcases hg with ⟨kg, rfl⟩ | rfl
  all_goals
    refine Gf_start rfl rfl ?_
    simp -implicitDefEqProofs (disch := omega) only [go_sem, seval, n2, h]
end
def row (f term : Int) (y : Bool) : List V := [.int .i64 2, .int .i64 2, .int .i64 f, .int .i64 term, .int .i64 0, .int .i64 0, .int .i64 0, .bool y, .sl .nil 0 [], .int .i64 0, .str [], .bool false, .sl .nil 0 []]
def yesB (term vote : Int) (l : List Ent) (m : Msg) : Bool := decide (m.term = term) && ((decide (vote = -1) || decide (vote = m.f)) && newerB l m)
section
variable (term vote since tmo : Int) (nb : Nat) (cb : List V) (l : List Ent) (hl : l.length ≤ 20) (bc log : V) (hb : Own 1 nb cb bc) (hcb : cb.length = nb) (hg : Own 4 l.length (rows Ent.v l) log)
include hb hg hl hcb
theorem vote2 (m : Msg) : Gf fns 48 [.opt (n2 term vote bc log since tmo), .agg m.v] = some (.osl 13 1 (row m.f term (yesB term vote l m)), [.opt (n2 term (if yesB term vote l m = true then m.f else vote) bc log (if yesB term vote l m = true then 0 else since) tmo)]) := by
  have a := fun kb kl => newer2 term vote since tmo kb nb cb kl l hl m
  have hrl := elen l
  unfold yesB
  simp -implicitDefEqProofs (disch := omega) only [go_sem, seval, n2, Msg.v] at a
  rcases hb with ⟨kb, rfl⟩ | rfl
  all_goals rcases hg with ⟨kg, rfl⟩ | rfl
  all_goals
    refine Gf_start rfl rfl ?_
    by_cases c1 : m.term = term
    · subst c1
      by_cases c2 : vote = -1
      · subst c2
        cases c4 : newerB l m
        · rw [c4] at a
          simp -implicitDefEqProofs (disch := omega) only [go_sem, seval, n2, Msg.v]
          refine wp_draw_E ?_
          simp -implicitDefEqProofs (disch := omega) only [go_sem, seval, c4, a, ite_self]
          refine wp_draw_E ?_
          simp -implicitDefEqProofs (disch := omega) only [go_sem, seval, row]
        · rw [c4] at a
          simp -implicitDefEqProofs (disch := omega) only [go_sem, seval, n2, Msg.v]
          refine wp_draw_E ?_
          simp -implicitDefEqProofs (disch := omega) only [go_sem, seval, c4, a, ite_self]
          refine wp_draw_E ?_
          simp -implicitDefEqProofs (disch := omega) only [go_sem, seval, row]
      · by_cases c3 : vote = m.f
        · subst c3
          cases c4 : newerB l m
          · rw [c4] at a
            simp -implicitDefEqProofs (disch := omega) only [go_sem, seval, n2, Msg.v]
            refine wp_draw_E ?_
            simp -implicitDefEqProofs (disch := omega) only [go_sem, seval, c2, c4, a, ite_self]
            refine wp_draw_E ?_
            simp -implicitDefEqProofs (disch := omega) only [go_sem, seval, row]
          · rw [c4] at a
            simp -implicitDefEqProofs (disch := omega) only [go_sem, seval, n2, Msg.v]
            refine wp_draw_E ?_
            simp -implicitDefEqProofs (disch := omega) only [go_sem, seval, c2, c4, a, ite_self]
            refine wp_draw_E ?_
            simp -implicitDefEqProofs (disch := omega) only [go_sem, seval, row]
        · simp -implicitDefEqProofs (disch := omega) only [go_sem, seval, n2, Msg.v]
          refine wp_draw_E ?_
          simp -implicitDefEqProofs (disch := omega) only [go_sem, seval, c2, c3]
          refine wp_draw_E ?_
          simp -implicitDefEqProofs (disch := omega) only [go_sem, seval, row]
    · simp -implicitDefEqProofs (disch := omega) only [go_sem, seval, n2, Msg.v]
      refine wp_draw_E ?_
      simp -implicitDefEqProofs (disch := omega) only [go_sem, seval, c1]
      refine wp_draw_E ?_
      simp -implicitDefEqProofs (disch := omega) only [go_sem, seval, row]
end
end Go.Vm.Ytjakgbhlnndhiaa
