/- (seval) Raft: a replica that gets whatever messages: what it does with itself, on its own blocks. -/
import Derived.Test.YtholgdogohmdbaaWdC
set_option linter.unusedSectionVars false
set_option linter.unusedSimpArgs false
set_option linter.unusedVariables false
set_option maxHeartbeats 4000000
set_option maxRecDepth 10000
namespace Go.Vm
theorem Hf_is {fs : Fns} {f np nt : Nat} {res : List IRes} {body : IC} {xs : List V} {σ : Store} {r : V × Store} (hf : fs f = some (none, ⟨np, nt, res, body, none⟩)) (hn : xs.length = np) (h : wpA (tabW fs) body (endR res (· = r)) ⟨fun i => xs.getD i (.tup []), σ⟩) : Hf fs f xs σ = some r := by
  obtain ⟨v, σ', h1, h2⟩ := Hf_start (Q := (· = r)) hf hn h
  rw [h1, h2]
end Go.Vm
namespace Go.Vm.YtholgdogohmdbaaW
open Go.Proofs
variable {σ : Store} {p g : Nat}
def tmoW (term : Int) : Int := 10 + Int.tmod (Int.tmod (7 + term * 3) 20 + 20) 20
theorem tmoW_in (term : Int) (h : 0 ≤ term) : 10 ≤ tmoW term ∧ tmoW term ≤ 29 := by
  unfold tmoW
  have a := Int.tmod_nonneg (a := 7 + term * 3) 20 (by omega)
  have b := Int.tmod_nonneg (a := Int.tmod (7 + term * 3) 20 + 20) 20 (by omega)
  have c := Int.tmod_lt_of_pos (Int.tmod (7 + term * 3) 20 + 20) (b := 20) (by omega)
  omega
theorem rest_r (d : Nd) (bc lv : V) (ht : 0 ≤ d.term ∧ d.term ≤ 2147483647) (e : σ p = ⟨g, .rw, false, nw d bc lv⟩) :
    Hf fns 43 [.ptr p g 0] σ = some (.tup [], upd σ p ⟨g, .rw, false, nw { d with since := 0, tmo := tmoW d.term } bc lv⟩) := by
  have a := Int.tmod_nonneg (a := 7 + d.term * 3) 20 (by omega)
  have a2 := Int.tmod_lt_of_pos (7 + d.term * 3) (b := 20) (by omega)
  have b := Int.tmod_nonneg (a := Int.tmod (7 + d.term * 3) 20 + 20) 20 (by omega)
  have c := Int.tmod_lt_of_pos (Int.tmod (7 + d.term * 3) 20 + 20) (b := 20) (by omega)
  simp -implicitDefEqProofs (disch := omega) only [go_sem, seval, nw] at e
  refine Hf_is (f := 43) rfl rfl ?_
  simp -implicitDefEqProofs (disch := omega) only [go_sem, seval, e]
  refine wp_draw_E ?_
  simp -implicitDefEqProofs (disch := omega) only [go_sem, seval, e, nw, tmoW]
/-- What follow does. -/
def folW (d : Nd) (term leader : Int) : Nd :=
  let d1 : Nd := if d.term < term then { d with term := term, vote := -1 } else d
  if leader = -1 then { d1 with leader := leader } else { d1 with leader := leader, heard := 0, since := 0, tmo := tmoW d1.term }
theorem follow_r (d : Nd) (bc lv : V) (ht : 0 ≤ d.term ∧ d.term ≤ 2147483647) (term leader : Int) (h2 : 0 ≤ term ∧ term ≤ 2147483647) (e : σ p = ⟨g, .rw, false, nw d bc lv⟩) :
    Hf fns 22 [.ptr p g 0, .int .i64 term, .int .i64 leader] σ = some (.tup [], upd σ p ⟨g, .rw, false, nw (folW d term leader) bc lv⟩) := by
  simp -implicitDefEqProofs (disch := omega) only [go_sem, seval, nw] at e
  refine Hf_is (f := 22) rfl rfl ?_
  unfold folW
  by_cases c1 : d.term < term
  · by_cases c2 : leader = -1
    · simp -implicitDefEqProofs (disch := omega) only [go_sem, seval, e, c1, c2, nw]
    · simp -implicitDefEqProofs (disch := omega) only [go_sem, seval, e, c1, c2]
      refine contC_of (rest_r { d with term := term, vote := -1, leader := leader, heard := 0 } bc lv h2 ?_) ?_
      · simp -implicitDefEqProofs (disch := omega) only [go_sem, seval, nw]
      simp -implicitDefEqProofs (disch := omega) only [go_sem, seval, nw]
  · by_cases c2 : leader = -1
    · simp -implicitDefEqProofs (disch := omega) only [go_sem, seval, e, c1, c2, nw]
    · simp -implicitDefEqProofs (disch := omega) only [go_sem, seval, e, c1, c2]
      refine contC_of (rest_r { d with leader := leader, heard := 0 } bc lv ht ?_) ?_
      · simp -implicitDefEqProofs (disch := omega) only [go_sem, seval, nw]
      simp -implicitDefEqProofs (disch := omega) only [go_sem, seval, nw]
end Go.Vm.YtholgdogohmdbaaW
