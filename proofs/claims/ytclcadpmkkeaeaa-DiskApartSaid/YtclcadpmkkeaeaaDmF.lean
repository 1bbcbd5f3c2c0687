/- (seval) The disk, in the machine: the wake-up. -/
import Derived.Test.YtclcadpmkkeaeaaDmD
import Derived.Test.YtclcadpmkkeaeaaDkGA
set_option linter.unusedSectionVars false
set_option linter.unusedSimpArgs false
set_option linter.unusedVariables false
set_option maxHeartbeats 4000000
set_option maxRecDepth 10000
namespace Go.Vm.Ytclcadpmkkeaeaa
open Go.Proofs
def wA : DE := ⟨[97], true, [120], false, [], 1⟩
def wB : DE := ⟨[98], true, [121], false, [], 1⟩
def wC : DE := ⟨[98], true, [121], true, [121], 0⟩
theorem awA : Gf fns 37 [.opt (dkv (.sl .nil 0 []) (-1) 0 false), .str [97], .str [120]] = some (.int .i64 0, [.opt (dkv (.osl 6 1 wA.v) (-1) 1 false)]) := by
  have h := Append_ok (lv := .sl .nil 0 []) (l := []) (.inr ⟨rfl, rfl⟩) (-1) 0 List.Pairwise.nil (by decide) (by decide) (by decide) (by decide) [97] [120] (by decide) (by decide) [] 0
  rw [h]
  rfl
theorem awB : Gf fns 37 [.opt (dkv (.osl 6 1 wA.v) (-1) 1 false), .str [98], .str [121]] = some (.int .i64 0, [.opt (dkv (.osl 6 2 (wA.v ++ wB.v)) (-1) 2 false)]) := by
  have h := Append_ok (lv := .osl 6 1 wA.v) (l := [wA]) (.inl rfl) (-1) 1 (List.pairwise_singleton _ _) (by decide) (by decide) (by decide) (by decide) [98] [121] (by decide) (by decide) [] 0
  rw [h]
  rfl
theorem awC : Gf fns 11 [.opt (dkv (.osl 6 2 (wA.v ++ wB.v)) (-1) 2 false), .int .i64 2, .int .i64 0] = some (.tup [], [.opt (dkv (.osl 6 1 wC.v) (-1) 2 true)]) := by
  have h := Crash_own [wA, wB] (-1) 2 0 2 (by decide) (by decide)
  have e : kept (crL (keepB 2) 0 [wA, wB]) = [wC] := by rfl
  rw [e] at h
  exact h
theorem awake_ok : Gf fns 15 [] = some (.bool true, []) := by
  have n := New_ok
  have a := awA
  have b := awB
  have c := awC
  have u := Up_ok (lv := .osl 6 1 wC.v) (l := [wC]) (.inl rfl) (-1) 2
  have l : Gf fns 27 [.pt (dkv (.sl .ro 1 wC.v) (-1) 2 false) 0] = some (.osl 1 1 [.str [98]], []) := by
    rcases Names_ok .ro [wC] (-1) 2 false (by decide) with h | ⟨h, _⟩
    · exact h
    · cases h
  simp -implicitDefEqProofs (disch := omega) only [go_sem, seval, dkv, DE.v, wA, wB, wC, List.cons_append, List.nil_append] at n a b c u l
  refine Gf_start rfl rfl ?_
  simp -implicitDefEqProofs (disch := omega) only [go_sem, seval, n, callr37, a]
  simp -implicitDefEqProofs (disch := omega) only [go_sem, seval, callr37, b]
  simp -implicitDefEqProofs (disch := omega) only [go_sem, seval, callr11, c]
  simp -implicitDefEqProofs (disch := omega) only [go_sem, seval, callr12, u, l]
end Go.Vm.Ytclcadpmkkeaeaa
