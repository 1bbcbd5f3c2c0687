/- The law of writers, over all that is given. -/
import Derived.Test.YteeplbabnleanaaWireK
set_option linter.unusedSectionVars false
set_option linter.unusedSimpArgs false
set_option linter.unusedVariables false
set_option maxHeartbeats 1000000
set_option maxRecDepth 10000
namespace Go.Vm.Yteeplbabnleanaa
open Go.Proofs
theorem uActs : Try.prog.underlying 64 = some (.slice 53) := by kernel_rfl
theorem bAct : Try.prog.bytesOf 53 = 40 := by kernel_rfl
theorem fit_acts {d : Nat} {x : V} (h : FitsV Try.prog (d + 3) 64 x) : ∃ (k : SK) (l : List Act), x = .sl k l.length (rows Act.v l) ∧ k ≠ .zero ∧ l.length * 40 ≤ 140737488355328 ∧ ∀ a ∈ l, a.ok := by
  obtain ⟨k, l, h1, _, h2, h3, h4⟩ := fit_slice_rows (d := d + 2) Act.v Act.ok uActs (fun r hr => fitL_act (fits_struct uAct hr)) h
  rw [bAct] at h3
  exact ⟨k, l, h1, h2, Nat.le_of_lt (Nat.lt_of_le_of_lt h3 reach_lt), h4⟩
theorem wireWrites_main (xs : List V) (h : FitsA Try.prog 8 [64] xs) : fnA (tabW fns) ([64].map fun _ => Mode.bor) ir12 xs (fun p => p = (.bool true, [])) := by
  obtain ⟨x, ys, rfl, h1, h⟩ := fitsA_s h
  obtain rfl := fitsA_0 h
  obtain ⟨k, l, rfl, hk, hb, ha⟩ := fit_acts h1
  exact wr_law k l ha hk hb
end Go.Vm.Yteeplbabnleanaa
