/- (seval) Clients: one that is none; the law. -/
import Derived.Test.YtahbkkleholmaaaClE
set_option linter.unusedSectionVars false
set_option linter.unusedSimpArgs false
set_option linter.unusedVariables false
set_option maxHeartbeats 4000000
set_option maxRecDepth 10000
namespace Go.Vm.Ytahbkkleholmaaa
open Go.Proofs
theorem Ended_nil : Gf fns 11 [.nilp] = some (.bool true, []) := by
  refine Gf_start rfl rfl ?_
  simp -implicitDefEqProofs (disch := omega) only [go_sem, seval, go_sem]
  refine wp_draw_E ?_
  simp -implicitDefEqProofs (disch := omega) only [go_sem, seval, go_sem]
theorem Handle_nil (a b : Int) (s : List UInt8) : Gf fns 9 [.nilp, .agg [.int .i64 a, .int .i64 b, .str s]] = some (.tup [], [.nilp]) := by
  refine Gf_start rfl rfl ?_
  simp -implicitDefEqProofs (disch := omega) only [go_sem, seval, go_sem]
  refine wp_draw_E ?_
  simp -implicitDefEqProofs (disch := omega) only [go_sem, seval, Ended_nil]
theorem Tick_nil : Gf fns 10 [.nilp] = some (.sl .nil 0 [], [.nilp]) := by
  refine Gf_start rfl rfl ?_
  simp -implicitDefEqProofs (disch := omega) only [go_sem, seval, Ended_nil]
theorem At_nil' : Gf fns 12 [.nilp] = some (.int .i64 0, []) := by
  refine Gf_start rfl rfl ?_
  simp -implicitDefEqProofs (disch := omega) only [go_sem, seval, go_sem]
theorem Heard_nil : Gf fns 13 [.nilp] = some (.sl .nil 0 [], []) := by
  refine Gf_start rfl rfl ?_
  simp -implicitDefEqProofs (disch := omega) only [go_sem, seval, go_sem]
theorem Number_nil' : Gf fns 14 [.nilp] = some (.int .u64 0, []) := by
  refine Gf_start rfl rfl ?_
  simp -implicitDefEqProofs (disch := omega) only [go_sem, seval, go_sem]
theorem clientNil_law (a b : Int) (s : List UInt8) : fnA (tabW fns) [.bor] ir4 [.agg [.int .i64 a, .int .i64 b, .str s]] (fun q => q = (.bool true, [])) := by
  have h := Handle_nil a b s
  refine fnA_start rfl ?_
  simp -implicitDefEqProofs (disch := omega) only [go_sem, seval, callr9, h, awake_ok, callr10, Tick_nil, Ended_nil, At_nil', Heard_nil, Number_nil']
theorem tPacket : tysOf Try.prog 36 = some [3, 3, 9] := by kernel_rfl
theorem fitL_packet {d : Nat} {vs : List V} (h : FitsL Try.prog (d + 1) [3, 3, 9] vs) : ∃ a b s, vs = [.int .i64 a, .int .i64 b, .str s] := by
  obtain ⟨a1, b1, rfl, h1, a2, b2, rfl, h2, a3, b3, rfl, h3, rfl⟩ := h
  obtain ⟨x1, rfl, _⟩ := fits_int uInt h1
  obtain ⟨x2, rfl, _⟩ := fits_int uInt h2
  obtain ⟨x3, rfl, _⟩ := fits_str uStr h3
  exact ⟨x1, x2, x3, rfl⟩
theorem clientNil_main (xs : List V) (h : FitsA Try.prog 8 [36] xs) : fnA (tabW fns) ([36].map fun _ => Mode.bor) ir4 xs (fun p => p = (.bool true, [])) := by
  obtain ⟨x, ys, rfl, h1, h⟩ := fitsA_s h
  obtain rfl := fitsA_0 h
  obtain ⟨v1, rfl, g1⟩ := fit_struct (d := 7) tPacket h1
  obtain ⟨a, b, s, rfl⟩ := fitL_packet g1
  exact clientNil_law a b s
end Go.Vm.Ytahbkkleholmaaa
