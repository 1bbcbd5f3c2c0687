/- (seval) Raft: a node that is none; the law. -/
import Derived.Test.YtjakgbhlnndhiaaRaftE
set_option linter.unusedSectionVars false
set_option linter.unusedSimpArgs false
set_option linter.unusedVariables false
set_option maxHeartbeats 4000000
set_option maxRecDepth 10000
namespace Go.Vm.Ytjakgbhlnndhiaa
open Go.Proofs
structure Msg where
  k : Int
  f : Int
  t : Int
  term : Int
  ix : Int
  lt : Int
  cm : Int
  y : Bool
  ek : SK
  en : Nat
  ec : List V
  off : Int
  pc : List UInt8
  d : Bool
  mk' : SK
  mn : Nat
  mc : List V
def Msg.v (m : Msg) : List V := [.int .i64 m.k, .int .i64 m.f, .int .i64 m.t, .int .i64 m.term, .int .i64 m.ix, .int .i64 m.lt, .int .i64 m.cm, .bool m.y, .sl m.ek m.en m.ec, .int .i64 m.off, .str m.pc, .bool m.d, .sl m.mk' m.mn m.mc]
theorem Propose_nil (s : List UInt8) : Gf fns 37 [.nilp, .str s] = some (.tup [.int .i64 0, .sl .nil 0 [], .bool false], [.nilp]) := by
  refine Gf_start rfl rfl ?_
  simp -implicitDefEqProofs (disch := omega) only [go_sem, seval, go_sem]
theorem Entry_nil (i : Int) : Gf fns 34 [.nilp, .int .i64 i] = some (.tup [.agg [.int .i64 0, .str [], .bool false, .sl .nil 0 []], .bool false], []) := by
  refine Gf_start rfl rfl ?_
  simp -implicitDefEqProofs (disch := omega) only [go_sem, seval, go_sem]
theorem Change_nil (k : SK) (n : Nat) (c : List V) : Gf fns 40 [.nilp, .sl k n c] = some (.tup [.int .i64 0, .sl .nil 0 [], .bool false], [.nilp]) := by
  refine Gf_start rfl rfl ?_
  simp -implicitDefEqProofs (disch := omega) only [go_sem, seval, go_sem]
  refine wp_draw_E ?_
  simp -implicitDefEqProofs (disch := omega) only [go_sem, seval, go_sem]
theorem Tick_nil : Gf fns 20 [.nilp] = some (.sl .nil 0 [], [.nilp]) := by
  refine Gf_start rfl rfl ?_
  simp -implicitDefEqProofs (disch := omega) only [go_sem, seval, go_sem]
theorem Step_nil (m : Msg) : Gf fns 18 [.nilp, .agg m.v] = some (.sl .nil 0 [], [.nilp]) := by
  refine Gf_start rfl rfl ?_
  simp -implicitDefEqProofs (disch := omega) only [go_sem, seval, Msg.v]
  refine wp_draw_E ?_
  simp -implicitDefEqProofs (disch := omega) only [go_sem, seval, go_sem]
theorem Compact_nil (i : Int) (s : List UInt8) : Gf fns 38 [.nilp, .int .i64 i, .str s] = some (.bool false, [.nilp]) := by
  refine Gf_start rfl rfl ?_
  simp -implicitDefEqProofs (disch := omega) only [go_sem, seval, go_sem]
theorem Members_nil : Gf fns 41 [.nilp] = some (.sl .nil 0 [], []) := by
  refine Gf_start rfl rfl ?_
  simp -implicitDefEqProofs (disch := omega) only [go_sem, seval, go_sem]
theorem Hard_nil : Gf fns 23 [.nilp] = some (.agg [.int .i64 0, .int .i64 (-1), .int .i64 0, .int .i64 0, .str [], .sl .nil 0 [], .sl .nil 0 []], []) := by
  refine Gf_start rfl rfl ?_
  simp -implicitDefEqProofs (disch := omega) only [go_sem, seval, go_sem]
theorem Role_nil : Gf fns 19 [.nilp] = some (.int .i64 0, []) := by
  refine Gf_start rfl rfl ?_
  simp -implicitDefEqProofs (disch := omega) only [go_sem, seval, go_sem]
theorem Leader_nil : Gf fns 42 [.nilp] = some (.int .i64 (-1), []) := by
  refine Gf_start rfl rfl ?_
  simp -implicitDefEqProofs (disch := omega) only [go_sem, seval, go_sem]
theorem Commit_nil : Gf fns 33 [.nilp] = some (.int .i64 0, []) := by
  refine Gf_start rfl rfl ?_
  simp -implicitDefEqProofs (disch := omega) only [go_sem, seval, go_sem]
theorem Term_nil : Gf fns 17 [.nilp] = some (.int .i64 0, []) := by
  refine Gf_start rfl rfl ?_
  simp -implicitDefEqProofs (disch := omega) only [go_sem, seval, go_sem]
/-- A node's cells with nobody in its list. -/
def ndM (me : Nat) (role : Int) (timeout : Int) : List V :=
  [.int .i64 (me : Int), .int .i64 0, .int .i64 (-1), .int .i64 0, .int .i64 0, .str [], .sl .nil 0 [], .sl .nil 0 [], .int .i64 role, .int .i64 (-1), .int .i64 0, .int .i64 0, .int .i64 0, .int .i64 timeout, .sl .nil 0 [], .nilm, .nilm, .nilm, .nilm, .int .i64 0, .int .i64 0, .str []]
def tmo (m : Nat) : Int := ((10 + (m * 7 % 20 + 20) % 20 : Nat) : Int)
theorem rest_M (m : Nat) (hm : m < 16) : Gf fns 81 [.opt (ndM m 1 0)] = some (.tup [], [.opt (ndM m 1 (tmo m))]) := by
  have e20 : ¬ (20 : Int) = 0 := by decide
  refine Gf_start rfl rfl ?_
  simp -implicitDefEqProofs (disch := omega) only [go_sem, seval, ndM]
  refine wp_draw_E ?_
  simp -implicitDefEqProofs (disch := omega) only [go_sem, seval, ndM, tmo, show IntKind.i64.wrap 0 = 0 from rfl, e20]
theorem follow_M (m : Nat) (hm : m < 16) : Gf fns 46 [.opt (ndM m 0 0), .int .i64 0, .int .i64 (-1)] = some (.tup [], [.opt (ndM m 1 (tmo m))]) := by
  have r := rest_M m hm
  simp -implicitDefEqProofs (disch := omega) only [go_sem, seval, ndM] at r
  refine Gf_start rfl rfl ?_
  simp -implicitDefEqProofs (disch := omega) only [go_sem, seval, ndM, callr81, r]
theorem New_M (m : Nat) (hm : m < 16) : Gf fns 21 [.int .i64 (m : Int), .agg [.int .i64 0, .int .i64 (-1), .int .i64 0, .int .i64 0, .str [], .sl .nil 0 [], .sl .nil 0 []], .sl .nil 0 []] = some (.tup [.opt (ndM m 1 (tmo m)), .int .i64 0], []) := by
  have f := follow_M m hm
  simp -implicitDefEqProofs (disch := omega) only [go_sem, seval, ndM] at f
  have hm2 : ¬ 16 ≤ m := by omega
  refine Gf_start rfl rfl ?_
  simp -implicitDefEqProofs (disch := omega) only [go_sem, seval, hm2]
  refine wp_draw_E ?_
  simp -implicitDefEqProofs (disch := omega) only [go_sem, seval, clone_n, Clone_nil]
  simp -implicitDefEqProofs (disch := omega) only [go_sem, seval, callr46, f, ndM]
theorem New_bad (n : Int) (h : n < 0 ∨ 16 ≤ n) : Gf fns 21 [.int .i64 n, .agg [.int .i64 0, .int .i64 (-1), .int .i64 0, .int .i64 0, .str [], .sl .nil 0 [], .sl .nil 0 []], .sl .nil 0 []] = some (.tup [.nilp, .int .i64 1], []) := by
  refine Gf_start rfl rfl ?_
  by_cases h0 : n < 0
  · simp -implicitDefEqProofs (disch := omega) only [go_sem, seval, h0]
  · have h1 : 16 ≤ n := by omega
    simp -implicitDefEqProofs (disch := omega) only [go_sem, seval, h0, h1]
theorem raftNil_law (m : Msg) (n : Int) : fnA (tabW fns) [.bor, .bor] ir8 [.agg m.v, .int .i64 n] (fun q => q = (.bool true, [])) := by
  have st := Step_nil m
  refine fnA_start rfl ?_
  simp -implicitDefEqProofs (disch := omega) only [go_sem, seval, Msg.v] at st
  by_cases hn : 0 ≤ n ∧ n < 16
  · obtain ⟨k, rfl⟩ : ∃ k : Nat, n = (k : Int) := ⟨n.toNat, by omega⟩
    have hk : k < 16 := by omega
    have nw := New_M k hk
    simp -implicitDefEqProofs (disch := omega) only [go_sem, seval, ndM] at nw
    simp -implicitDefEqProofs (disch := omega) only [go_sem, seval, Msg.v, callr37, Propose_nil, Entry_nil, callr40, Change_nil, nw]
    simp -implicitDefEqProofs (disch := omega) only [go_sem, seval, awake_ok, callr20, Tick_nil, callr18, st, callr38, Compact_nil, Members_nil, Hard_nil, Role_nil, Leader_nil, Commit_nil, Term_nil, hk]
  · have nw := New_bad n (by omega)
    by_cases h0 : 0 ≤ n
    · have h1 : ¬ n < 16 := by omega
      simp -implicitDefEqProofs (disch := omega) only [go_sem, seval, Msg.v, callr37, Propose_nil, Entry_nil, callr40, Change_nil, nw]
      simp -implicitDefEqProofs (disch := omega) only [go_sem, seval, awake_ok, callr20, Tick_nil, callr18, st, callr38, Compact_nil, Members_nil, Hard_nil, Role_nil, Leader_nil, Commit_nil, Term_nil, h0, h1]
    · simp -implicitDefEqProofs (disch := omega) only [go_sem, seval, Msg.v, callr37, Propose_nil, Entry_nil, callr40, Change_nil, nw]
      simp -implicitDefEqProofs (disch := omega) only [go_sem, seval, awake_ok, callr20, Tick_nil, callr18, st, callr38, Compact_nil, Members_nil, Hard_nil, Role_nil, Leader_nil, Commit_nil, Term_nil, h0]
theorem tMsg : tysOf Try.prog 38 = some [3, 3, 3, 3, 3, 3, 3, 4, 36, 3, 9, 4, 25] := by kernel_rfl
theorem uInt : Try.prog.underlying 3 = some (.int .i64) := by kernel_rfl
theorem uBool : Try.prog.underlying 4 = some .bool := by kernel_rfl
theorem uStr : Try.prog.underlying 9 = some .string := by kernel_rfl
theorem uLog : Try.prog.underlying 36 = some (.slice 45) := by kernel_rfl
theorem uInts : Try.prog.underlying 25 = some (.slice 3) := by kernel_rfl
theorem fitL_msg {d : Nat} {vs : List V} (h : FitsL Try.prog (d + 1) [3, 3, 3, 3, 3, 3, 3, 4, 36, 3, 9, 4, 25] vs) : ∃ m : Msg, vs = m.v := by
  obtain ⟨a1, b1, rfl, h1, a2, b2, rfl, h2, a3, b3, rfl, h3, a4, b4, rfl, h4, a5, b5, rfl, h5, a6, b6, rfl, h6, a7, b7, rfl, h7, a8, b8, rfl, h8, a9, b9, rfl, h9, a10, b10, rfl, h10, a11, b11, rfl, h11, a12, b12, rfl, h12, a13, b13, rfl, h13, rfl⟩ := h
  obtain ⟨x1, rfl, _⟩ := fits_int uInt h1
  obtain ⟨x2, rfl, _⟩ := fits_int uInt h2
  obtain ⟨x3, rfl, _⟩ := fits_int uInt h3
  obtain ⟨x4, rfl, _⟩ := fits_int uInt h4
  obtain ⟨x5, rfl, _⟩ := fits_int uInt h5
  obtain ⟨x6, rfl, _⟩ := fits_int uInt h6
  obtain ⟨x7, rfl, _⟩ := fits_int uInt h7
  obtain ⟨x8, rfl⟩ := fits_bool uBool h8
  obtain ⟨k9, l9, rfl, _⟩ := fits_slice_rows (fun r : List V => r) (fun _ => True) uLog (fun r _ => ⟨r, rfl, trivial⟩) h9
  obtain ⟨x10, rfl, _⟩ := fits_int uInt h10
  obtain ⟨x11, rfl, _⟩ := fits_str uStr h11
  obtain ⟨x12, rfl⟩ := fits_bool uBool h12
  obtain ⟨k13, l13, rfl, _⟩ := fits_slice_rows (fun r : List V => r) (fun _ => True) uInts (fun r _ => ⟨r, rfl, trivial⟩) h13
  exact ⟨⟨x1, x2, x3, x4, x5, x6, x7, x8, k9, _, _, x10, x11, x12, k13, _, _⟩, rfl⟩
theorem raftNil_main (xs : List V) (h : FitsA Try.prog 8 [38, 3] xs) : fnA (tabW fns) ([38, 3].map fun _ => Mode.bor) ir8 xs (fun p => p = (.bool true, [])) := by
  obtain ⟨x, ys, rfl, h1, h⟩ := fitsA_s h
  obtain ⟨y, zs, rfl, h2, h⟩ := fitsA_s h
  obtain rfl := fitsA_0 h
  obtain ⟨v1, rfl, g1⟩ := fit_struct (d := 7) tMsg h1
  obtain ⟨n, rfl, _⟩ := fit_int (d := 7) uInt h2
  obtain ⟨m, rfl⟩ := fitL_msg g1
  exact raftNil_law m n
end Go.Vm.Ytjakgbhlnndhiaa
