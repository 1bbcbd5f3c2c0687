/- (seval) Clients: what is read. -/
import Derived.Test.YtahbkkleholmaaaClC
set_option linter.unusedSectionVars false
set_option linter.unusedSimpArgs false
set_option linter.unusedVariables false
set_option maxHeartbeats 4000000
set_option maxRecDepth 10000
namespace Go.Vm.Ytahbkkleholmaaa
open Go.Proofs
theorem okA {a : Nat} (h : a ≤ 36) : (Rd.mk askB a 0).ok := ⟨by rw [askB_len]; exact h, by rw [askB_len]; omega⟩
theorem okT {a : Nat} (h : a ≤ 30) : (Rd.mk toldB a 0).ok := ⟨by rw [toldB_len]; exact h, by rw [toldB_len]; omega⟩
theorem rnum {r q : Rd} (h : r.ok) (n : Int) (x : UInt64) (y : Int) (he : r.number n = (q, x)) (hy : y = (x.toNat : Int)) : Gf fns 35 [.opt r.v, .int .i64 n] = some (.int .u64 y, [.opt q.v]) := by
  have := RNumber_ok r h n
  rw [he] at this
  rw [hy]
  exact this
theorem rcnt {r q : Rd} (h : r.ok) (n : Int) (hn : n < 9223372036854775808) (x : Nat) (y : Int) (he : r.count n = (q, x)) (hy : y = (x : Int)) : Gf fns 40 [.opt r.v, .int .i64 n] = some (.int .i64 y, [.opt q.v]) := by
  have := RCount_ok r h n hn
  rw [he] at this
  rw [hy]
  exact this
theorem rbool {r q : Rd} (h : r.ok) (b : Bool) (he : r.bool = (q, b)) : Gf fns 56 [.opt r.v] = some (.bool b, [.opt q.v]) := by
  have := RBool_ok r h
  rw [he] at this
  exact this
theorem rtext {r q : Rd} (h : r.ok) (n : Int) (hn : n < 9223372036854775808) (s : List UInt8) (he : r.text n = (q, s)) : Gf fns 58 [.opt r.v, .int .i64 n] = some (.str s, [.opt q.v]) := by
  have := RText_ok r h n hn
  rw [he] at this
  exact this
theorem takeAsk_ok : Gf fns 38 [.opt (Rd.v ⟨askB, 1, 0⟩)] = some (.agg (askC (.osl 3 1 opC)), [.opt (Rd.v ⟨askB, 36, 0⟩)]) := by
  have n1 := rnum (r := ⟨askB, 1, 0⟩) (q := ⟨askB, 2, 0⟩) (okA (by omega)) 1 1 1 (by kernel_rfl) rfl
  have n2 := rcnt (r := ⟨askB, 2, 0⟩) (q := ⟨askB, 6, 0⟩) (okA (by omega)) 2147483647 (by omega) 0 0 (by kernel_rfl) rfl
  have n3 := Take_ok ⟨askB, 6, 0⟩ (okA (by omega))
  rw [show takeT ⟨askB, 6, 0⟩ = (⟨askB, 36, 0⟩, t1) by kernel_rfl] at n3
  replace n3 : Gf fns 60 [.opt (Rd.v ⟨askB, 6, 0⟩)] = some (.agg [.int .u64 1, .int .u64 1, .osl 3 1 [.int .i64 1, .str [97], .str []]], [.opt (Rd.v ⟨askB, 36, 0⟩)]) := n3
  simp -implicitDefEqProofs (disch := omega) only [go_sem, seval, Rd.v] at n1 n2 n3
  refine Gf_start rfl rfl ?_
  simp -implicitDefEqProofs (disch := omega) only [go_sem, seval, Rd.v, callr35, n1, callr40, n2, callr60, n3, show IntKind.i64.wrap 1 = 1 from rfl, splice, List.take_succ_cons, List.take_zero, List.drop_succ_cons, List.drop_zero, List.cons_append, List.nil_append, askC, opC]
theorem DecA_ok : Gf fns 25 [.str askB] = some (.tup [.agg (sayC 3 (askC (.osl 3 1 opC)) told0), .int .i64 0], []) := by
  have n0 := NewReader_ok askB
  have n1 := rnum (r := ⟨askB, 0, 0⟩) (q := ⟨askB, 1, 0⟩) (okA (by omega)) 1 3 3 (by kernel_rfl) rfl
  have n2 := takeAsk_ok
  have n3 := REnd_ok ⟨askB, 36, 0⟩ (okA (by omega))
  rw [show (Rd.mk askB 36 0).end' = ⟨askB, 36, 0⟩ by kernel_rfl] at n3
  simp -implicitDefEqProofs (disch := omega) only [go_sem, seval, Rd.v, askC, opC] at n0 n1 n2 n3
  refine Gf_start rfl rfl ?_
  simp -implicitDefEqProofs (disch := omega) only [go_sem, seval, Rd.v, n0, callr35, n1, show IntKind.i64.wrap 3 = 3 from rfl]
  simp -implicitDefEqProofs (disch := omega) only [go_sem, seval, callr38, n2, callr42, n3, splice, List.take_succ_cons, List.take_zero, List.drop_succ_cons, List.drop_zero, List.cons_append, List.nil_append, sayC, askC, told0, opC]
theorem TakeProof_ok : Gf fns 62 [.opt (Rd.v ⟨toldB, 23, 0⟩)] = some (.agg [.sl .nil 0 [], .bool false, .str [], .str []], [.opt (Rd.v ⟨toldB, 28, 0⟩)]) := by
  have n1 := rcnt (r := ⟨toldB, 23, 0⟩) (q := ⟨toldB, 27, 0⟩) (okT (by omega)) 256 (by omega) 0 0 (by kernel_rfl) rfl
  have n2 := rbool (r := ⟨toldB, 27, 0⟩) (q := ⟨toldB, 28, 0⟩) (okT (by omega)) false (by kernel_rfl)
  have e := Err_ok ⟨toldB, 28, 0⟩
  simp -implicitDefEqProofs (disch := omega) only [go_sem, seval, Rd.v] at n1 n2 e
  refine Gf_start rfl rfl ?_
  simp -implicitDefEqProofs (disch := omega) only [go_sem, seval, Rd.v, callr40, n1, ↓wp_unroll, lp62_0, callr56, n2, e]
theorem CertTake_ok : Gf fns 64 [.opt (Rd.v ⟨toldB, 29, 0⟩)] = some (.agg [.sl .nil 0 []], [.opt (Rd.v ⟨toldB, 30, 0⟩)]) := by
  have n1 := rnum (r := ⟨toldB, 29, 0⟩) (q := ⟨toldB, 30, 0⟩) (okT (by omega)) 1 0 0 (by kernel_rfl) rfl
  have e := Err_ok ⟨toldB, 30, 0⟩
  simp -implicitDefEqProofs (disch := omega) only [go_sem, seval, Rd.v] at n1 e
  refine Gf_start rfl rfl ?_
  simp -implicitDefEqProofs (disch := omega) only [go_sem, seval, Rd.v, callr35, n1, ↓wp_unroll, lp64_0, e]
theorem takeTold_ok : Gf fns 39 [.opt (Rd.v ⟨toldB, 1, 0⟩)] = some (.agg toldC, [.opt (Rd.v ⟨toldB, 30, 0⟩)]) := by
  have n1 := rnum (r := ⟨toldB, 1, 0⟩) (q := ⟨toldB, 2, 0⟩) (okT (by omega)) 1 1 1 (by kernel_rfl) rfl
  have n2 := rcnt (r := ⟨toldB, 2, 0⟩) (q := ⟨toldB, 6, 0⟩) (okT (by omega)) 2147483647 (by omega) 0 0 (by kernel_rfl) rfl
  have n3 := rcnt (r := ⟨toldB, 6, 0⟩) (q := ⟨toldB, 10, 0⟩) (okT (by omega)) 2147483647 (by omega) 0 0 (by kernel_rfl) rfl
  have n4 := rnum (r := ⟨toldB, 10, 0⟩) (q := ⟨toldB, 18, 0⟩) (okT (by omega)) 8 4 4 (by kernel_rfl) rfl
  have n5 := rbool (r := ⟨toldB, 18, 0⟩) (q := ⟨toldB, 19, 0⟩) (okT (by omega)) false (by kernel_rfl)
  have n6 := rtext (r := ⟨toldB, 19, 0⟩) (q := ⟨toldB, 23, 0⟩) (okT (by omega)) 64 (by omega) [] (by kernel_rfl)
  have n7 := TakeProof_ok
  have n8 := rbool (r := ⟨toldB, 28, 0⟩) (q := ⟨toldB, 29, 0⟩) (okT (by omega)) false (by kernel_rfl)
  have n9 := CertTake_ok
  simp -implicitDefEqProofs (disch := omega) only [go_sem, seval, Rd.v] at n1 n2 n3 n4 n5 n6 n7 n8 n9
  refine Gf_start rfl rfl ?_
  simp -implicitDefEqProofs (disch := omega) only [go_sem, seval, Rd.v, callr35, n1, callr40, n2, n3, n4, callr56, n5, callr58, n6, show IntKind.i64.wrap 1 = 1 from rfl]
  simp -implicitDefEqProofs (disch := omega) only [go_sem, seval, callr62, n7, callr56, n8]
  simp -implicitDefEqProofs (disch := omega) only [go_sem, seval, callr64, n9, splice, List.take_succ_cons, List.take_zero, List.drop_succ_cons, List.drop_zero, List.cons_append, List.nil_append, toldC]
theorem DecT_ok : Gf fns 25 [.str toldB] = some (.tup [.agg (sayC 4 ask0 toldC), .int .i64 0], []) := by
  have n0 := NewReader_ok toldB
  have n1 := rnum (r := ⟨toldB, 0, 0⟩) (q := ⟨toldB, 1, 0⟩) (okT (by omega)) 1 4 4 (by kernel_rfl) rfl
  have n2 := takeTold_ok
  have n3 := REnd_ok ⟨toldB, 30, 0⟩ (okT (by omega))
  rw [show (Rd.mk toldB 30 0).end' = ⟨toldB, 30, 0⟩ by kernel_rfl] at n3
  simp -implicitDefEqProofs (disch := omega) only [go_sem, seval, Rd.v, toldC] at n0 n1 n2 n3
  refine Gf_start rfl rfl ?_
  simp -implicitDefEqProofs (disch := omega) only [go_sem, seval, Rd.v, n0, callr35, n1, show IntKind.i64.wrap 4 = 4 from rfl]
  simp -implicitDefEqProofs (disch := omega) only [go_sem, seval, callr39, n2, callr42, n3, splice, List.take_succ_cons, List.take_zero, List.drop_succ_cons, List.drop_zero, List.cons_append, List.nil_append, sayC, ask0, toldC]
end Go.Vm.Ytahbkkleholmaaa
