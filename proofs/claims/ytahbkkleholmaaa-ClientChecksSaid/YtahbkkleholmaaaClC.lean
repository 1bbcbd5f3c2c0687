/- (seval) Clients: what is told, as bytes. -/
import Derived.Test.YtahbkkleholmaaaClB
set_option linter.unusedSectionVars false
set_option linter.unusedSimpArgs false
set_option linter.unusedVariables false
set_option maxHeartbeats 4000000
set_option maxRecDepth 10000
namespace Go.Vm.Ytahbkkleholmaaa
open Go.Proofs
theorem wb (B : List UInt8) (hB : B.length ≤ 1000) : Gf fns 69 [wrV B, .bool false] = some (.tup [], [wrV (B ++ [0])]) := WBool_ok B false (by omega)
theorem wt0 (B : List UInt8) (hB : B.length ≤ 1000) : Gf fns 71 [wrV B, .str []] = some (.tup [], [wrV (B ++ [0, 0, 0, 0])]) := by
  have h := WText_ok B [] (by simp; omega)
  rw [List.append_nil] at h
  exact h

theorem PutProof_ok (B : List UInt8) (hB : B.length ≤ 100) : Gf fns 75 [wrV B, .agg [.sl .nil 0 [], .bool false, .str [], .str []]] = some (.tup [], [wrV (B ++ [0, 0, 0, 0] ++ [0])]) := by
  have a1 := wc B (by omega) 0 (by omega) [0, 0, 0, 0] rfl
  have a2 := wb (B ++ [0, 0, 0, 0]) (by simp; omega)
  refine Gf_start rfl rfl (startW (fun σ k => by simp -implicitDefEqProofs (disch := omega) only [go_sem, seval, go_sem]) fun σ hs => ?_)
  simp -implicitDefEqProofs (disch := omega) only [go_sem, seval, go_sem]
  refine contC_ex (wcall (f := 49) rfl _ _ 0 1 [1] (hs.same (by simp -implicitDefEqProofs (disch := omega) only [go_sem, seval, go_sem]) (by simp; simp -implicitDefEqProofs (disch := omega) only [go_sem, seval, go_sem])) (by simp) (by simp -implicitDefEqProofs (disch := omega) only [go_sem, seval, go_sem]) a1 (fun k σ' => by simp -implicitDefEqProofs (disch := omega) only [go_sem, seval, go_sem])) ?_
  rintro σ2 ⟨hs2, e2⟩
  have f2 := e2 256 (by simp) (by simp) (by simp)
  simp -implicitDefEqProofs (disch := omega) only [go_sem, seval, go_sem] at f2
  simp -implicitDefEqProofs (disch := omega) only [go_sem, seval, f2, ↓wp_unroll, lp75_0]
  refine contC_ex (wcall (f := 69) rfl _ _ 0 1 _ hs2 (by simp) (by simp -implicitDefEqProofs (disch := omega) only [go_sem, seval, go_sem]) a2 (fun k σ' => by simp -implicitDefEqProofs (disch := omega) only [go_sem, seval, go_sem])) ?_
  rintro σ3 ⟨hs3, e3⟩
  have f3 := e3 256 (by simp) (by simp) (by simp)
  rw [f2] at f3
  obtain ⟨l, o1, o2, _⟩ := hs3.own (by simp)
  simp -implicitDefEqProofs (disch := omega) only [go_sem, seval, f3, o1, o2]
theorem CertPut_ok (B : List UInt8) (hB : B.length ≤ 100) : Gf fns 78 [wrV B, .agg [.sl .nil 0 []]] = some (.tup [], [wrV (B ++ [0])]) := by
  have a1 := wn B (by omega) 0 0 1 (by omega) rfl [0] rfl
  refine Gf_start rfl rfl (startW (fun σ k => by simp -implicitDefEqProofs (disch := omega) only [go_sem, seval, go_sem]) fun σ hs => ?_)
  simp -implicitDefEqProofs (disch := omega) only [go_sem, seval, show IntKind.u64.wrap 0 = 0 from rfl]
  refine contC_ex (wcall (f := 44) rfl _ _ 0 1 [1] (hs.same (by simp -implicitDefEqProofs (disch := omega) only [go_sem, seval, go_sem]) (by simp; simp -implicitDefEqProofs (disch := omega) only [go_sem, seval, go_sem])) (by simp) (by simp -implicitDefEqProofs (disch := omega) only [go_sem, seval, go_sem]) a1 (fun k σ' => by simp -implicitDefEqProofs (disch := omega) only [go_sem, seval, go_sem])) ?_
  rintro σ2 ⟨hs2, e2⟩
  have f2 := e2 256 (by simp) (by simp) (by simp)
  simp -implicitDefEqProofs (disch := omega) only [go_sem, seval, go_sem] at f2
  obtain ⟨l, o1, o2, _⟩ := hs2.own (by simp)
  simp -implicitDefEqProofs (disch := omega) only [go_sem, seval, f2, ↓wp_unroll, lp78_0, o1, o2]
theorem HCheck0 : Gf fns 76 [.agg [.int .u64 0, .str [], .str [], .str [], .sl .nil 0 []]] = some (.int .i64 80, []) := by
  refine Gf_start rfl rfl ?_
  simp -implicitDefEqProofs (disch := omega) only [go_sem, seval, go_sem]
def toldT : List UInt8 := [1] ++ [0, 0, 0, 0] ++ [0, 0, 0, 0] ++ [0, 0, 0, 0, 0, 0, 0, 4] ++ [0] ++ [0, 0, 0, 0] ++ [0, 0, 0, 0] ++ [0] ++ [0] ++ [0]
theorem putTold_ok (B : List UInt8) (hB : B.length ≤ 50) : Gf fns 48 [wrV B, .agg toldC] = some (.tup [], [wrV (B ++ [1] ++ [0, 0, 0, 0] ++ [0, 0, 0, 0] ++ [0, 0, 0, 0, 0, 0, 0, 4] ++ [0] ++ [0, 0, 0, 0] ++ [0, 0, 0, 0] ++ [0] ++ [0] ++ [0])]) := by
  have a1 := wn B (by omega) 1 1 1 (by omega) rfl [1] rfl
  have a2 := wc (B ++ [1]) (by simp; omega) 0 (by omega) [0, 0, 0, 0] rfl
  have a3 := wc (B ++ [1] ++ [0, 0, 0, 0]) (by simp; omega) 0 (by omega) [0, 0, 0, 0] rfl
  have a4 := wn (B ++ [1] ++ [0, 0, 0, 0] ++ [0, 0, 0, 0]) (by simp; omega) 4 4 8 (by omega) rfl [0, 0, 0, 0, 0, 0, 0, 4] rfl
  have a5 := wb (B ++ [1] ++ [0, 0, 0, 0] ++ [0, 0, 0, 0] ++ [0, 0, 0, 0, 0, 0, 0, 4]) (by simp; omega)
  have a6 := wt0 (B ++ [1] ++ [0, 0, 0, 0] ++ [0, 0, 0, 0] ++ [0, 0, 0, 0, 0, 0, 0, 4] ++ [0]) (by simp; omega)
  have a7 := PutProof_ok (B ++ [1] ++ [0, 0, 0, 0] ++ [0, 0, 0, 0] ++ [0, 0, 0, 0, 0, 0, 0, 4] ++ [0] ++ [0, 0, 0, 0]) (by simp; omega)
  have a8 := wb (B ++ [1] ++ [0, 0, 0, 0] ++ [0, 0, 0, 0] ++ [0, 0, 0, 0, 0, 0, 0, 4] ++ [0] ++ [0, 0, 0, 0] ++ [0, 0, 0, 0] ++ [0]) (by simp; omega)
  have a9 := CertPut_ok (B ++ [1] ++ [0, 0, 0, 0] ++ [0, 0, 0, 0] ++ [0, 0, 0, 0, 0, 0, 0, 4] ++ [0] ++ [0, 0, 0, 0] ++ [0, 0, 0, 0] ++ [0] ++ [0]) (by simp; omega)
  refine Gf_start rfl rfl (startW (fun σ k => by simp -implicitDefEqProofs (disch := omega) only [go_sem, seval, toldC]) fun σ hs => ?_)
  simp -implicitDefEqProofs (disch := omega) only [go_sem, seval, toldC, show IntKind.u64.wrap 1 = 1 from rfl]
  refine contC_ex (wcall (f := 44) rfl _ _ 0 1 [1] (hs.same (by simp -implicitDefEqProofs (disch := omega) only [go_sem, seval, go_sem]) (by simp; simp -implicitDefEqProofs (disch := omega) only [go_sem, seval, go_sem])) (by simp) (by simp -implicitDefEqProofs (disch := omega) only [go_sem, seval, go_sem]) a1 (fun k σ' => by simp -implicitDefEqProofs (disch := omega) only [go_sem, seval, go_sem])) ?_
  rintro σ2 ⟨hs2, e2⟩
  have f2 := e2 256 (by simp) (by simp) (by simp)
  simp -implicitDefEqProofs (disch := omega) only [go_sem, seval, go_sem] at f2
  simp -implicitDefEqProofs (disch := omega) only [go_sem, seval, f2]
  refine contC_ex (wcall (f := 49) rfl _ _ 0 1 _ hs2 (by simp) (by simp -implicitDefEqProofs (disch := omega) only [go_sem, seval, go_sem]) a2 (fun k σ' => by simp -implicitDefEqProofs (disch := omega) only [go_sem, seval, go_sem])) ?_
  rintro σ3 ⟨hs3, e3⟩
  have f3 := e3 256 (by simp) (by simp) (by simp)
  rw [f2] at f3
  simp -implicitDefEqProofs (disch := omega) only [go_sem, seval, f3]
  refine contC_ex (wcall (f := 49) rfl _ _ 0 1 _ hs3 (by simp) (by simp -implicitDefEqProofs (disch := omega) only [go_sem, seval, go_sem]) a3 (fun k σ' => by simp -implicitDefEqProofs (disch := omega) only [go_sem, seval, go_sem])) ?_
  rintro σ4 ⟨hs4, e4⟩
  have f4 := e4 256 (by simp) (by simp) (by simp)
  rw [f3] at f4
  simp -implicitDefEqProofs (disch := omega) only [go_sem, seval, f4]
  refine contC_ex (wcall (f := 44) rfl _ _ 0 1 _ hs4 (by simp) (by simp -implicitDefEqProofs (disch := omega) only [go_sem, seval, go_sem]) a4 (fun k σ' => by simp -implicitDefEqProofs (disch := omega) only [go_sem, seval, go_sem])) ?_
  rintro σ5 ⟨hs5, e5⟩
  have f5 := e5 256 (by simp) (by simp) (by simp)
  rw [f4] at f5
  simp -implicitDefEqProofs (disch := omega) only [go_sem, seval, f5]
  refine contC_ex (wcall (f := 69) rfl _ _ 0 1 _ hs5 (by simp) (by simp -implicitDefEqProofs (disch := omega) only [go_sem, seval, go_sem]) a5 (fun k σ' => by simp -implicitDefEqProofs (disch := omega) only [go_sem, seval, go_sem])) ?_
  rintro σ6 ⟨hs6, e6⟩
  have f6 := e6 256 (by simp) (by simp) (by simp)
  rw [f5] at f6
  simp -implicitDefEqProofs (disch := omega) only [go_sem, seval, f6]
  refine contC_ex (wcall (f := 71) rfl _ _ 0 1 _ hs6 (by simp) (by simp -implicitDefEqProofs (disch := omega) only [go_sem, seval, go_sem]) a6 (fun k σ' => by simp -implicitDefEqProofs (disch := omega) only [go_sem, seval, go_sem])) ?_
  rintro σ7 ⟨hs7, e7⟩
  have f7 := e7 256 (by simp) (by simp) (by simp)
  rw [f6] at f7
  simp -implicitDefEqProofs (disch := omega) only [go_sem, seval, f7]
  refine contC_ex (wcall (f := 75) rfl _ _ 0 1 _ hs7 (by simp) (by simp -implicitDefEqProofs (disch := omega) only [go_sem, seval, go_sem]) a7 (fun k σ' => by simp -implicitDefEqProofs (disch := omega) only [go_sem, seval, go_sem])) ?_
  rintro σ8 ⟨hs8, e8⟩
  have f8 := e8 256 (by simp) (by simp) (by simp)
  rw [f7] at f8
  simp -implicitDefEqProofs (disch := omega) only [go_sem, seval, f8, HCheck0]
  refine contC_ex (wcall (f := 69) rfl _ _ 0 1 _ hs8 (by simp) (by simp -implicitDefEqProofs (disch := omega) only [go_sem, seval, go_sem]) a8 (fun k σ' => by simp -implicitDefEqProofs (disch := omega) only [go_sem, seval, go_sem])) ?_
  rintro σ9 ⟨hs9, e9⟩
  have f9 := e9 256 (by simp) (by simp) (by simp)
  rw [f8] at f9
  simp -implicitDefEqProofs (disch := omega) only [go_sem, seval, f9]
  refine contC_ex (wcall (f := 78) rfl _ _ 0 1 _ hs9 (by simp) (by simp -implicitDefEqProofs (disch := omega) only [go_sem, seval, go_sem]) a9 (fun k σ' => by simp -implicitDefEqProofs (disch := omega) only [go_sem, seval, go_sem])) ?_
  rintro σ10 ⟨hs10, e10⟩
  have f10 := e10 256 (by simp) (by simp) (by simp)
  rw [f9] at f10
  obtain ⟨l, o1, o2, _⟩ := hs10.own (by simp)
  simp -implicitDefEqProofs (disch := omega) only [go_sem, seval, f10, o1, o2]
def toldB : List UInt8 := [4] ++ [1] ++ [0, 0, 0, 0] ++ [0, 0, 0, 0] ++ [0, 0, 0, 0, 0, 0, 0, 4] ++ [0] ++ [0, 0, 0, 0] ++ [0, 0, 0, 0] ++ [0] ++ [0] ++ [0]
theorem toldB_len : toldB.length = 30 := by kernel_rfl
theorem EncT_ok : Gf fns 27 [.agg (sayC 4 ask0 toldC)] = some (.str toldB, []) := by
  have a1 := wn [] (by simp) 4 4 1 (by omega) rfl [4] rfl
  have a2 := putTold_ok ([] ++ [4]) (by simp)
  have hl := toldB_len
  have al := All_ok toldB (by omega)
  have hn : ¬ toldB = [] := fun h => by rw [h] at hl; cases hl
  simp -implicitDefEqProofs (disch := omega) only [go_sem, seval, hn] at al
  rw [show [] ++ [4] ++ [1] ++ [0, 0, 0, 0] ++ [0, 0, 0, 0] ++ [0, 0, 0, 0, 0, 0, 0, 4] ++ [0] ++ [0, 0, 0, 0] ++ [0, 0, 0, 0] ++ [0] ++ [0] ++ [0] = toldB from rfl] at a2
  simp -implicitDefEqProofs (disch := omega) only [go_sem, seval, toldC] at a2
  refine Gf_start rfl rfl ?_
  simp -implicitDefEqProofs (disch := omega) only [go_sem, seval, sayC, ask0, toldC, List.cons_append, List.nil_append, NewWriter_ok, wrV, show IntKind.u64.wrap 4 = 4 from rfl]
  refine contC_ex (wcall (f := 44) rfl [] _ 320 1 [] (.inl ⟨rfl, by simp -implicitDefEqProofs (disch := omega) only [go_sem, seval, go_sem]⟩) (by simp) (by simp -implicitDefEqProofs (disch := omega) only [go_sem, seval, go_sem]) a1 (fun k σ' => by simp -implicitDefEqProofs (disch := omega) only [go_sem, seval, go_sem])) ?_
  rintro σ2 ⟨hs2, e2⟩
  have f2 := e2 128 (by simp) (by simp) (by simp)
  simp -implicitDefEqProofs (disch := omega) only [go_sem, seval, go_sem] at f2
  simp -implicitDefEqProofs (disch := omega) only [go_sem, seval, f2]
  refine contC_ex (wcall (f := 48) rfl _ _ 320 1 _ hs2 (by simp) (by simp -implicitDefEqProofs (disch := omega) only [go_sem, seval, go_sem]) a2 (fun k σ' => by simp -implicitDefEqProofs (disch := omega) only [go_sem, seval, go_sem])) ?_
  rintro σ3 ⟨hs3, _⟩
  rcases hs3 with ⟨hx, _⟩ | ⟨hx, q, gq, hq, h1, h2⟩
  · exact absurd hx hn
  · simp -implicitDefEqProofs (disch := omega) only [go_sem, seval, h1, h2, al]
end Go.Vm.Ytahbkkleholmaaa
