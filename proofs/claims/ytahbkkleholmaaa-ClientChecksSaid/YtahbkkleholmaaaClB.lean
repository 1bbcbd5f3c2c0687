/- (seval) Clients: what is asked and told, as bytes. -/
import Derived.Test.YtahbkkleholmaaaClA
set_option linter.unusedSectionVars false
set_option linter.unusedSimpArgs false
set_option linter.unusedVariables false
set_option maxHeartbeats 4000000
set_option maxRecDepth 10000
namespace Go.Vm.Ytahbkkleholmaaa
open Go.Proofs
def clC (calls : V) (at' : Int) (nonce : Int) (since silent : Int) (heard : V) : List V := [.int .i64 0, .int .i64 1, .int .i64 0, calls, .int .i64 at', .int .u64 nonce, .int .i64 since, .int .i64 silent, heard]
def askC (ops : V) : List V := [.int .i64 1, .int .i64 0, .int .u64 1, .int .u64 1, ops, .str [], .int .u64 0, .sl .nil 0 []]
def ask0 : List V := [.int .i64 0, .int .i64 0, .int .u64 0, .int .u64 0, .sl .nil 0 [], .str [], .int .u64 0, .sl .nil 0 []]
def toldC : List V := [.int .i64 1, .int .i64 0, .int .i64 0, .int .u64 4, .bool false, .str [], .sl .nil 0 [], .bool false, .str [], .str [], .int .u64 0, .str [], .str [], .str [], .sl .nil 0 [], .sl .nil 0 []]
def told0 : List V := [.int .i64 0, .int .i64 0, .int .i64 0, .int .u64 0, .bool false, .str [], .sl .nil 0 [], .bool false, .str [], .str [], .int .u64 0, .str [], .str [], .str [], .sl .nil 0 [], .sl .nil 0 []]
def sayC (kind : Int) (ask told : List V) : List V := .int .i64 kind :: .int .i64 0 :: .int .i64 0 :: .int .i64 0 :: .int .i64 0 :: .int .i64 0 :: .int .i64 0 :: .int .i64 0 :: .bool false :: .sl .nil 0 [] :: .int .i64 0 :: .str [] :: .bool false :: .sl .nil 0 [] :: .int .u64 0 :: .str [] :: .int .i64 0 :: .str [] :: (ask ++ (told ++ [.int .i64 0]))
theorem Number_c (at' since silent : Int) (h : V) : Gf fns 14 [.pt (clC (.sl .ro 1 callC) at' 1 since silent h) 0] = some (.int .u64 1, []) := by
  refine Gf_start rfl rfl ?_
  simp -implicitDefEqProofs (disch := omega) only [go_sem, seval, clC, show IntKind.u64.wrap 0 = 0 from rfl, show IntKind.u64.wrap 1 = 1 from rfl]
theorem ask_ok (since silent : Int) (h : V) : Gf fns 28 [.pt (clC (.sl .ro 1 callC) 0 1 since silent h) 0] = some (.agg (askC (.osl 3 1 opC)), []) := by
  have n := Number_c 0 since silent h
  have o := CloneOps
  simp -implicitDefEqProofs (disch := omega) only [go_sem, seval, clC, callC, opC] at n o
  refine Gf_start rfl rfl ?_
  simp -implicitDefEqProofs (disch := omega) only [go_sem, seval, go_sem]
  refine wp_draw_E ?_
  simp -implicitDefEqProofs (disch := omega) only [go_sem, seval, clC, callC, opC]
  refine wp_draw_E ?_
  simp -implicitDefEqProofs (disch := omega) only [go_sem, seval, go_sem]
  refine wp_draw_E ?_
  simp -implicitDefEqProofs (disch := omega) only [go_sem, seval, n, o, askC, opC, splice, List.take_succ_cons, List.take_zero, List.drop_succ_cons, List.drop_zero, List.cons_append, List.nil_append]
theorem wn (B : List UInt8) (hB : B.length ≤ 1000) (x : Int) (n : UInt64) (b : Int) (hb : -9223372036854775808 ≤ b ∧ b < 9223372036854775808) (hx : x = (n.toNat : Int)) (l : List UInt8) (hl : numB n (bytes8 b) = l) : Gf fns 44 [wrV B, .int .u64 x, .int .i64 b] = some (.tup [], [wrV (B ++ l)]) := by
  rw [hx, ← hl]
  exact WNumber_ok B n b hb (by omega)
theorem wc (B : List UInt8) (hB : B.length ≤ 1000) (x : Int) (hx : x < 1000) (l : List UInt8) (hl : numB (UInt64.ofNat x.toNat) 4 = l) : Gf fns 49 [wrV B, .int .i64 x] = some (.tup [], [wrV (B ++ l)]) := by
  rw [← hl]
  exact WCount_ok B x (by omega) (by omega)
theorem putAsk_ok (B : List UInt8) (hB : B.length ≤ 100) : Gf fns 47 [wrV B, .agg (askC (.sl .ro 1 opC))] = some (.tup [], [wrV (B ++ [1] ++ [0, 0, 0, 0] ++ txB t1)]) := by
  have a1 := wn B (by omega) 1 1 1 (by omega) rfl [1] rfl
  have a2 := wc (B ++ [1]) (by simp; omega) 0 (by omega) [0, 0, 0, 0] rfl
  have a3 := PutB_ok (B ++ [1] ++ [0, 0, 0, 0]) (by simp; omega) t1 t1_ok
  replace a3 : Gf fns 73 [wrV (B ++ [1] ++ [0, 0, 0, 0]), .agg [.int .u64 1, .int .u64 1, .sl .ro 1 [.int .i64 1, .str [97], .str []]]] = some (.tup [], [wrV (B ++ [1] ++ [0, 0, 0, 0] ++ txB t1)]) := a3
  refine Gf_start rfl rfl (startW (fun σ k => by simp -implicitDefEqProofs (disch := omega) only [go_sem, seval, askC, opC]) fun σ hs => ?_)
  simp -implicitDefEqProofs (disch := omega) only [go_sem, seval, askC, opC, show IntKind.u64.wrap 1 = 1 from rfl]
  refine contC_ex (wcall (f := 44) rfl B _ 0 1 [1] (hs.same (by simp -implicitDefEqProofs (disch := omega) only [go_sem, seval, go_sem]) (by simp; simp -implicitDefEqProofs (disch := omega) only [go_sem, seval, go_sem])) (by simp) (by simp -implicitDefEqProofs (disch := omega) only [go_sem, seval, go_sem]) a1 (fun k σ' => by simp -implicitDefEqProofs (disch := omega) only [go_sem, seval, go_sem])) ?_
  rintro σ2 ⟨hs2, e2⟩
  have f2 := e2 256 (by simp) (by simp) (by simp)
  simp -implicitDefEqProofs (disch := omega) only [go_sem, seval, go_sem] at f2
  simp -implicitDefEqProofs (disch := omega) only [go_sem, seval, f2]
  refine contC_ex (wcall (f := 49) rfl _ _ 0 1 _ hs2 (by simp) (by simp -implicitDefEqProofs (disch := omega) only [go_sem, seval, go_sem]) a2 (fun k σ' => by simp -implicitDefEqProofs (disch := omega) only [go_sem, seval, go_sem])) ?_
  rintro σ3 ⟨hs3, e3⟩
  have f3 := e3 256 (by simp) (by simp) (by simp)
  rw [f2] at f3
  simp -implicitDefEqProofs (disch := omega) only [go_sem, seval, f3]
  refine contC_ex (wcall (f := 73) rfl _ _ 0 1 _ hs3 (by simp) (by simp -implicitDefEqProofs (disch := omega) only [go_sem, seval, go_sem]) a3 (fun k σ' => by simp -implicitDefEqProofs (disch := omega) only [go_sem, seval, go_sem])) ?_
  rintro σ4 ⟨hs4, e4⟩
  obtain ⟨l, o1, o2, _⟩ := hs4.own (by simp)
  simp -implicitDefEqProofs (disch := omega) only [go_sem, seval, o1, o2]
def askB : List UInt8 := [3] ++ [1] ++ [0, 0, 0, 0] ++ txB t1
theorem askB_len : askB.length = 36 := by kernel_rfl
theorem EncA_ok : Gf fns 27 [.agg (sayC 3 (askC (.sl .ro 1 opC)) told0)] = some (.str askB, []) := by
  have a1 := wn [] (by simp) 3 3 1 (by omega) rfl [3] rfl
  have a2 := putAsk_ok ([] ++ [3]) (by simp)
  have hl := askB_len
  have al := All_ok askB (by omega)
  have hn : ¬ askB = [] := fun h => by rw [h] at hl; cases hl
  simp -implicitDefEqProofs (disch := omega) only [go_sem, seval, hn] at al
  rw [show [] ++ [3] ++ [1] ++ [0, 0, 0, 0] ++ txB t1 = askB from rfl] at a2
  simp -implicitDefEqProofs (disch := omega) only [go_sem, seval, askC, opC] at a2
  refine Gf_start rfl rfl ?_
  simp -implicitDefEqProofs (disch := omega) only [go_sem, seval, sayC, askC, told0, opC, List.cons_append, List.nil_append, NewWriter_ok, wrV, show IntKind.u64.wrap 3 = 3 from rfl]
  refine contC_ex (wcall (f := 44) rfl [] _ 320 1 [] (.inl ⟨rfl, by simp -implicitDefEqProofs (disch := omega) only [go_sem, seval, go_sem]⟩) (by simp) (by simp -implicitDefEqProofs (disch := omega) only [go_sem, seval, go_sem]) a1 (fun k σ' => by simp -implicitDefEqProofs (disch := omega) only [go_sem, seval, go_sem])) ?_
  rintro σ2 ⟨hs2, e2⟩
  have f2 := e2 128 (by simp) (by simp) (by simp)
  simp -implicitDefEqProofs (disch := omega) only [go_sem, seval, go_sem] at f2
  simp -implicitDefEqProofs (disch := omega) only [go_sem, seval, f2]
  refine contC_ex (wcall (f := 47) rfl _ _ 320 1 _ hs2 (by simp) (by simp -implicitDefEqProofs (disch := omega) only [go_sem, seval, go_sem]) a2 (fun k σ' => by simp -implicitDefEqProofs (disch := omega) only [go_sem, seval, go_sem])) ?_
  rintro σ3 ⟨hs3, _⟩
  rcases hs3 with ⟨hx, _⟩ | ⟨hx, q, gq, hq, h1, h2⟩
  · exact absurd hx hn
  · simp -implicitDefEqProofs (disch := omega) only [go_sem, seval, h1, h2, al]
end Go.Vm.Ytahbkkleholmaaa
