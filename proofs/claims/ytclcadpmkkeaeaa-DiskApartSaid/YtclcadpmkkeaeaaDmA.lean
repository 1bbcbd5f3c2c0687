/- (seval) The disk and the document's, in the machine: what may not be. -/
import Derived.Test.YtclcadpmkkeaeaaDkM
set_option linter.unusedSectionVars false
set_option linter.unusedSimpArgs false
set_option linter.unusedVariables false
set_option maxHeartbeats 40000000
set_option maxRecDepth 10000
namespace Go.Vm.Ytclcadpmkkeaeaa
open Go.Proofs
theorem do_no0 {lv nv : V} {k2 : SK} {l : List DE} {N S : List DF} (ho : OwL lv l) (hv : nv = .osl 3 N.length (rows DF.v N) ∨ ∃ k, nv = .sl k N.length (rows DF.v N)) (lim : Int) (ch : Nat) (hch : ch ≤ 900) (hl : l.length ≤ 900) (hN : N.length ≤ 900) (kd : Nat) (x t s : Tx) (m f1 f2 f3 q : Int) (hk : kd ≤ 4) (h2 : (kd : Int) < 2)
    (hC : ∀ k, Gf fns 32 [.agg (rk (.sl k N.length (rows DF.v N)) (.sl k2 S.length (rows DF.v S)) lim ch), .agg [.int .i64 (kd : Int), .str x, .str t, .str (if (kd : Int) < 2 then fewT s else []), .int .i64 m]] = some (.tup [.agg (rk (.sl k N.length (rows DF.v N)) (.sl k2 S.length (rows DF.v S)) lim ch), .int .i64 q], []))
    (hc : Gf fns 26 [.opt (dkv lv lim ch false), .agg [.int .i64 (kd : Int), .str x, .str t, .str s, .int .i64 m, .int .i64 f1, .int .i64 f2, .int .i64 f3]] = some (.int .i64 q, [.opt (dkv lv lim ch false)])) :
    ∃ k, Gf fns 7 [.agg [.opt (dkv lv lim ch false), nv, .sl k2 S.length (rows DF.v S), .int .i64 lim, .sl .nil 0 [], .int .i64 (ch : Int), .bool false], .agg [.int .i64 (kd : Int), .str x, .str t, .str s, .int .i64 m, .int .i64 f1, .int .i64 f2, .int .i64 f3]] = some (.tup [.agg [.opt (dkv lv lim ch false), .sl k N.length (rows DF.v N), .sl k2 S.length (rows DF.v S), .int .i64 lim, .sl .nil 0 [], .int .i64 (ch : Int), .bool false], .bool true], []) := by
  have hfw := few_ok s
  have hel := elen l
  have hrn := flen N
  have k5 : ¬ (kd : Int) = 5 := by omega
  have k6 : ¬ (kd : Int) = 6 := by omega
  have k7 : ¬ (kd : Int) = 7 := by omega
  have k8 : ¬ (kd : Int) = 8 := by omega
  have k9 : ¬ (kd : Int) = 9 := by omega
  have kl : ¬ (kd : Int) < 0 := by omega
  have kg : ¬ (4 : Int) < (kd : Int) := by omega
  obtain ⟨b, hb⟩ : ∃ b, ∀ d, hasRo (d + 1) (V.sl k2 S.length (rows DF.v S)) = b := ⟨hasRo 1 (V.sl k2 S.length (rows DF.v S)), fun d => by cases k2 <;> rfl⟩
  obtain ⟨b2, hb2⟩ : ∃ b2, ∀ d, hasRo (d + 1) (V.sl .ro N.length (rows DF.v N)) = b2 := ⟨hasRo 1 (V.sl .ro N.length (rows DF.v N)), fun d => rfl⟩
  simp only [h2, if_true] at hC
  rcases ho with rfl | ⟨rfl, rfl⟩ <;> rcases hv with rfl | ⟨k1, rfl⟩
  · have hC := hC .ro
    refine ⟨.ro, ?_⟩
    simp -implicitDefEqProofs (disch := omega) only [go_sem, seval, dkv, rk] at hC hc
    cases b <;> cases b2
    all_goals
      refine Gf_start rfl rfl ?_
      simp -implicitDefEqProofs (disch := omega) only [go_sem, seval, sp7, dkv, hel, ero, fro, hrn, k5, k6, k7, k8, k9, kl, kg, h2, hfw, hC, hb, hb2]
      refine wp_draw_E ?_
      simp -implicitDefEqProofs (disch := omega) only [go_sem, seval, sp7, hel, ero, fro, hrn, callV_T at26, hc]
  · have hC := hC k1
    refine ⟨k1, ?_⟩
    simp -implicitDefEqProofs (disch := omega) only [go_sem, seval, dkv, rk] at hC hc
    refine Gf_start rfl rfl ?_
    simp -implicitDefEqProofs (disch := omega) only [go_sem, seval, sp7, dkv, hel, ero, fro, hrn, k5, k6, k7, k8, k9, kl, kg, h2, hfw, hC, ite_self]
    refine wp_draw_E ?_
    simp -implicitDefEqProofs (disch := omega) only [go_sem, seval, sp7, hel, ero, fro, hrn, callV_T at26, hc]
  · have hC := hC .ro
    refine ⟨.ro, ?_⟩
    simp -implicitDefEqProofs (disch := omega) only [go_sem, seval, dkv, rk] at hC hc
    cases b <;> cases b2
    all_goals
      refine Gf_start rfl rfl ?_
      simp -implicitDefEqProofs (disch := omega) only [go_sem, seval, sp7, dkv, hel, ero, fro, hrn, k5, k6, k7, k8, k9, kl, kg, h2, hfw, hC, hb, hb2]
      refine wp_draw_E ?_
      simp -implicitDefEqProofs (disch := omega) only [go_sem, seval, sp7, hel, ero, fro, hrn, callV_T at26, hc]
  · have hC := hC k1
    refine ⟨k1, ?_⟩
    simp -implicitDefEqProofs (disch := omega) only [go_sem, seval, dkv, rk] at hC hc
    refine Gf_start rfl rfl ?_
    simp -implicitDefEqProofs (disch := omega) only [go_sem, seval, sp7, dkv, hel, ero, fro, hrn, k5, k6, k7, k8, k9, kl, kg, h2, hfw, hC, ite_self]
    refine wp_draw_E ?_
    simp -implicitDefEqProofs (disch := omega) only [go_sem, seval, sp7, hel, ero, fro, hrn, callV_T at26, hc]
end Go.Vm.Ytclcadpmkkeaeaa
/- (seval) The disk and the document's, in the machine: what may not be. -/
namespace Go.Vm.Ytclcadpmkkeaeaa
open Go.Proofs
theorem do_no1 {lv nv : V} {k2 : SK} {l : List DE} {N S : List DF} (ho : OwL lv l) (hv : nv = .osl 3 N.length (rows DF.v N) ∨ ∃ k, nv = .sl k N.length (rows DF.v N)) (lim : Int) (ch : Nat) (hch : ch ≤ 900) (hl : l.length ≤ 900) (hN : N.length ≤ 900) (kd : Nat) (x t s : Tx) (m f1 f2 f3 q : Int) (hk : kd ≤ 4) (h2 : ¬ (kd : Int) < 2)
    (hC : ∀ k, Gf fns 32 [.agg (rk (.sl k N.length (rows DF.v N)) (.sl k2 S.length (rows DF.v S)) lim ch), .agg [.int .i64 (kd : Int), .str x, .str t, .str (if (kd : Int) < 2 then fewT s else []), .int .i64 m]] = some (.tup [.agg (rk (.sl k N.length (rows DF.v N)) (.sl k2 S.length (rows DF.v S)) lim ch), .int .i64 q], []))
    (hc : Gf fns 26 [.opt (dkv lv lim ch false), .agg [.int .i64 (kd : Int), .str x, .str t, .str s, .int .i64 m, .int .i64 f1, .int .i64 f2, .int .i64 f3]] = some (.int .i64 q, [.opt (dkv lv lim ch false)])) :
    ∃ k, Gf fns 7 [.agg [.opt (dkv lv lim ch false), nv, .sl k2 S.length (rows DF.v S), .int .i64 lim, .sl .nil 0 [], .int .i64 (ch : Int), .bool false], .agg [.int .i64 (kd : Int), .str x, .str t, .str s, .int .i64 m, .int .i64 f1, .int .i64 f2, .int .i64 f3]] = some (.tup [.agg [.opt (dkv lv lim ch false), .sl k N.length (rows DF.v N), .sl k2 S.length (rows DF.v S), .int .i64 lim, .sl .nil 0 [], .int .i64 (ch : Int), .bool false], .bool true], []) := by
  have hfw := few_ok s
  have hel := elen l
  have hrn := flen N
  have k5 : ¬ (kd : Int) = 5 := by omega
  have k6 : ¬ (kd : Int) = 6 := by omega
  have k7 : ¬ (kd : Int) = 7 := by omega
  have k8 : ¬ (kd : Int) = 8 := by omega
  have k9 : ¬ (kd : Int) = 9 := by omega
  have kl : ¬ (kd : Int) < 0 := by omega
  have kg : ¬ (4 : Int) < (kd : Int) := by omega
  obtain ⟨b, hb⟩ : ∃ b, ∀ d, hasRo (d + 1) (V.sl k2 S.length (rows DF.v S)) = b := ⟨hasRo 1 (V.sl k2 S.length (rows DF.v S)), fun d => by cases k2 <;> rfl⟩
  obtain ⟨b2, hb2⟩ : ∃ b2, ∀ d, hasRo (d + 1) (V.sl .ro N.length (rows DF.v N)) = b2 := ⟨hasRo 1 (V.sl .ro N.length (rows DF.v N)), fun d => rfl⟩
  simp only [h2, if_false] at hC
  rcases ho with rfl | ⟨rfl, rfl⟩ <;> rcases hv with rfl | ⟨k1, rfl⟩
  · have hC := hC .ro
    refine ⟨.ro, ?_⟩
    simp -implicitDefEqProofs (disch := omega) only [go_sem, seval, dkv, rk] at hC hc
    cases b <;> cases b2
    all_goals
      refine Gf_start rfl rfl ?_
      simp -implicitDefEqProofs (disch := omega) only [go_sem, seval, sp7, dkv, hel, ero, fro, hrn, k5, k6, k7, k8, k9, kl, kg, h2, hfw, hC, hb, hb2]
      refine wp_draw_E ?_
      simp -implicitDefEqProofs (disch := omega) only [go_sem, seval, sp7, hel, ero, fro, hrn, callV_T at26, hc]
  · have hC := hC k1
    refine ⟨k1, ?_⟩
    simp -implicitDefEqProofs (disch := omega) only [go_sem, seval, dkv, rk] at hC hc
    refine Gf_start rfl rfl ?_
    simp -implicitDefEqProofs (disch := omega) only [go_sem, seval, sp7, dkv, hel, ero, fro, hrn, k5, k6, k7, k8, k9, kl, kg, h2, hfw, hC, ite_self]
    refine wp_draw_E ?_
    simp -implicitDefEqProofs (disch := omega) only [go_sem, seval, sp7, hel, ero, fro, hrn, callV_T at26, hc]
  · have hC := hC .ro
    refine ⟨.ro, ?_⟩
    simp -implicitDefEqProofs (disch := omega) only [go_sem, seval, dkv, rk] at hC hc
    cases b <;> cases b2
    all_goals
      refine Gf_start rfl rfl ?_
      simp -implicitDefEqProofs (disch := omega) only [go_sem, seval, sp7, dkv, hel, ero, fro, hrn, k5, k6, k7, k8, k9, kl, kg, h2, hfw, hC, hb, hb2]
      refine wp_draw_E ?_
      simp -implicitDefEqProofs (disch := omega) only [go_sem, seval, sp7, hel, ero, fro, hrn, callV_T at26, hc]
  · have hC := hC k1
    refine ⟨k1, ?_⟩
    simp -implicitDefEqProofs (disch := omega) only [go_sem, seval, dkv, rk] at hC hc
    refine Gf_start rfl rfl ?_
    simp -implicitDefEqProofs (disch := omega) only [go_sem, seval, sp7, dkv, hel, ero, fro, hrn, k5, k6, k7, k8, k9, kl, kg, h2, hfw, hC, ite_self]
    refine wp_draw_E ?_
    simp -implicitDefEqProofs (disch := omega) only [go_sem, seval, sp7, hel, ero, fro, hrn, callV_T at26, hc]
end Go.Vm.Ytclcadpmkkeaeaa
