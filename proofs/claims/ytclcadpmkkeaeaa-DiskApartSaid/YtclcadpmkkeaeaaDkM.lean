/- (seval) The disk and the document's, in the machine: something is done. -/
import Derived.Test.YtclcadpmkkeaeaaDkK
import Derived.Test.YtclcadpmkkeaeaaDkJ
set_option linter.unusedSectionVars false
set_option linter.unusedSimpArgs false
set_option linter.unusedVariables false
set_option maxHeartbeats 20000000
set_option maxRecDepth 10000
namespace Go.Vm.Ytclcadpmkkeaeaa
open Go.Proofs
def Pv (lv nv : V) (k2 : SK) (l : List DE) (lim : Int) (ch : Nat) : V := .agg [.opt (dkv lv lim ch false), nv, .sl k2 (sureL l).length (rows DF.v (sureL l)), .int .i64 lim, .sl .nil 0 [], .int .i64 (ch : Int), .bool false]
def NvL (nv : V) (l : List DE) : Prop := nv = .osl 3 (nowL l).length (rows DF.v (nowL l)) ∨ ∃ k, nv = .sl k (nowL l).length (rows DF.v (nowL l))
theorem begun_ok : Gf fns 6 [] = some (Pv (.sl .nil 0 []) (.sl .nil 0 []) .nil [] (-1) 0, []) := by
  have n := New_ok
  simp -implicitDefEqProofs (disch := omega) only [go_sem, seval, dkv] at n
  refine Gf_start rfl rfl ?_
  simp -implicitDefEqProofs (disch := omega) only [go_sem, seval, n, Pv, dkv]
  rfl
/-- The state fits. -/
structure Fit (l : List DE) (ch n : Nat) : Prop where
  srt : Srt DE.n l
  ok : OkE l
  nm : NmE l
  len : l.length ≤ 2 * n
  used : usedL l ≤ 50 * n
  ch : ch ≤ n
theorem sp7 (a b c d e f g h i j k l m : V) : splice [a, b, c, d, e, f, g] 1 [h, i, j, k, l, m] = [a, h, i, j, k, l, m] := rfl
theorem do_yes {lv nv : V} {k2 : SK} {l L : List DE} {N N2 S : List DF} (ho : OwL lv l) (hv : nv = .osl 3 N.length (rows DF.v N) ∨ ∃ k, nv = .sl k N.length (rows DF.v N)) (lim : Int) (ch : Nat) (hch : ch ≤ 900) (hl : l.length ≤ 900) (hN : N.length ≤ 900) (kd : Nat) (x t s : Tx) (m f1 f2 f3 : Int) (hk : kd ≤ 4)
    (hC : ∀ k, Gf fns 32 [.agg (rk (.sl k N.length (rows DF.v N)) (.sl k2 S.length (rows DF.v S)) lim ch), .agg [.int .i64 (kd : Int), .str x, .str t, .str (if (kd : Int) < 2 then fewT s else []), .int .i64 m]] = some (.tup [.agg (rk (.osl 3 N2.length (rows DF.v N2)) (.sl k2 S.length (rows DF.v S)) lim (ch + 1)), .int .i64 0], []))
    (hc : Gf fns 26 [.opt (dkv lv lim ch false), .agg [.int .i64 (kd : Int), .str x, .str t, .str s, .int .i64 m, .int .i64 f1, .int .i64 f2, .int .i64 f3]] = some (.int .i64 0, [.opt (dkv (.osl 6 L.length (rows DE.v L)) lim (ch + 1) false)])) :
    Gf fns 7 [.agg [.opt (dkv lv lim ch false), nv, .sl k2 S.length (rows DF.v S), .int .i64 lim, .sl .nil 0 [], .int .i64 (ch : Int), .bool false], .agg [.int .i64 (kd : Int), .str x, .str t, .str s, .int .i64 m, .int .i64 f1, .int .i64 f2, .int .i64 f3]] = some (.tup [.agg [.opt (dkv (.osl 6 L.length (rows DE.v L)) lim (ch + 1) false), .osl 3 N2.length (rows DF.v N2), .sl k2 S.length (rows DF.v S), .int .i64 lim, .sl .nil 0 [], .int .i64 ((ch + 1 : Nat) : Int), .bool false], .bool true], []) := by
  have hfw := few_ok s
  have hel := elen l
  have hel2 := elen L
  have hrn := flen N
  have hrn2 := flen N2
  have k5 : ¬ (kd : Int) = 5 := by omega
  have k6 : ¬ (kd : Int) = 6 := by omega
  have k7 : ¬ (kd : Int) = 7 := by omega
  have k8 : ¬ (kd : Int) = 8 := by omega
  have k9 : ¬ (kd : Int) = 9 := by omega
  have kl : ¬ (kd : Int) < 0 := by omega
  have kg : ¬ (4 : Int) < (kd : Int) := by omega
  obtain ⟨b, hb⟩ : ∃ b, ∀ d, hasRo (d + 1) (V.sl k2 S.length (rows DF.v S)) = b := ⟨hasRo 1 (V.sl k2 S.length (rows DF.v S)), fun d => by cases k2 <;> rfl⟩
  by_cases h2 : (kd : Int) < 2
  · simp only [h2, if_true] at hC
    rcases ho with rfl | ⟨rfl, rfl⟩ <;> rcases hv with rfl | ⟨k1, rfl⟩
    · have hC := hC .ro
      simp -implicitDefEqProofs (disch := omega) only [go_sem, seval, dkv, rk] at hC hc
      cases b
      all_goals
        refine Gf_start rfl rfl ?_
        simp -implicitDefEqProofs (disch := omega) only [go_sem, seval, sp7, dkv, hel, ero, fro, hrn, k5, k6, k7, k8, k9, kl, kg, h2, hfw, hC, hrn2, hb]
        refine wp_draw_E ?_
        simp -implicitDefEqProofs (disch := omega) only [go_sem, seval, sp7, hel, ero, fro, hrn, hrn2, callV_T at26, hc, hel2]
    · have hC := hC k1
      simp -implicitDefEqProofs (disch := omega) only [go_sem, seval, dkv, rk] at hC hc
      refine Gf_start rfl rfl ?_
      simp -implicitDefEqProofs (disch := omega) only [go_sem, seval, sp7, dkv, hel, ero, fro, hrn, k5, k6, k7, k8, k9, kl, kg, h2, hfw, hC, hrn2, ite_self]
      refine wp_draw_E ?_
      simp -implicitDefEqProofs (disch := omega) only [go_sem, seval, sp7, hel, ero, fro, hrn, hrn2, callV_T at26, hc, hel2]
    · have hC := hC .ro
      simp -implicitDefEqProofs (disch := omega) only [go_sem, seval, dkv, rk] at hC hc
      cases b
      all_goals
        refine Gf_start rfl rfl ?_
        simp -implicitDefEqProofs (disch := omega) only [go_sem, seval, sp7, dkv, hel, ero, fro, hrn, k5, k6, k7, k8, k9, kl, kg, h2, hfw, hC, hrn2, hb]
        refine wp_draw_E ?_
        simp -implicitDefEqProofs (disch := omega) only [go_sem, seval, sp7, hel, ero, fro, hrn, hrn2, callV_T at26, hc, hel2]
    · have hC := hC k1
      simp -implicitDefEqProofs (disch := omega) only [go_sem, seval, dkv, rk] at hC hc
      refine Gf_start rfl rfl ?_
      simp -implicitDefEqProofs (disch := omega) only [go_sem, seval, sp7, dkv, hel, ero, fro, hrn, k5, k6, k7, k8, k9, kl, kg, h2, hfw, hC, hrn2, ite_self]
      refine wp_draw_E ?_
      simp -implicitDefEqProofs (disch := omega) only [go_sem, seval, sp7, hel, ero, fro, hrn, hrn2, callV_T at26, hc, hel2]
  · simp only [h2, if_false] at hC
    rcases ho with rfl | ⟨rfl, rfl⟩ <;> rcases hv with rfl | ⟨k1, rfl⟩
    · have hC := hC .ro
      simp -implicitDefEqProofs (disch := omega) only [go_sem, seval, dkv, rk] at hC hc
      cases b
      all_goals
        refine Gf_start rfl rfl ?_
        simp -implicitDefEqProofs (disch := omega) only [go_sem, seval, sp7, dkv, hel, ero, fro, hrn, k5, k6, k7, k8, k9, kl, kg, h2, hfw, hC, hrn2, hb]
        refine wp_draw_E ?_
        simp -implicitDefEqProofs (disch := omega) only [go_sem, seval, sp7, hel, ero, fro, hrn, hrn2, callV_T at26, hc, hel2]
    · have hC := hC k1
      simp -implicitDefEqProofs (disch := omega) only [go_sem, seval, dkv, rk] at hC hc
      refine Gf_start rfl rfl ?_
      simp -implicitDefEqProofs (disch := omega) only [go_sem, seval, sp7, dkv, hel, ero, fro, hrn, k5, k6, k7, k8, k9, kl, kg, h2, hfw, hC, hrn2, ite_self]
      refine wp_draw_E ?_
      simp -implicitDefEqProofs (disch := omega) only [go_sem, seval, sp7, hel, ero, fro, hrn, hrn2, callV_T at26, hc, hel2]
    · have hC := hC .ro
      simp -implicitDefEqProofs (disch := omega) only [go_sem, seval, dkv, rk] at hC hc
      cases b
      all_goals
        refine Gf_start rfl rfl ?_
        simp -implicitDefEqProofs (disch := omega) only [go_sem, seval, sp7, dkv, hel, ero, fro, hrn, k5, k6, k7, k8, k9, kl, kg, h2, hfw, hC, hrn2, hb]
        refine wp_draw_E ?_
        simp -implicitDefEqProofs (disch := omega) only [go_sem, seval, sp7, hel, ero, fro, hrn, hrn2, callV_T at26, hc, hel2]
    · have hC := hC k1
      simp -implicitDefEqProofs (disch := omega) only [go_sem, seval, dkv, rk] at hC hc
      refine Gf_start rfl rfl ?_
      simp -implicitDefEqProofs (disch := omega) only [go_sem, seval, sp7, dkv, hel, ero, fro, hrn, k5, k6, k7, k8, k9, kl, kg, h2, hfw, hC, hrn2, ite_self]
      refine wp_draw_E ?_
      simp -implicitDefEqProofs (disch := omega) only [go_sem, seval, sp7, hel, ero, fro, hrn, hrn2, callV_T at26, hc, hel2]
end Go.Vm.Ytclcadpmkkeaeaa
