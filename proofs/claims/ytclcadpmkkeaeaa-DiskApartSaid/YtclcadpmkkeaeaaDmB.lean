/- (seval) The disk and the document's, in the machine: all made sure. -/
import Derived.Test.YtclcadpmkkeaeaaDkM
set_option linter.unusedSectionVars false
set_option linter.unusedSimpArgs false
set_option linter.unusedVariables false
set_option maxHeartbeats 40000000
set_option maxRecDepth 10000
namespace Go.Vm.Ytclcadpmkkeaeaa
open Go.Proofs
theorem do_syn {lv lv2 nv : V} {k2 : SK} {l L : List DE} {N N2 S : List DF} (ho : OwL lv l) (ho2 : OwL lv2 L) (hv : nv = .osl 3 N.length (rows DF.v N) ∨ ∃ k, nv = .sl k N.length (rows DF.v N)) (lim : Int) (ch : Nat) (hch : ch ≤ 900) (hl : l.length ≤ 900) (hN : N.length ≤ 900) (x t s : Tx) (m f1 f2 f3 : Int)
    (hC : ∀ k, Gf fns 9 [.agg (rk (.sl k N.length (rows DF.v N)) (.sl k2 S.length (rows DF.v S)) lim ch)] = some (.tup [.agg (rk (.sl .ro N2.length (rows DF.v N2)) (.sl .ro N2.length (rows DF.v N2)) lim ch), .int .i64 0], []))
    (hc : Gf fns 8 [.opt (dkv lv lim ch false)] = some (.int .i64 0, [.opt (dkv lv2 lim ch false)])) :
    Gf fns 7 [.agg [.opt (dkv lv lim ch false), nv, .sl k2 S.length (rows DF.v S), .int .i64 lim, .sl .nil 0 [], .int .i64 (ch : Int), .bool false], .agg [.int .i64 5, .str x, .str t, .str s, .int .i64 m, .int .i64 f1, .int .i64 f2, .int .i64 f3]] = some (.tup [.agg [.opt (dkv lv2 lim ch false), .sl .ro N2.length (rows DF.v N2), .sl .ro N2.length (rows DF.v N2), .int .i64 lim, .sl .nil 0 [], .int .i64 (ch : Int), .bool false], .bool true], []) := by
  have hel := elen l
  have hel2 := elen L
  have hrn := flen N
  have hrn2 := flen N2
  obtain ⟨b, hb⟩ : ∃ b, ∀ d, hasRo (d + 1) (V.sl .ro N2.length (rows DF.v N2)) = b := ⟨hasRo 1 (V.sl .ro N2.length (rows DF.v N2)), fun d => rfl⟩
  rcases ho with rfl | ⟨rfl, rfl⟩ <;> rcases ho2 with rfl | ⟨rfl, rfl⟩ <;> rcases hv with rfl | ⟨k1, rfl⟩
  · have hC := hC .ro
    simp -implicitDefEqProofs (disch := omega) only [go_sem, seval, dkv, rk] at hC hc
    cases b
    all_goals
      refine Gf_start rfl rfl ?_
      simp -implicitDefEqProofs (disch := omega) only [go_sem, seval, sp7, dkv, hel, ero, fro, hrn, hrn2, hC, hb]
      refine wp_draw_E ?_
      simp -implicitDefEqProofs (disch := omega) only [go_sem, seval, sp7, hel, hel2, ero, fro, hrn, hrn2, callV_T at8, hc]
  · have hC := hC k1
    simp -implicitDefEqProofs (disch := omega) only [go_sem, seval, dkv, rk] at hC hc
    refine Gf_start rfl rfl ?_
    simp -implicitDefEqProofs (disch := omega) only [go_sem, seval, sp7, dkv, hel, ero, fro, hrn, hrn2, hC, ite_self]
    refine wp_draw_E ?_
    simp -implicitDefEqProofs (disch := omega) only [go_sem, seval, sp7, hel, hel2, ero, fro, hrn, hrn2, callV_T at8, hc]
  · have hC := hC .ro
    simp -implicitDefEqProofs (disch := omega) only [go_sem, seval, dkv, rk] at hC hc
    cases b
    all_goals
      refine Gf_start rfl rfl ?_
      simp -implicitDefEqProofs (disch := omega) only [go_sem, seval, sp7, dkv, hel, ero, fro, hrn, hrn2, hC, hb]
      refine wp_draw_E ?_
      simp -implicitDefEqProofs (disch := omega) only [go_sem, seval, sp7, hel, hel2, ero, fro, hrn, hrn2, callV_T at8, hc]
  · have hC := hC k1
    simp -implicitDefEqProofs (disch := omega) only [go_sem, seval, dkv, rk] at hC hc
    refine Gf_start rfl rfl ?_
    simp -implicitDefEqProofs (disch := omega) only [go_sem, seval, sp7, dkv, hel, ero, fro, hrn, hrn2, hC, ite_self]
    refine wp_draw_E ?_
    simp -implicitDefEqProofs (disch := omega) only [go_sem, seval, sp7, hel, hel2, ero, fro, hrn, hrn2, callV_T at8, hc]
  · have hC := hC .ro
    simp -implicitDefEqProofs (disch := omega) only [go_sem, seval, dkv, rk] at hC hc
    cases b
    all_goals
      refine Gf_start rfl rfl ?_
      simp -implicitDefEqProofs (disch := omega) only [go_sem, seval, sp7, dkv, hel, ero, fro, hrn, hrn2, hC, hb]
      refine wp_draw_E ?_
      simp -implicitDefEqProofs (disch := omega) only [go_sem, seval, sp7, hel, hel2, ero, fro, hrn, hrn2, callV_T at8, hc]
  · have hC := hC k1
    simp -implicitDefEqProofs (disch := omega) only [go_sem, seval, dkv, rk] at hC hc
    refine Gf_start rfl rfl ?_
    simp -implicitDefEqProofs (disch := omega) only [go_sem, seval, sp7, dkv, hel, ero, fro, hrn, hrn2, hC, ite_self]
    refine wp_draw_E ?_
    simp -implicitDefEqProofs (disch := omega) only [go_sem, seval, sp7, hel, hel2, ero, fro, hrn, hrn2, callV_T at8, hc]
  · have hC := hC .ro
    simp -implicitDefEqProofs (disch := omega) only [go_sem, seval, dkv, rk] at hC hc
    cases b
    all_goals
      refine Gf_start rfl rfl ?_
      simp -implicitDefEqProofs (disch := omega) only [go_sem, seval, sp7, dkv, hel, ero, fro, hrn, hrn2, hC, hb]
      refine wp_draw_E ?_
      simp -implicitDefEqProofs (disch := omega) only [go_sem, seval, sp7, hel, hel2, ero, fro, hrn, hrn2, callV_T at8, hc]
  · have hC := hC k1
    simp -implicitDefEqProofs (disch := omega) only [go_sem, seval, dkv, rk] at hC hc
    refine Gf_start rfl rfl ?_
    simp -implicitDefEqProofs (disch := omega) only [go_sem, seval, sp7, dkv, hel, ero, fro, hrn, hrn2, hC, ite_self]
    refine wp_draw_E ?_
    simp -implicitDefEqProofs (disch := omega) only [go_sem, seval, sp7, hel, hel2, ero, fro, hrn, hrn2, callV_T at8, hc]
end Go.Vm.Ytclcadpmkkeaeaa
/- (seval) The disk and the document's, in the machine: room. -/
namespace Go.Vm.Ytclcadpmkkeaeaa
open Go.Proofs
theorem do_room (k2 : SK) (n : Nat) (hn : n ≤ 127) : Gf fns 7 [Pv (.sl .nil 0 []) (.sl .nil 0 []) .nil [] (-1) 0, .agg [.int .i64 8, .str [], .str [], .str [], .int .i64 (n : Int), .int .i64 0, .int .i64 0, .int .i64 0]] = some (.tup [Pv (.sl .nil 0 []) (.sl .nil 0 []) .nil [] (n : Int) 0, .bool true], []) := by
  have r := Room_ok (lv := .sl .nil 0 []) (l := []) (.inr ⟨rfl, rfl⟩) (-1) (n : Int) 0
  have e : (sureL []).length = 0 := rfl
  have e2 : rows DF.v (sureL []) = [] := rfl
  simp -implicitDefEqProofs (disch := omega) only [go_sem, seval, dkv] at r
  refine Gf_start rfl rfl ?_
  simp -implicitDefEqProofs (disch := omega) only [go_sem, seval, Pv, dkv, e, e2, callr18, r]
end Go.Vm.Ytclcadpmkkeaeaa
