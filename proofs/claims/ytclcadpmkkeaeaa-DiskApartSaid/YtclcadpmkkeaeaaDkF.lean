/- (seval) The disk, in the machine: changes. -/
import Derived.Test.YtclcadpmkkeaeaaDkD
set_option linter.unusedSectionVars false
set_option linter.unusedSimpArgs false
set_option linter.unusedVariables false
set_option maxHeartbeats 2000000
set_option maxRecDepth 10000
namespace Go.Vm
def codeL (nm : Tx → Bool) (l : List DE) (lim : Int) (c : Ch) : Int := codeK nm (faceA l c.n) (faceS l c.n) (usedL l) lim c
def chgL (l : List DE) (c : Ch) : List DE :=
  match c.k with
  | 0 => layL l c.n true (faceS l c.n ++ c.s) 1
  | 1 => layL l c.n true c.s 1
  | 2 => layL (layL l c.t true (faceS l c.n) 2) c.n false [] 2
  | 3 => layL l c.n false [] 2
  | _ => layL l c.n true ((faceS l c.n).take c.m.toNat) 2
end Go.Vm
namespace Go.Vm.Ytclcadpmkkeaeaa
open Go.Proofs
theorem grow_ok {lv : V} {l : List DE} (ho : OwL lv l) (lim : Int) (ch : Nat) (x : Tx) (b : Bool) (was s : Tx) (hs : Srt DE.n l) (hl : l.length ≤ 1000) (hu : usedL l ≤ 100000) (hch : ch ≤ 999) (hlim : -1 ≤ lim ∧ lim ≤ 1000) (hw : was.length ≤ 1000000) (hsl : s.length ≤ 1000000) :
    Gf fns 40 [.opt (dkv lv lim ch false), .str x, .agg [.bool b, .str was], .str s] = if fullB lim (usedL l) ((s.length : Int) - (was.length : Int)) = true then some (.int .i64 111, [.opt (dkv lv lim ch false)]) else some (.int .i64 0, [.opt (dkv (.osl 6 (layL l x true s 1).length (rows DE.v (layL l x true s 1))) lim (ch + 1) false)]) := by
  have g := goes_ok ho lim ch (by omega)
  have la := Lay_ok ho lim (ch + 1) x true s 1 hs hl
  have hel := elen l
  rw [show ((1 : Nat) : Int) = 1 from rfl] at la
  have hU : ∃ k, (∀ c, Gf fns 17 [.pt (dkv (.sl k l.length (rows DE.v l)) lim c false) 0] = some (.int .i64 (usedL l : Int), [])) ∧ (lv = .osl 6 l.length (rows DE.v l) ∧ k = .ro ∨ lv = .sl .nil 0 [] ∧ l = [] ∧ k = .nil) := by
    rcases ho with h | ⟨h, h2⟩
    · exact ⟨.ro, fun c => Used_ok .ro l lim c false (by omega) (by omega), .inl ⟨h, rfl⟩⟩
    · exact ⟨.nil, fun c => Used_ok .nil l lim c false (by omega) (by omega), .inr ⟨h, h2, rfl⟩⟩
  obtain ⟨k, hU, hk⟩ := hU
  have u := hU ch
  clear hU ho
  generalize usedL l = U at *
  have hL := elen (layL l x true s 1)
  generalize layL l x true s 1 = L at *
  by_cases hf : fullB lim U ((s.length : Int) - (was.length : Int)) = true
  · rw [if_pos hf]
    unfold fullB at hf
    simp only [Bool.and_eq_true, decide_eq_true_eq] at hf
    obtain ⟨h1, h2, h3⟩ := hf
    rcases hk with ⟨rfl, rfl⟩ | ⟨rfl, rfl, rfl⟩
    · simp -implicitDefEqProofs (disch := omega) only [go_sem, seval, dkv] at g la u
      refine Gf_start rfl rfl ?_
      simp -implicitDefEqProofs (disch := omega) only [go_sem, seval, dkv, hel, ero]
      refine wp_draw_E ?_
      simp -implicitDefEqProofs (disch := omega) only [go_sem, seval, u, h1, h2, h3, hel, ero]
    · simp -implicitDefEqProofs (disch := omega) only [go_sem, seval, dkv, rows_nil] at g la u
      refine Gf_start rfl rfl ?_
      simp -implicitDefEqProofs (disch := omega) only [go_sem, seval, dkv]
      refine wp_draw_E ?_
      simp -implicitDefEqProofs (disch := omega) only [go_sem, seval, u, h1, h2, h3]
  · rw [if_neg hf]
    unfold fullB at hf
    simp only [Bool.and_eq_true, decide_eq_true_eq] at hf
    have hc : ¬ (0 : Int) < (s.length : Int) - (was.length : Int) ∨ ((0 : Int) < (s.length : Int) - (was.length : Int) ∧ ¬ 0 ≤ lim) ∨ ((0 : Int) < (s.length : Int) - (was.length : Int) ∧ 0 ≤ lim ∧ ¬ lim - (U : Int) < (s.length : Int) - (was.length : Int)) := by omega
    clear hf
    rcases hk with ⟨rfl, rfl⟩ | ⟨rfl, rfl, rfl⟩
    · simp -implicitDefEqProofs (disch := omega) only [go_sem, seval, dkv] at g la u
      rcases hc with h1 | ⟨h1, h2⟩ | ⟨h1, h2, h3⟩
      · refine Gf_start rfl rfl ?_
        simp -implicitDefEqProofs (disch := omega) only [go_sem, seval, dkv, hel, ero]
        refine wp_draw_E ?_
        simp -implicitDefEqProofs (disch := omega) only [go_sem, seval, h1]
        simp -implicitDefEqProofs (disch := omega) only [go_sem, seval, callr51, g, hel, ero]
        simp -implicitDefEqProofs (disch := omega) only [go_sem, seval, callr52, la, hL, ero]
      · refine Gf_start rfl rfl ?_
        simp -implicitDefEqProofs (disch := omega) only [go_sem, seval, dkv, hel, ero]
        refine wp_draw_E ?_
        simp -implicitDefEqProofs (disch := omega) only [go_sem, seval, u, h1, h2, hel, ero]
        simp -implicitDefEqProofs (disch := omega) only [go_sem, seval, callr51, g, hel, ero]
        simp -implicitDefEqProofs (disch := omega) only [go_sem, seval, callr52, la, hL, ero]
      · refine Gf_start rfl rfl ?_
        simp -implicitDefEqProofs (disch := omega) only [go_sem, seval, dkv, hel, ero]
        refine wp_draw_E ?_
        simp -implicitDefEqProofs (disch := omega) only [go_sem, seval, u, h1, h2, h3, hel, ero]
        simp -implicitDefEqProofs (disch := omega) only [go_sem, seval, callr51, g, hel, ero]
        simp -implicitDefEqProofs (disch := omega) only [go_sem, seval, callr52, la, hL, ero]
    · simp -implicitDefEqProofs (disch := omega) only [go_sem, seval, dkv, rows_nil] at g la u
      rcases hc with h1 | ⟨h1, h2⟩ | ⟨h1, h2, h3⟩
      · refine Gf_start rfl rfl ?_
        simp -implicitDefEqProofs (disch := omega) only [go_sem, seval, dkv, rows_nil]
        refine wp_draw_E ?_
        simp -implicitDefEqProofs (disch := omega) only [go_sem, seval, h1]
        simp -implicitDefEqProofs (disch := omega) only [go_sem, seval, callr51, g, hel, ero]
        simp -implicitDefEqProofs (disch := omega) only [go_sem, seval, callr52, la, hL, ero]
      · refine Gf_start rfl rfl ?_
        simp -implicitDefEqProofs (disch := omega) only [go_sem, seval, dkv, rows_nil]
        refine wp_draw_E ?_
        simp -implicitDefEqProofs (disch := omega) only [go_sem, seval, u, h1, h2]
        simp -implicitDefEqProofs (disch := omega) only [go_sem, seval, callr51, g, hel, ero]
        simp -implicitDefEqProofs (disch := omega) only [go_sem, seval, callr52, la, hL, ero]
      · refine Gf_start rfl rfl ?_
        simp -implicitDefEqProofs (disch := omega) only [go_sem, seval, dkv, rows_nil]
        refine wp_draw_E ?_
        simp -implicitDefEqProofs (disch := omega) only [go_sem, seval, u, h1, h2, h3]
        simp -implicitDefEqProofs (disch := omega) only [go_sem, seval, callr51, g, hel, ero]
        simp -implicitDefEqProofs (disch := omega) only [go_sem, seval, callr52, la, hL, ero]
end Go.Vm.Ytclcadpmkkeaeaa
