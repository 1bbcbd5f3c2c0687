/- (seval) The disk, in the machine: Remove. -/
import Derived.Test.YtclcadpmkkeaeaaDkG
set_option linter.unusedSectionVars false
set_option linter.unusedSimpArgs false
set_option linter.unusedVariables false
set_option maxHeartbeats 40000000
set_option maxRecDepth 10000
namespace Go.Vm.Ytclcadpmkkeaeaa
open Go.Proofs
section
variable {lv : V} {l : List DE} (ho : OwL lv l) (lim : Int) (ch : Nat) (hs : Srt DE.n l) (hl : l.length ≤ 900) (hu : usedL l ≤ 100000) (hch : ch ≤ 900) (hlim : -1 ≤ lim ∧ lim ≤ 1000)
include ho hs hl hch
theorem Remove_ok (n : Tx) (hn : n.length ≤ 140737488355328) (s t : Tx) (m : Int) : Gf fns 43 [.opt (dkv lv lim ch false), .str n] = some (stepV lv l lim ch ⟨3, n, t, s, m⟩) := by
  have hel := elen l
  obtain ⟨k, hk⟩ := ho.frm
  by_cases hc : opC l n true = 0
  · have o := Open_fine k l lim ch n true hs (by omega) hn hc
    have g := goes_ok ho lim ch (by omega)
    have la := Lay_ok ho lim (ch + 1) n false [] 2 hs (by omega)
    rw [show ((2 : Nat) : Int) = 2 from rfl] at la
    have hA : nameB n = true ∧ faceA l n = true := by
      unfold opC at hc
      cases h1 : nameB n <;> cases h2 : faceA l n <;> simp [h1, h2] at hc ⊢
    have e : stepV lv l lim ch ⟨3, n, t, s, m⟩ = (.int .i64 0, [.opt (dkv (.osl 6 (layL l n false [] 2).length (rows DE.v (layL l n false [] 2))) lim (ch + 1) false)]) := by simp [stepV, codeL, codeK, chgL, hA.1, hA.2]
    rw [e]
    have hL := elen (layL l n false [] 2)
    generalize layL l n false [] 2 = L at *
    generalize faceS l n = S at *
    generalize faceA l n = A at *
    rcases hk with ⟨rfl, rfl⟩ | ⟨rfl, rfl, rfl⟩
    all_goals
      simp -implicitDefEqProofs (disch := omega) only [go_sem, seval, dkv, rows_nil] at o g la
      refine Gf_start rfl rfl ?_
      simp -implicitDefEqProofs (disch := omega) only [go_sem, seval, dkv, hel, ero, o]
      simp -implicitDefEqProofs (disch := omega) only [go_sem, seval, callr51, g, hel, ero]
      simp -implicitDefEqProofs (disch := omega) only [go_sem, seval, callr52, la, hL, ero]
  · have o := Open_err k l lim ch n true hs (by omega) hn hc
    have e : stepV lv l lim ch ⟨3, n, t, s, m⟩ = (.int .i64 (opC l n true), [.opt (dkv lv lim ch false)]) := by
      unfold opC at hc ⊢
      cases h1 : nameB n <;> cases h2 : faceA l n <;> simp [h1, h2, stepV, codeL, codeK] at hc ⊢
    rw [e]
    generalize opC l n true = q at *
    rcases hk with ⟨rfl, rfl⟩ | ⟨rfl, rfl, rfl⟩
    all_goals
      simp -implicitDefEqProofs (disch := omega) only [go_sem, seval, dkv, rows_nil] at o
      refine Gf_start rfl rfl ?_
      simp -implicitDefEqProofs (disch := omega) only [go_sem, seval, dkv, hel, ero, o, hc]
end
end Go.Vm.Ytclcadpmkkeaeaa
/- (seval) The disk, in the machine: Truncate. -/
namespace Go.Vm.Ytclcadpmkkeaeaa
open Go.Proofs
section
variable {lv : V} {l : List DE} (ho : OwL lv l) (lim : Int) (ch : Nat) (hs : Srt DE.n l) (hl : l.length ≤ 900) (hu : usedL l ≤ 100000) (hch : ch ≤ 900) (hlim : -1 ≤ lim ∧ lim ≤ 1000)
include ho hs hl hch hu
theorem Truncate_ok (n : Tx) (hn : n.length ≤ 140737488355328) (s t : Tx) (m : Int) : Gf fns 44 [.opt (dkv lv lim ch false), .str n, .int .i64 m] = some (stepV lv l lim ch ⟨4, n, t, s, m⟩) := by
  have hel := elen l
  have hfs := faceS_le l n
  obtain ⟨k, hk⟩ := ho.frm
  by_cases hc : opC l n true = 0
  · have o := Open_fine k l lim ch n true hs (by omega) hn hc
    have hA : nameB n = true ∧ faceA l n = true := by
      unfold opC at hc
      cases h1 : nameB n <;> cases h2 : faceA l n <;> simp [h1, h2] at hc ⊢
    by_cases h1 : m < 0
    · have e : stepV lv l lim ch ⟨4, n, t, s, m⟩ = (.int .i64 1, [.opt (dkv lv lim ch false)]) := by simp [stepV, codeL, codeK, chgL, hA.1, hA.2, h1]
      rw [e]
      generalize faceS l n = S at *
      generalize faceA l n = A at *
      rcases hk with ⟨rfl, rfl⟩ | ⟨rfl, rfl, rfl⟩
      all_goals
        simp -implicitDefEqProofs (disch := omega) only [go_sem, seval, dkv, rows_nil] at o
        refine Gf_start rfl rfl ?_
        simp -implicitDefEqProofs (disch := omega) only [go_sem, seval, dkv, hel, ero, o, h1]
    · by_cases h2 : ((faceS l n).length : Int) < m
      · have e : stepV lv l lim ch ⟨4, n, t, s, m⟩ = (.int .i64 1, [.opt (dkv lv lim ch false)]) := by simp [stepV, codeL, codeK, chgL, hA.1, hA.2, h1, h2]
        rw [e]
        generalize faceS l n = S at *
        generalize faceA l n = A at *
        rcases hk with ⟨rfl, rfl⟩ | ⟨rfl, rfl, rfl⟩
        all_goals
          simp -implicitDefEqProofs (disch := omega) only [go_sem, seval, dkv, rows_nil] at o
          refine Gf_start rfl rfl ?_
          simp -implicitDefEqProofs (disch := omega) only [go_sem, seval, dkv, hel, ero, o, h1, h2]
      · obtain ⟨p, rfl⟩ : ∃ p : Nat, m = (p : Int) := ⟨m.toNat, by omega⟩
        have e : stepV lv l lim ch ⟨4, n, t, s, (p : Int)⟩ = (.int .i64 0, [.opt (dkv (.osl 6 (layL l n true ((faceS l n).take p) 2).length (rows DE.v (layL l n true ((faceS l n).take p) 2))) lim (ch + 1) false)]) := by
          simp [stepV, codeL, codeK, chgL, hA.1, hA.2, h1, h2]
        rw [e]
        have g := goes_ok ho lim ch (by omega)
        have la := Lay_ok ho lim (ch + 1) n true ((faceS l n).take p) 2 hs (by omega)
        rw [show ((2 : Nat) : Int) = 2 from rfl] at la
        have hp : p ≤ (faceS l n).length := by omega
        have hL := elen (layL l n true ((faceS l n).take p) 2)
        generalize layL l n true ((faceS l n).take p) 2 = L at *
        generalize faceS l n = S at *
        generalize faceA l n = A at *
        rcases hk with ⟨rfl, rfl⟩ | ⟨rfl, rfl, rfl⟩
        all_goals
          simp -implicitDefEqProofs (disch := omega) only [go_sem, seval, dkv, rows_nil] at o g la
          refine Gf_start rfl rfl ?_
          simp -implicitDefEqProofs (disch := omega) only [go_sem, seval, dkv, hel, ero, o, h1, h2]
          simp -implicitDefEqProofs (disch := omega) only [go_sem, seval, callr51, g, hel, ero]
          simp -implicitDefEqProofs (disch := omega) only [go_sem, seval, callr52, la, hL, ero]
  · have o := Open_err k l lim ch n true hs (by omega) hn hc
    have e : stepV lv l lim ch ⟨4, n, t, s, m⟩ = (.int .i64 (opC l n true), [.opt (dkv lv lim ch false)]) := by
      unfold opC at hc ⊢
      cases h1 : nameB n <;> cases h2 : faceA l n <;> simp [h1, h2, stepV, codeL, codeK] at hc ⊢
    rw [e]
    generalize opC l n true = q at *
    rcases hk with ⟨rfl, rfl⟩ | ⟨rfl, rfl, rfl⟩
    all_goals
      simp -implicitDefEqProofs (disch := omega) only [go_sem, seval, dkv, rows_nil] at o
      refine Gf_start rfl rfl ?_
      simp -implicitDefEqProofs (disch := omega) only [go_sem, seval, dkv, hel, ero, o, hc]
end
end Go.Vm.Ytclcadpmkkeaeaa
