/- (seval) The disk, in the machine: Append. -/
import Derived.Test.YtclcadpmkkeaeaaDkG
set_option linter.unusedSectionVars false
set_option linter.unusedSimpArgs false
set_option linter.unusedVariables false
set_option maxHeartbeats 40000000
set_option maxRecDepth 10000
namespace Go.Vm.Ytclcadpmkkeaeaa
open Go.Proofs
section
variable {lv : V} {l : List DE} (ho : OwL lv l) (lim : Int) (ch : Nat) (hs : Srt DE.n l) (hl : l.length ≤ 900) (hu : usedL l ≤ 100000) (hch : ch ≤ 900) (hlim : -1 ≤ lim ∧ lim ≤ 1000)
include ho hs hl hu hch hlim
theorem Append_ok (n s : Tx) (hn : n.length ≤ 140737488355328) (hsl : s.length ≤ 50) (t : Tx) (m : Int) : Gf fns 37 [.opt (dkv lv lim ch false), .str n, .str s] = some (stepV lv l lim ch ⟨0, n, t, s, m⟩) := by
  have hel := elen l
  have hfs := faceS_le l n
  obtain ⟨k, hk⟩ := ho.frm
  cases hN : nameB n
  · have hc : opC l n false = 110 := by unfold opC; rw [if_pos hN]
    have o := Open_err k l lim ch n false hs (by omega) hn (by rw [hc]; decide)
    rw [hc] at o
    have e : stepV lv l lim ch ⟨0, n, t, s, m⟩ = (.int .i64 110, [.opt (dkv lv lim ch false)]) := by simp [stepV, codeL, codeK, hN]
    rw [e]
    rcases hk with ⟨rfl, rfl⟩ | ⟨rfl, rfl, rfl⟩
    all_goals
      simp -implicitDefEqProofs (disch := omega) only [go_sem, seval, dkv, rows_nil] at o
      refine Gf_start rfl rfl ?_
      simp -implicitDefEqProofs (disch := omega) only [go_sem, seval, dkv, hel, ero, o]
  · have hc : opC l n false = 0 := by simp [opC, hN]
    have o := Open_fine k l lim ch n false hs (by omega) hn hc
    have g := grow_ok ho lim ch n (faceA l n) (faceS l n) (faceS l n ++ s) hs (by omega) hu (by omega) hlim (by omega) (by simp; omega)
    have hm : (((faceS l n ++ s).length : Nat) : Int) - ((faceS l n).length : Int) = (s.length : Int) := by simp; omega
    rw [hm] at g
    have e : stepV lv l lim ch ⟨0, n, t, s, m⟩ = if fullB lim (usedL l) (s.length : Int) = true then (.int .i64 111, [.opt (dkv lv lim ch false)]) else (.int .i64 0, [.opt (dkv (.osl 6 (layL l n true (faceS l n ++ s) 1).length (rows DE.v (layL l n true (faceS l n ++ s) 1))) lim (ch + 1) false)]) := by
      cases hf : fullB lim (usedL l) (s.length : Int) <;> simp [stepV, codeL, codeK, hN, chgL, hf]
    rw [e]
    have hL := elen (layL l n true (faceS l n ++ s) 1)
    generalize layL l n true (faceS l n ++ s) 1 = L at *
    generalize faceS l n = S at *
    generalize faceA l n = A at *
    cases hf : fullB lim (usedL l) (s.length : Int)
    · rw [hf] at g
      simp only [Bool.false_eq_true, if_false] at g ⊢
      rcases hk with ⟨rfl, rfl⟩ | ⟨rfl, rfl, rfl⟩
      all_goals
        simp -implicitDefEqProofs (disch := omega) only [go_sem, seval, dkv, rows_nil] at o g
        refine Gf_start rfl rfl ?_
        simp -implicitDefEqProofs (disch := omega) only [go_sem, seval, dkv, hel, ero, o]
        simp -implicitDefEqProofs (disch := omega) only [go_sem, seval, callr40, g, hel, ero, hL]
    · rw [hf] at g
      simp only [if_true] at g ⊢
      rcases hk with ⟨rfl, rfl⟩ | ⟨rfl, rfl, rfl⟩
      all_goals
        simp -implicitDefEqProofs (disch := omega) only [go_sem, seval, dkv, rows_nil] at o g
        refine Gf_start rfl rfl ?_
        simp -implicitDefEqProofs (disch := omega) only [go_sem, seval, dkv, hel, ero, o]
        simp -implicitDefEqProofs (disch := omega) only [go_sem, seval, callr40, g, hel, ero]
end
end Go.Vm.Ytclcadpmkkeaeaa
/- (seval) The disk, in the machine: Write. -/
namespace Go.Vm.Ytclcadpmkkeaeaa
open Go.Proofs
section
variable {lv : V} {l : List DE} (ho : OwL lv l) (lim : Int) (ch : Nat) (hs : Srt DE.n l) (hl : l.length ≤ 900) (hu : usedL l ≤ 100000) (hch : ch ≤ 900) (hlim : -1 ≤ lim ∧ lim ≤ 1000)
include ho hs hl hu hch hlim
theorem Write_ok (n s : Tx) (hn : n.length ≤ 140737488355328) (hsl : s.length ≤ 50) (t : Tx) (m : Int) : Gf fns 21 [.opt (dkv lv lim ch false), .str n, .str s] = some (stepV lv l lim ch ⟨1, n, t, s, m⟩) := by
  have hel := elen l
  have hfs := faceS_le l n
  obtain ⟨k, hk⟩ := ho.frm
  cases hN : nameB n
  · have hc : opC l n false = 110 := by unfold opC; rw [if_pos hN]
    have o := Open_err k l lim ch n false hs (by omega) hn (by rw [hc]; decide)
    rw [hc] at o
    have e : stepV lv l lim ch ⟨1, n, t, s, m⟩ = (.int .i64 110, [.opt (dkv lv lim ch false)]) := by simp [stepV, codeL, codeK, hN]
    rw [e]
    rcases hk with ⟨rfl, rfl⟩ | ⟨rfl, rfl, rfl⟩
    all_goals
      simp -implicitDefEqProofs (disch := omega) only [go_sem, seval, dkv, rows_nil] at o
      refine Gf_start rfl rfl ?_
      simp -implicitDefEqProofs (disch := omega) only [go_sem, seval, dkv, hel, ero, o]
  · have hc : opC l n false = 0 := by simp [opC, hN]
    have o := Open_fine k l lim ch n false hs (by omega) hn hc
    have g := grow_ok ho lim ch n (faceA l n) (faceS l n) s hs (by omega) hu (by omega) hlim (by omega) (by omega)
    have e : stepV lv l lim ch ⟨1, n, t, s, m⟩ = if fullB lim (usedL l) ((s.length : Int) - ((faceS l n).length : Int)) = true then (.int .i64 111, [.opt (dkv lv lim ch false)]) else (.int .i64 0, [.opt (dkv (.osl 6 (layL l n true s 1).length (rows DE.v (layL l n true s 1))) lim (ch + 1) false)]) := by
      cases hf : fullB lim (usedL l) ((s.length : Int) - ((faceS l n).length : Int)) <;> simp [stepV, codeL, codeK, hN, chgL, hf]
    rw [e]
    have hL := elen (layL l n true s 1)
    generalize layL l n true s 1 = L at *
    generalize faceS l n = S at *
    generalize faceA l n = A at *
    cases hf : fullB lim (usedL l) ((s.length : Int) - (S.length : Int))
    · rw [hf] at g
      simp only [Bool.false_eq_true, if_false] at g ⊢
      rcases hk with ⟨rfl, rfl⟩ | ⟨rfl, rfl, rfl⟩
      all_goals
        simp -implicitDefEqProofs (disch := omega) only [go_sem, seval, dkv, rows_nil] at o g
        refine Gf_start rfl rfl ?_
        simp -implicitDefEqProofs (disch := omega) only [go_sem, seval, dkv, hel, ero, o]
        simp -implicitDefEqProofs (disch := omega) only [go_sem, seval, callr40, g, hel, ero, hL]
    · rw [hf] at g
      simp only [if_true] at g ⊢
      rcases hk with ⟨rfl, rfl⟩ | ⟨rfl, rfl, rfl⟩
      all_goals
        simp -implicitDefEqProofs (disch := omega) only [go_sem, seval, dkv, rows_nil] at o g
        refine Gf_start rfl rfl ?_
        simp -implicitDefEqProofs (disch := omega) only [go_sem, seval, dkv, hel, ero, o]
        simp -implicitDefEqProofs (disch := omega) only [go_sem, seval, callr40, g, hel, ero]
end
end Go.Vm.Ytclcadpmkkeaeaa
