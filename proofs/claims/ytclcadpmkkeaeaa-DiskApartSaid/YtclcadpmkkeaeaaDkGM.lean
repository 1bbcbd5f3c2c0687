/- (seval) The disk, in the machine: Move. -/
import Derived.Test.YtclcadpmkkeaeaaDkG
set_option linter.unusedSectionVars false
set_option linter.unusedSimpArgs false
set_option linter.unusedVariables false
set_option maxHeartbeats 2000000
set_option maxRecDepth 10000
namespace Go.Vm.Ytclcadpmkkeaeaa
open Go.Proofs
section
variable {lv : V} {l : List DE} (ho : OwL lv l) (lim : Int) (ch : Nat) (hs : Srt DE.n l) (hl : l.length ≤ 900) (hu : usedL l ≤ 100000) (hch : ch ≤ 900) (hlim : -1 ≤ lim ∧ lim ≤ 1000)
include ho hs hl hch hu
theorem Move_ok (n t : Tx) (hn : n.length ≤ 140737488355328) (ht : t.length ≤ 140737488355328) (s : Tx) (m : Int) : Gf fns 42 [.opt (dkv lv lim ch false), .str n, .str t] = some (stepV lv l lim ch ⟨2, n, t, s, m⟩) := by
  have hel := elen l
  have hfs := faceS_le l n
  have hnt := Name_ok t ht
  obtain ⟨k, hk⟩ := ho.frm
  by_cases hc : opC l n true = 0
  · have o := Open_fine k l lim ch n true hs (by omega) hn hc
    have hA : nameB n = true ∧ faceA l n = true := by
      unfold opC at hc
      cases h1 : nameB n <;> cases h2 : faceA l n <;> simp [h1, h2] at hc ⊢
    cases hT : nameB t
    · have e : stepV lv l lim ch ⟨2, n, t, s, m⟩ = (.int .i64 110, [.opt (dkv lv lim ch false)]) := by simp [stepV, codeL, codeK, chgL, hA.1, hA.2, hT]
      rw [e]
      generalize faceS l n = S at *
      generalize faceA l n = A at *
      rcases hk with ⟨rfl, rfl⟩ | ⟨rfl, rfl, rfl⟩
      all_goals
        simp -implicitDefEqProofs (disch := omega) only [go_sem, seval, dkv, rows_nil] at o
        refine Gf_start rfl rfl ?_
        simp -implicitDefEqProofs (disch := omega) only [go_sem, seval, dkv, hel, ero, o, hnt, hT]
    · by_cases h2 : n = t
      · subst h2
        have e : stepV lv l lim ch ⟨2, n, n, s, m⟩ = (.int .i64 1, [.opt (dkv lv lim ch false)]) := by simp [stepV, codeL, codeK, chgL, hA.1, hA.2, hT]
        rw [e]
        generalize faceS l n = S at *
        generalize faceA l n = A at *
        rcases hk with ⟨rfl, rfl⟩ | ⟨rfl, rfl, rfl⟩
        all_goals
          simp -implicitDefEqProofs (disch := omega) only [go_sem, seval, dkv, rows_nil] at o
          refine Gf_start rfl rfl ?_
          simp -implicitDefEqProofs (disch := omega) only [go_sem, seval, dkv, hel, ero, o, hnt, hT]
      · have e : stepV lv l lim ch ⟨2, n, t, s, m⟩ = (.int .i64 0, [.opt (dkv (.osl 6 (layL (layL l t true (faceS l n) 2) n false [] 2).length (rows DE.v (layL (layL l t true (faceS l n) 2) n false [] 2))) lim (ch + 1) false)]) := by
          simp [stepV, codeL, codeK, chgL, hA.1, hA.2, hT, h2]
        rw [e]
        have g := goes_ok ho lim ch (by omega)
        have la := Lay_ok ho lim (ch + 1) t true (faceS l n) 2 hs (by omega)
        have hll := len_lay l t true (faceS l n) 2
        have la2 := Lay_ok (lv := .osl 6 (layL l t true (faceS l n) 2).length (rows DE.v (layL l t true (faceS l n) 2))) (.inl rfl) lim (ch + 1) n false [] 2 (srt_lay hs t true (faceS l n) 2) (by omega)
        rw [show ((2 : Nat) : Int) = 2 from rfl] at la la2
        rw [hA.2] at o
        have hL := elen (layL l t true (faceS l n) 2)
        have hL2 := elen (layL (layL l t true (faceS l n) 2) n false [] 2)
        generalize layL (layL l t true (faceS l n) 2) n false [] 2 = L2 at *
        generalize layL l t true (faceS l n) 2 = L at *
        generalize faceS l n = S at *
        rcases hk with ⟨rfl, rfl⟩ | ⟨rfl, rfl, rfl⟩
        all_goals
          simp -implicitDefEqProofs (disch := omega) only [go_sem, seval, dkv, rows_nil] at o g la la2
          refine Gf_start rfl rfl ?_
          simp -implicitDefEqProofs (disch := omega) only [go_sem, seval, dkv, hel, ero, o, hnt, hT, h2]
          simp -implicitDefEqProofs (disch := omega) only [go_sem, seval, callr51, g, hel, ero]
          simp -implicitDefEqProofs (disch := omega) only [go_sem, seval, callr52, la, hL, ero]
          simp -implicitDefEqProofs (disch := omega) only [go_sem, seval, callr52, la2, hL2, ero]
  · have o := Open_err k l lim ch n true hs (by omega) hn hc
    have e : stepV lv l lim ch ⟨2, n, t, s, m⟩ = (.int .i64 (opC l n true), [.opt (dkv lv lim ch false)]) := by
      unfold opC at hc ⊢
      cases h1 : nameB n <;> cases h2 : faceA l n <;> simp [h1, h2, stepV, codeL, codeK] at hc ⊢
    rw [e]
    generalize opC l n true = q at *
    rcases hk with ⟨rfl, rfl⟩ | ⟨rfl, rfl, rfl⟩
    all_goals
      simp -implicitDefEqProofs (disch := omega) only [go_sem, seval, dkv, rows_nil] at o
      refine Gf_start rfl rfl ?_
      simp -implicitDefEqProofs (disch := omega) only [go_sem, seval, dkv, hel, ero, o, hc]
end
end Go.Vm.Ytclcadpmkkeaeaa
