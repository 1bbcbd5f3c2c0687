/- (seval) Disk: names, places, in the machine. -/
import Derived.Test.YtclcadpmkkeaeaaVmFit
import Derived.Test.YtclcadpmkkeaeaaIr
set_option linter.unusedSectionVars false
set_option linter.unusedSimpArgs false
set_option linter.unusedVariables false
set_option maxHeartbeats 4000000
set_option maxRecDepth 10000
namespace Go.Vm.Ytclcadpmkkeaeaa
open Go.Proofs
def chN (n : Nat) : Bool := (decide (97 ≤ n) && decide (n ≤ 122)) || ((decide (48 ≤ n) && decide (n ≤ 57)) || (decide (n = 46) || decide (n = 45)))
def chB (c : UInt8) : Bool := chN c.toNat
def nameB (s : List UInt8) : Bool := s.all chB && (decide (¬ s = []) && decide (s.length ≤ 32))
def nmS (s : List UInt8) (i : Nat) (st : St) : Prop := i ≤ s.length ∧ st.t 0 = .str s ∧ st.t 6 = .sl .ro s.length (s.map u8) ∧ st.t 7 = .int .i64 (s.length : Int) ∧ st.t 8 = .int .i64 (i : Int) ∧ (s.take i).all chB = true
theorem all_bad {s : List UInt8} {i : Nat} (hi : i < s.length) (h : chB (gt s i) = false) : s.all chB = false := by
  rw [List.all_eq_false]
  exact ⟨gt s i, by rw [gt_eq hi]; exact List.getElem_mem hi, by simp [h]⟩
theorem Name_ok (s : List UInt8) (hs : s.length ≤ 140737488355328) : Gf fns 23 [.str s] = some (.bool (nameB s), []) := by
  refine Gf_start rfl rfl ?_
  simp -implicitDefEqProofs (disch := omega) only [go_sem, seval, go_sem]
  refine wp_loopS (nmS s) (fun i => s.length - i) 0 ⟨by omega, by simp -implicitDefEqProofs (disch := omega) only [go_sem, seval, go_sem], by simp -implicitDefEqProofs (disch := omega) only [go_sem, seval, go_sem], by simp -implicitDefEqProofs (disch := omega) only [go_sem, seval, go_sem], by simp -implicitDefEqProofs (disch := omega) only [go_sem, seval, go_sem], by simp⟩ ?_
  rintro i ⟨t, σ⟩ ⟨hi, t0, t6, t7, t8, ha⟩
  simp only at t0 t6 t7 t8
  simp -implicitDefEqProofs (disch := omega) only [go_sem, seval, lp23_0, t7, t8]
  refine condC_dec (fun hc => ?_) (fun hc => ?_)
  · have hall : chB (gt s i) = true → (s.take (i + 1)).all chB = true := fun h => by rw [take_gt hc, List.all_append, ha]; simp [h]
    have hbad := fun h => all_bad hc h
    have hul : (s.map u8).length = s.length := List.length_map _
    have hcell : (s.map u8)[i]? = some (.int .u8 ((gt s i).toNat : Int)) := by
      rw [List.getElem?_map, List.getElem?_eq_getElem hc, gt_eq hc]
      rfl
    obtain ⟨ul, hue⟩ : ∃ ul, s.map u8 = ul := ⟨_, rfl⟩
    rw [hue] at hul hcell t6
    have fin : ∀ s' : St, s'.t 0 = t 0 → s'.t 6 = t 6 → s'.t 7 = t 7 → s'.t 8 = .int .i64 ((i + 1 : Nat) : Int) → s'.σ = σ → chB (gt s i) = true → ∃ i', s.length - i' < s.length - i ∧ nmS s i' s' := fun s' e0 e6 e7 e8 eσ hg => ⟨i + 1, by omega, by omega, e0.trans t0, by rw [hue]; exact e6.trans t6, e7.trans t7, e8, hall hg⟩
    have hchd : chB (gt s i) = chN (gt s i).toNat := rfl
    rw [hchd] at hbad
    simp only [hchd] at fin
    generalize (gt s i).toNat = n at *
    by_cases q1 : 97 ≤ n
    · by_cases q2 : n ≤ 122
      · simp -implicitDefEqProofs (disch := omega) only [go_sem, seval, t6, t8, hcell, q1, q2]
        exact fin _ (by simp -implicitDefEqProofs (disch := omega) only [go_sem, seval, go_sem]) (by simp -implicitDefEqProofs (disch := omega) only [go_sem, seval, go_sem]) (by simp -implicitDefEqProofs (disch := omega) only [go_sem, seval, go_sem]) (by simp -implicitDefEqProofs (disch := omega) only [go_sem, seval, go_sem]) rfl (by simp [chN, q1, q2])
      · have q3 : 48 ≤ n := by omega
        have q4 : ¬ n ≤ 57 := by omega
        have q5 : ¬ n = 46 := by omega
        have q6 : ¬ n = 45 := by omega
        have := hbad (by simp [chN, q1, q2, q3, q4, q5, q6])
        simp -implicitDefEqProofs (disch := omega) only [go_sem, seval, t6, t8, hcell, q1, q2, q3, q4, q5, q6, nameB, this]
    · by_cases q3 : 48 ≤ n
      · by_cases q4 : n ≤ 57
        · simp -implicitDefEqProofs (disch := omega) only [go_sem, seval, t6, t8, hcell, q1, q3, q4]
          exact fin _ (by simp -implicitDefEqProofs (disch := omega) only [go_sem, seval, go_sem]) (by simp -implicitDefEqProofs (disch := omega) only [go_sem, seval, go_sem]) (by simp -implicitDefEqProofs (disch := omega) only [go_sem, seval, go_sem]) (by simp -implicitDefEqProofs (disch := omega) only [go_sem, seval, go_sem]) rfl (by simp [chN, q1, q3, q4])
        · have q5 : ¬ n = 46 := by omega
          have q6 : ¬ n = 45 := by omega
          have := hbad (by simp [chN, q1, q3, q4, q5, q6])
          simp -implicitDefEqProofs (disch := omega) only [go_sem, seval, t6, t8, hcell, q1, q3, q4, q5, q6, nameB, this]
      · by_cases q5 : n = 46
        · subst q5
          simp -implicitDefEqProofs (disch := omega) only [go_sem, seval, t6, t8, hcell]
          exact fin _ (by simp -implicitDefEqProofs (disch := omega) only [go_sem, seval, go_sem]) (by simp -implicitDefEqProofs (disch := omega) only [go_sem, seval, go_sem]) (by simp -implicitDefEqProofs (disch := omega) only [go_sem, seval, go_sem]) (by simp -implicitDefEqProofs (disch := omega) only [go_sem, seval, go_sem]) rfl rfl
        · by_cases q6 : n = 45
          · subst q6
            simp -implicitDefEqProofs (disch := omega) only [go_sem, seval, t6, t8, hcell]
            exact fin _ (by simp -implicitDefEqProofs (disch := omega) only [go_sem, seval, go_sem]) (by simp -implicitDefEqProofs (disch := omega) only [go_sem, seval, go_sem]) (by simp -implicitDefEqProofs (disch := omega) only [go_sem, seval, go_sem]) (by simp -implicitDefEqProofs (disch := omega) only [go_sem, seval, go_sem]) rfl rfl
          · have := hbad (by simp [chN, q1, q3, q5, q6])
            simp -implicitDefEqProofs (disch := omega) only [go_sem, seval, t6, t8, hcell, q1, q3, q5, q6, nameB, this]
  · obtain rfl : i = s.length := by omega
    rw [take_all (Nat.le_refl _)] at ha
    by_cases h0 : s = []
    · simp -implicitDefEqProofs (disch := omega) only [go_sem, seval, t0, h0, nameB]
    · by_cases h1 : s.length ≤ 32
      · simp -implicitDefEqProofs (disch := omega) only [go_sem, seval, t0, h0, h1, nameB, ha]
      · simp -implicitDefEqProofs (disch := omega) only [go_sem, seval, t0, h0, h1, nameB, ha]
def rnS (s : List UInt8) (i : Nat) (st : St) : Prop := i ≤ s.length ∧ st.t 0 = .str s ∧ st.t 3 = .int .i64 (i : Int) ∧ (s.take i).all chB = true
theorem RName_ok (s : List UInt8) (hs : s.length ≤ 140737488355328) : Gf fns 24 [.str s] = some (.bool (nameB s), []) := by
  refine Gf_start rfl rfl ?_
  simp -implicitDefEqProofs (disch := omega) only [go_sem, seval, go_sem]
  refine wp_loopS (rnS s) (fun i => s.length - i) 0 ⟨by omega, by simp -implicitDefEqProofs (disch := omega) only [go_sem, seval, go_sem], by simp -implicitDefEqProofs (disch := omega) only [go_sem, seval, go_sem], by simp⟩ ?_
  rintro i ⟨t, σ⟩ ⟨hi, t0, t3, ha⟩
  simp only at t0 t3
  simp -implicitDefEqProofs (disch := omega) only [go_sem, seval, lp24_0, t0, t3]
  refine condC_dec (fun hc => ?_) (fun hc => ?_)
  · have hall : chB (gt s i) = true → (s.take (i + 1)).all chB = true := fun h => by rw [take_gt hc, List.all_append, ha]; simp [h]
    have hbad := fun h => all_bad hc h
    have hcell : s[i]? = some (gt s i) := by rw [List.getElem?_eq_getElem hc, gt_eq hc]
    have hu : u8 (gt s i) = .int .u8 ((gt s i).toNat : Int) := rfl
    have fin : ∀ s' : St, s'.t 0 = t 0 → s'.t 3 = .int .i64 ((i + 1 : Nat) : Int) → chB (gt s i) = true → ∃ i', s.length - i' < s.length - i ∧ rnS s i' s' := fun s' e0 e3 hg => ⟨i + 1, by omega, by omega, e0.trans t0, e3, hall hg⟩
    have hchd : chB (gt s i) = chN (gt s i).toNat := rfl
    rw [hchd] at hbad
    simp only [hchd] at fin
    by_cases q1 : 97 ≤ (gt s i).toNat
    · by_cases q2 : (gt s i).toNat ≤ 122
      · have q3 : 48 ≤ (gt s i).toNat := by omega
        have q4 : ¬ (gt s i).toNat ≤ 57 := by omega
        simp -implicitDefEqProofs (disch := omega) only [go_sem, seval, t0, t3, hcell, hu, q1, q2, q3, q4]
        exact fin _ (by simp -implicitDefEqProofs (disch := omega) only [go_sem, seval, go_sem]) (by simp -implicitDefEqProofs (disch := omega) only [go_sem, seval, go_sem]) (by simp [chN, q1, q2])
      · have q3 : 48 ≤ (gt s i).toNat := by omega
        have q4 : ¬ (gt s i).toNat ≤ 57 := by omega
        have q5 : ¬ (gt s i).toNat = 46 := by omega
        have q6 : ¬ (gt s i).toNat = 45 := by omega
        have := hbad (by simp [chN, q1, q2, q3, q4, q5, q6])
        simp -implicitDefEqProofs (disch := omega) only [go_sem, seval, t0, t3, hcell, hu, q1, q2, q3, q4, q5, q6, nameB, this]
    · by_cases q3 : 48 ≤ (gt s i).toNat
      · by_cases q4 : (gt s i).toNat ≤ 57
        · simp -implicitDefEqProofs (disch := omega) only [go_sem, seval, t0, t3, hcell, hu, q1, q3, q4]
          exact fin _ (by simp -implicitDefEqProofs (disch := omega) only [go_sem, seval, go_sem]) (by simp -implicitDefEqProofs (disch := omega) only [go_sem, seval, go_sem]) (by simp [chN, q1, q3, q4])
        · have q5 : ¬ (gt s i).toNat = 46 := by omega
          have q6 : ¬ (gt s i).toNat = 45 := by omega
          have := hbad (by simp [chN, q1, q3, q4, q5, q6])
          simp -implicitDefEqProofs (disch := omega) only [go_sem, seval, t0, t3, hcell, hu, q1, q3, q4, q5, q6, nameB, this]
      · by_cases q5 : (gt s i).toNat = 46
        · simp -implicitDefEqProofs (disch := omega) only [go_sem, seval, t0, t3, hcell, hu, q1, q3, q5]
          exact fin _ (by simp -implicitDefEqProofs (disch := omega) only [go_sem, seval, go_sem]) (by simp -implicitDefEqProofs (disch := omega) only [go_sem, seval, go_sem]) (by simp [chN, q5])
        · by_cases q6 : (gt s i).toNat = 45
          · simp -implicitDefEqProofs (disch := omega) only [go_sem, seval, t0, t3, hcell, hu, q1, q3, q5, q6]
            exact fin _ (by simp -implicitDefEqProofs (disch := omega) only [go_sem, seval, go_sem]) (by simp -implicitDefEqProofs (disch := omega) only [go_sem, seval, go_sem]) (by simp [chN, q6])
          · have := hbad (by simp [chN, q1, q3, q5, q6])
            simp -implicitDefEqProofs (disch := omega) only [go_sem, seval, t0, t3, hcell, hu, q1, q3, q5, q6, nameB, this]
  · obtain rfl : i = s.length := by omega
    rw [take_all (Nat.le_refl _)] at ha
    by_cases h0 : s = []
    · subst h0
      simp -implicitDefEqProofs (disch := omega) only [go_sem, seval, t0, nameB, List.length_nil, List.all_nil]
    · have hl0 : 0 < s.length := List.length_pos_iff.2 h0
      by_cases h1 : s.length ≤ 32
      · have h2 : s.length < 33 := by omega
        simp -implicitDefEqProofs (disch := omega) only [go_sem, seval, t0, hl0, h2, h0, h1, nameB, ha]
      · have h2 : ¬ s.length < 33 := by omega
        simp -implicitDefEqProofs (disch := omega) only [go_sem, seval, t0, hl0, h2, h0, h1, nameB, ha]
end Go.Vm.Ytclcadpmkkeaeaa
