/- One list may follow another one just where one comes or one goes, and somebody is left: for any lists. No conditions. -/
import Derived.Test.YtjpbkodooglapaaQAx10
import Derived.Test.YtjpbkodooglapaaSets
namespace Go.Proofs.Ytjpbkodooglapaa.Pure
open Go.RowKit Go.Proofs.Ytjpbkodooglapaa.QA Go.Proofs.Ytjpbkodooglapaa.Muni Go.Proofs.YtjpbkodooglapaaW.PrintWords Go.Proofs.YtjpbkodooglapaaW.PrintLast Go.Proofs.YtjpbkodooglapaaW.PrintMore

theorem nextB_bad (a b : List Int) (h : membersB a = false ∨ membersB b = false) : nextB a b = false := by
  unfold nextB
  rcases h with h | h
  · rw [h]; rfl
  · rw [h]; simp

theorem ConfNext : munimentlaw13_ConfNext.Pure := by
  intro n m raw _ _ _ hr _
  obtain ⟨a, ha⟩ := Int.eq_ofNat_of_zero_le (show 0 ≤ n % 65536 by omega)
  obtain ⟨b, hb⟩ := Int.eq_ofNat_of_zero_le (show 0 ≤ m % 65536 by omega)
  have ha' : a < 65536 := by omega
  have hb' : b < 65536 := by omega
  have la := listI_length a
  have lb := listI_length b
  refine ⟨20000000000000, ?_⟩
  have ht : (raw.take 20).length ≤ 20 := List.length_take_le _ _
  have hl : raw.length ≤ 17592186044404 := by omega
  generalize hK : (20000000000000 : Nat) = K
  have hx : Go.bits .xor .i64 (a : Int) (b : Int) = ((a ^^^ b : Nat) : Int) := bits_xor_nat (by omega) (by omega)
  have hnl := next_lists a b ha' hb'
  unfold munimentlaw13_ConfNext.f
  simp only [and_16, ha, hb, hx, awake13_any K (by omega), list_any a K (by omega), list_any b K (by omega), bits_any (a ^^^ b) K (by omega), Option.bind_some, if_true,
    next_any (listI a) (listI b) K (by omega) (by omega) (by omega)]
  have key : ∀ l : List Int, l.length ≤ 1000000 → ((munimentref08_Members.f K l).bind fun t147 => (if t147 = true then (some true) else (conf_Next.f K l (listI a)).bind fun t151 => (if t151 = true then (some false) else (conf_Next.f K (listI a) l).bind fun t155 => some (!t155)))) = some true := by
    intro l hl
    rw [refMembers_any l K (by omega) (by omega), next_any l (listI a) K (by omega) (by omega) (by omega), next_any (listI a) l K (by omega) (by omega) (by omega)]
    simp only [Option.bind_some]
    cases h : membersB l
    · rw [nextB_bad l _ (.inl h), nextB_bad _ l (.inr h)]
      rfl
    · rfl
  have k1 := key (raw.take 20) (by omega)
  have k2 : ¬ raw.length > 20 → _ := fun h => key raw (by omega)
  have fin : ∀ c : Bool, c = true → (if (raw.length : Int) > 20 then
        if 20 ≤ (raw.length : Int) then
          if c = true then
            (munimentref08_Members.f K (raw.take 20)).bind fun t147 => (if t147 = true then (some true) else (conf_Next.f K (raw.take 20) (listI a)).bind fun t151 => (if t151 = true then (some false) else (conf_Next.f K (listI a) (raw.take 20)).bind fun t155 => some (!t155)))
          else some false
        else none
      else
        if c = true then
          (munimentref08_Members.f K raw).bind fun t147 => (if t147 = true then (some true) else (conf_Next.f K raw (listI a)).bind fun t151 => (if t151 = true then (some false) else (conf_Next.f K (listI a) raw).bind fun t155 => some (!t155)))
        else some false) = some true := by
    intro c hc
    by_cases h : (raw.length : Int) > 20
    · rw [if_pos h, if_pos (by omega), if_pos hc, k1]
    · rw [if_neg h, if_pos hc, k2 (by omega)]
  by_cases h0 : (a : Int) = 0
  · rw [if_pos h0]
    refine fin _ ?_
    rw [hnl, decide_eq_false (by omega)]
    rfl
  rw [if_neg h0]
  by_cases h1 : (b : Int) = 0
  · rw [if_pos h1]
    refine fin _ ?_
    rw [hnl, decide_eq_false (show ¬ b ≠ 0 by omega)]
    simp
  rw [if_neg h1]
  refine fin _ ?_
  rw [hnl, decide_eq_true (show a ≠ 0 by omega), decide_eq_true (show b ≠ 0 by omega), Bool.true_and, Bool.true_and, beq_iff_eq, Bool.eq_iff_iff]
  simp only [decide_eq_true_eq, beq_iff_eq]
  omega
end Go.Proofs.Ytjpbkodooglapaa.Pure
