/- Trees of digests: roots, ways, and what is reckoned from them. -/
import Derived.Test.YtmjllpkkdlflpaaShaR
set_option linter.unusedSectionVars false
set_option linter.unusedSimpArgs false
set_option linter.unusedVariables false
namespace Go.Vm
def cutGo (n k : Nat) : Nat := if 0 < k ∧ 2 * k < n then cutGo n (2 * k) else k
termination_by n - k
decreasing_by omega
def cut (n : Nat) : Nat := cutGo n 1
theorem cutGo_yes {n k : Nat} (h : 0 < k ∧ 2 * k < n) : cutGo n k = cutGo n (2 * k) := by rw [cutGo, if_pos h]
theorem cutGo_no {n k : Nat} (h : ¬ (0 < k ∧ 2 * k < n)) : cutGo n k = k := by rw [cutGo, if_neg h]
theorem cutGo_spec : ∀ (m n k : Nat), n - k ≤ m → 0 < k → k < n → k ≤ cutGo n k ∧ cutGo n k < n ∧ n ≤ 2 * cutGo n k ∧ ∃ j, cutGo n k = k * 2 ^ j
  | 0, n, k, hm, h0, h1 => by omega
  | m + 1, n, k, hm, h0, h1 => by
    by_cases h : 2 * k < n
    · rw [cutGo_yes ⟨h0, h⟩]
      obtain ⟨a, b, c, j, e⟩ := cutGo_spec m n (2 * k) (by omega) (by omega) h
      exact ⟨by omega, b, c, j + 1, by rw [e, Nat.pow_succ, Nat.mul_comm 2 k, Nat.mul_assoc, Nat.mul_comm 2]⟩
    · rw [cutGo_no (by omega)]
      exact ⟨Nat.le_refl _, h1, by omega, 0, by simp⟩
theorem cut_spec {n : Nat} (h : 2 ≤ n) : 1 ≤ cut n ∧ cut n < n ∧ n ≤ 2 * cut n ∧ ∃ j, cut n = 2 ^ j := by
  obtain ⟨a, b, c, j, e⟩ := cutGo_spec n n 1 (by omega) (by omega) (by omega)
  exact ⟨a, b, c, j, by unfold cut; rw [e]; simp⟩
def leafH (s : List UInt8) : List UInt8 := sha (0 :: s)
def nodeH (a b : List UInt8) : List UInt8 := sha (1 :: a ++ b)
theorem leafH_len (s : List UInt8) : (leafH s).length = 32 := sha_len _
theorem nodeH_len (a b : List UInt8) : (nodeH a b).length = 32 := sha_len _
def mroot (l : List (List UInt8)) : List UInt8 :=
  if h : 2 ≤ l.length then nodeH (mroot (l.take (cut l.length))) (mroot (l.drop (cut l.length)))
  else match l with
    | [] => sha []
    | s :: _ => leafH s
termination_by l.length
decreasing_by
  · have := cut_spec h; simp; omega
  · have := cut_spec h; simp; omega
theorem mroot_nil : mroot [] = sha [] := by rw [mroot, dif_neg (by simp)]
theorem mroot_one (s : List UInt8) : mroot [s] = leafH s := by rw [mroot, dif_neg (by simp)]
theorem mroot_two {l : List (List UInt8)} (h : 2 ≤ l.length) : mroot l = nodeH (mroot (l.take (cut l.length))) (mroot (l.drop (cut l.length))) := by rw [mroot, dif_pos h]
theorem mroot_len (l : List (List UInt8)) : (mroot l).length = 32 := by
  by_cases h : 2 ≤ l.length
  · rw [mroot_two h]; exact nodeH_len _ _
  · match l with
    | [] => rw [mroot_nil]; exact sha_len _
    | [s] => rw [mroot_one]; exact leafH_len _
    | _ :: _ :: _ => simp at h
/-- The way up from a place, from the top down. -/
def pathR (l : List (List UInt8)) (i : Nat) : List (List UInt8) :=
  if h : 2 ≤ l.length then
    if i < cut l.length then mroot (l.drop (cut l.length)) :: pathR (l.take (cut l.length)) i
    else mroot (l.take (cut l.length)) :: pathR (l.drop (cut l.length)) (i - cut l.length)
  else []
termination_by l.length
decreasing_by
  · have := cut_spec h; simp; omega
  · have := cut_spec h; simp; omega
theorem pathR_no {l : List (List UInt8)} {i : Nat} (h : ¬ 2 ≤ l.length) : pathR l i = [] := by rw [pathR, dif_neg h]
theorem pathR_l {l : List (List UInt8)} {i : Nat} (h : 2 ≤ l.length) (hi : i < cut l.length) : pathR l i = mroot (l.drop (cut l.length)) :: pathR (l.take (cut l.length)) i := by rw [pathR, dif_pos h, if_pos hi]
theorem pathR_r {l : List (List UInt8)} {i : Nat} (h : 2 ≤ l.length) (hi : ¬ i < cut l.length) : pathR l i = mroot (l.take (cut l.length)) :: pathR (l.drop (cut l.length)) (i - cut l.length) := by rw [pathR, dif_pos h, if_neg hi]
theorem pathR_len : ∀ (n : Nat) (l : List (List UInt8)) (i : Nat), l.length ≤ n → (pathR l i).length ≤ l.length ∧ ∀ s ∈ pathR l i, s.length = 32
  | n, l, i, hn => by
    by_cases h : 2 ≤ l.length
    · have hc := cut_spec h
      match n with
      | 0 => omega
      | n + 1 =>
        by_cases hi : i < cut l.length
        · rw [pathR_l h hi]
          have := pathR_len n (l.take (cut l.length)) i (by simp; omega)
          simp only [List.length_take] at this
          refine ⟨by simp only [List.length_cons]; omega, fun s hs => ?_⟩
          rcases List.mem_cons.1 hs with rfl | hs
          · exact mroot_len _
          · exact this.2 s hs
        · rw [pathR_r h hi]
          have := pathR_len n (l.drop (cut l.length)) (i - cut l.length) (by simp; omega)
          simp only [List.length_drop] at this
          refine ⟨by simp only [List.length_cons]; omega, fun s hs => ?_⟩
          rcases List.mem_cons.1 hs with rfl | hs
          · exact mroot_len _
          · exact this.2 s hs
    · rw [pathR_no h]
      simp
/-- A root out of a leaf and the way up, from the top down. -/
def foldR (leaf : List UInt8) : Nat → Nat → List (List UInt8) → List UInt8 × Bool
  | i, n, [] => if n = 1 then (leaf, true) else ([], false)
  | i, n, top :: r => if n = 1 then (leaf, false) else
      if i < cut n then (nodeH (foldR leaf i (cut n) r).1 top, (foldR leaf i (cut n) r).2)
      else (nodeH top (foldR leaf (i - cut n) (n - cut n) r).1, (foldR leaf (i - cut n) (n - cut n) r).2)
theorem foldR_path : ∀ (n : Nat) (l : List (List UInt8)) (i : Nat), l.length ≤ n → i < l.length → foldR (leafH (gt l i)) i l.length (pathR l i) = (mroot l, true)
  | n, l, i, hn, hi => by
    by_cases h : 2 ≤ l.length
    · have hc := cut_spec h
      match n with
      | 0 => omega
      | n + 1 =>
        have h1 : ¬ l.length = 1 := by omega
        by_cases hlt : i < cut l.length
        · rw [pathR_l h hlt, foldR, if_neg h1, if_pos hlt]
          have e : (l.take (cut l.length)).length = cut l.length := by simp; omega
          have := foldR_path n (l.take (cut l.length)) i (by simp; omega) (by rw [e]; exact hlt)
          have g : gt (l.take (cut l.length)) i = gt l i := by simp [gt, List.getD_eq_getElem?_getD, List.getElem?_take, hlt]
          rw [e, g] at this
          rw [this, mroot_two h]
        · rw [pathR_r h hlt, foldR, if_neg h1, if_neg hlt]
          have e : (l.drop (cut l.length)).length = l.length - cut l.length := by simp
          have := foldR_path n (l.drop (cut l.length)) (i - cut l.length) (by simp; omega) (by rw [e]; omega)
          have g : gt (l.drop (cut l.length)) (i - cut l.length) = gt l i := by
            simp only [gt, List.getD_eq_getElem?_getD, List.getElem?_drop]
            rw [show cut l.length + (i - cut l.length) = i by omega]
          rw [e, g] at this
          rw [this, mroot_two h]
    · rw [pathR_no h]
      match l, h, hi with
      | [s], _, hi =>
        obtain rfl : i = 0 := by simpa using hi
        rw [mroot_one]
        rfl
      | [], _, hi => simp at hi
      | _ :: _ :: _, h, _ => simp at h
end Go.Vm
