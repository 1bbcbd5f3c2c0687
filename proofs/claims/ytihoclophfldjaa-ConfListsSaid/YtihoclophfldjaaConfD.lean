/- Those that take part, with and without somebody: plain facts. -/
import Derived.Test.YtihoclophfldjaaConfC
set_option linter.unusedSectionVars false
set_option linter.unusedSimpArgs false
set_option linter.unusedVariables false
namespace Go.Vm
theorem sorted_eq : ∀ {a b : List Nat}, a.Pairwise (· < ·) → b.Pairwise (· < ·) → (∀ x, x ∈ a ↔ x ∈ b) → a = b
  | [], [], _, _, _ => rfl
  | [], y :: b, _, _, h => absurd ((h y).2 (by simp)) (by simp)
  | x :: a, [], _, _, h => absurd ((h x).1 (by simp)) (by simp)
  | x :: a, y :: b, ha, hb, h => by
    rw [List.pairwise_cons] at ha hb
    have hxy : x = y := by
      rcases List.mem_cons.1 ((h x).1 (by simp)) with h1 | h1
      · exact h1
      · rcases List.mem_cons.1 ((h y).2 (by simp)) with h2 | h2
        · exact h2.symm
        · have := hb.1 x h1
          have := ha.1 y h2
          omega
    subst hxy
    congr 1
    refine sorted_eq ha.2 hb.2 fun z => ⟨fun hz => ?_, fun hz => ?_⟩
    · rcases List.mem_cons.1 ((h z).1 (List.mem_cons_of_mem _ hz)) with h1 | h1
      · have := ha.1 z hz
        omega
      · exact h1
    · rcases List.mem_cons.1 ((h z).2 (List.mem_cons_of_mem _ hz)) with h1 | h1
      · have := hb.1 z hz
        omega
      · exact h1
theorem listN_sorted (n : Nat) : (listN n).Pairwise (· < ·) := (List.pairwise_lt_range (n := 16)).filter _
theorem mem_listN (n x : Nat) : x ∈ listN n ↔ x < 16 ∧ n.testBit x = true := by simp [listN]
theorem listN_or {A W : Nat} (h : W ∈ listN A) : listN (A ||| 2 ^ W) = listN A := by
  refine sorted_eq (listN_sorted _) (listN_sorted _) fun x => ?_
  rw [mem_listN] at h
  rw [mem_listN, mem_listN, Nat.testBit_or, Nat.testBit_two_pow]
  by_cases hx : W = x
  · subst hx; simp [h.2]
  · simp [hx]
theorem listN_ins {A W i : Nat} (hW : W < 16) (h1 : ∀ y ∈ (listN A).take i, y < W) (h2 : ∀ y ∈ (listN A).drop i, W ≤ y) (h : W ∉ listN A) : (listN A).take i ++ [W] ++ (listN A).drop i = listN (A ||| 2 ^ W) := by
  have hs := listN_sorted A
  have hm : ∀ x, x ∈ (listN A).take i ∨ x ∈ (listN A).drop i ↔ x ∈ listN A := fun x => by
    rw [← List.mem_append, List.take_append_drop]
  refine sorted_eq ?_ (listN_sorted _) fun x => ?_
  · rw [← List.take_append_drop i (listN A), List.pairwise_append] at hs
    rw [List.append_assoc, List.pairwise_append]
    refine ⟨hs.1, ?_, fun a ha b hb => ?_⟩
    · rw [List.singleton_append, List.pairwise_cons]
      exact ⟨fun y hy => by
        have := h2 y hy
        have : y ≠ W := fun c => h (by rw [← c]; exact (hm y).1 (.inr hy))
        omega, hs.2.1⟩
    · rw [List.singleton_append] at hb
      rcases List.mem_cons.1 hb with rfl | hb
      · exact h1 a ha
      · exact hs.2.2 a ha b hb
  · rw [mem_listN, Nat.testBit_or, Nat.testBit_two_pow, List.mem_append, List.mem_append, List.mem_singleton]
    have := hm x
    rw [mem_listN] at this
    by_cases hx : W = x
    · subst hx; simp [hW]
    · have hx2 : ¬ x = W := fun c => hx c.symm
      simp only [hx, hx2, decide_false, Bool.or_false, or_false]
      exact this
theorem listN_del {A D W : Nat} (hD : ∀ x, D.testBit x = (A.testBit x && !decide (W = x))) : (listN A).filter (fun x => !decide (x = W)) = listN D := by
  refine sorted_eq ((listN_sorted A).filter _) (listN_sorted _) fun x => ?_
  rw [List.mem_filter, mem_listN, mem_listN, hD]
  by_cases hx : W = x
  · subst hx; simp
  · have hx2 : ¬ x = W := fun c => hx c.symm
    simp [hx, hx2]
theorem bits_andNot_nat {a b : Nat} (ha : a < 2 ^ 62) (hb : b < 2 ^ 62) : Go.bits .andNot .i64 (a : Int) (b : Int) = ((a ^^^ (a &&& b) : Nat) : Int) := by
  have e : Go.bits .andNot .i64 (a : Int) (b : Int) = IntKind.i64.wrap ((BitVec.ofInt 64 (a : Int) &&& ~~~ BitVec.ofInt 64 (b : Int)).toNat : Int) := rfl
  have e2 : (BitVec.ofInt 64 (a : Int) &&& ~~~ BitVec.ofInt 64 (b : Int)) = BitVec.ofNat 64 (a ^^^ (a &&& b)) := by
    apply BitVec.eq_of_getLsbD_eq
    intro i hi
    rw [BitVec.ofInt_natCast, BitVec.ofInt_natCast]
    simp only [BitVec.getLsbD_and, BitVec.getLsbD_not, BitVec.getLsbD_ofNat, Nat.testBit_xor, Nat.testBit_and, hi, decide_true, Bool.true_and]
    cases a.testBit i <;> cases b.testBit i <;> rfl
  have h1 : a &&& b < 2 ^ 62 := Nat.and_lt_two_pow _ hb
  have hx : a ^^^ (a &&& b) < 2 ^ 62 := Nat.xor_lt_two_pow ha h1
  rw [e, e2, BitVec.toNat_ofNat, Nat.mod_eq_of_lt (by omega)]
  exact wrapi64_id (by omega) (by omega)
theorem del_bits (A W x : Nat) : (A ^^^ (A &&& 2 ^ W)).testBit x = (A.testBit x && !decide (W = x)) := by
  rw [Nat.testBit_xor, Nat.testBit_and, Nat.testBit_two_pow]
  cases A.testBit x <;> cases decide (W = x) <;> rfl
theorem mem_take_lt {l : List Nat} (hs : l.Pairwise (· < ·)) {h y : Nat} (hh : h < l.length) (hy : y ∈ l.take (h + 1)) : y ≤ l[h] := by
  obtain ⟨q, hq, rfl⟩ := List.mem_iff_getElem.1 hy
  rw [List.getElem_take]
  simp only [List.length_take] at hq
  rcases Nat.lt_or_ge q h with h1 | h1
  · exact Nat.le_of_lt (List.pairwise_iff_getElem.1 hs q h (by omega) hh h1)
  · obtain rfl : q = h := by omega
    exact Nat.le_refl _
theorem mem_drop_ge {l : List Nat} (hs : l.Pairwise (· < ·)) {h y : Nat} (hh : h < l.length) (hy : y ∈ l.drop h) : l[h] ≤ y := by
  obtain ⟨q, hq, rfl⟩ := List.mem_iff_getElem.1 hy
  rw [List.getElem_drop]
  simp only [List.length_drop] at hq
  rcases Nat.eq_zero_or_pos q with h1 | h1
  · subst h1
    exact Nat.le_refl _
  · exact Nat.le_of_lt (List.pairwise_iff_getElem.1 hs h (h + q) hh (by omega) (by omega))
end Go.Vm
