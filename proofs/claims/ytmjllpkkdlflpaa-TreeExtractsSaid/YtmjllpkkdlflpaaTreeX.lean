/- Two proofs of one place: what is shown by them. -/
import Derived.Test.YtmjllpkkdlflpaaTreeN
set_option linter.unusedSectionVars false
set_option linter.unusedSimpArgs false
set_option linter.unusedVariables false
set_option maxHeartbeats 1000000
set_option maxRecDepth 100000
namespace Go.Vm
theorem mapQ_ro_bool {σ : Store} {d : Nat} (l : List Bool) : mapQ (roV σ (d + 1)) (l.map V.bool) = some (l.map V.bool, []) := mapQ_flat fun v hv => by obtain ⟨_, _, rfl⟩ := List.mem_map.1 hv; rfl
theorem mapQ_own_bool {σ : Store} {d : Nat} (l : List Bool) : mapQ (ownV σ (d + 1)) (l.map V.bool) = some (l.map V.bool, []) := mapQ_flat fun v hv => by obtain ⟨_, _, rfl⟩ := List.mem_map.1 hv; rfl
theorem ha_l_bool {d : Nat} (l : List Bool) : (l.map V.bool).any (hasRo (d + 1)) = false := any_none fun v hv => by obtain ⟨_, _, rfl⟩ := List.mem_map.1 hv; rfl
theorem vis_l_bool {σ : Store} {d : Nat} (l : List Bool) : (l.map V.bool).flatMap (visV σ (d + 1)) = [] := flat_none fun v hv => by obtain ⟨_, _, rfl⟩ := List.mem_map.1 hv; rfl
theorem mapM_bool {σ : Store} {d k : Nat} (l : List Bool) : mapM' (matV σ (d + 1)) k (l.map V.bool) = some (l.map V.bool, [], k) := mapM_flat fun k v hv => by obtain ⟨_, _, rfl⟩ := List.mem_map.1 hv; rfl
theorem snoc_bool (l : List Bool) (b : Bool) : l.map V.bool ++ [V.bool b] = (l ++ [b]).map V.bool := by simp
attribute [go_sem] mapQ_ro_bool mapQ_own_bool ha_l_bool vis_l_bool mapM_bool snoc_bool
/-- On which side one is, from the top down. -/
def sidesR (i n : Nat) : List Bool := if h : 2 ≤ n then (if i < cut n then true :: sidesR i (cut n) else false :: sidesR (i - cut n) (n - cut n)) else []
termination_by n
decreasing_by
  · have := cut_spec h; omega
  · have := cut_spec h; omega
theorem sidesR_no {i n : Nat} (h : ¬ 2 ≤ n) : sidesR i n = [] := by rw [sidesR, dif_neg h]
theorem sidesR_l {i n : Nat} (h : 2 ≤ n) (hi : i < cut n) : sidesR i n = true :: sidesR i (cut n) := by rw [sidesR, dif_pos h, if_pos hi]
theorem sidesR_r {i n : Nat} (h : 2 ≤ n) (hi : ¬ i < cut n) : sidesR i n = false :: sidesR (i - cut n) (n - cut n) := by rw [sidesR, dif_pos h, if_neg hi]
theorem sidesR_len : ∀ (m i n : Nat), n ≤ m → (sidesR i n).length ≤ n
  | m, i, n, hm => by
    by_cases h : 2 ≤ n
    · have hc := cut_spec h
      match m with
      | 0 => omega
      | m + 1 =>
        by_cases hi : i < cut n
        · rw [sidesR_l h hi, List.length_cons]; have := sidesR_len m i (cut n) (by omega); omega
        · rw [sidesR_r h hi, List.length_cons]; have := sidesR_len m (i - cut n) (n - cut n) (by omega); omega
    · rw [sidesR_no h]; simp
theorem fold_sides : ∀ (r : List (List UInt8)) (leaf : List UInt8) (i n : Nat), i < n → (foldR leaf i n r).2 = true → r.length = (sidesR i n).length
  | [], leaf, i, n, hi, h => by
    rw [foldR] at h
    by_cases h1 : n = 1
    · rw [sidesR_no (by omega)]; rfl
    · rw [if_neg h1] at h; cases h
  | top :: r, leaf, i, n, hi, h => by
    rw [foldR] at h
    by_cases h1 : n = 1
    · rw [if_pos h1] at h; cases h
    · rw [if_neg h1] at h
      have hc := cut_spec (n := n) (by omega)
      by_cases hlt : i < cut n
      · rw [if_pos hlt] at h
        rw [sidesR_l (by omega) hlt, List.length_cons, List.length_cons, fold_sides r leaf i (cut n) hlt h]
      · rw [if_neg hlt] at h
        rw [sidesR_r (by omega) hlt, List.length_cons, List.length_cons, fold_sides r leaf (i - cut n) (n - cut n) (by omega) h]
def stepT (h top : List UInt8) (left : Bool) : List UInt8 := if left = true then 1 :: (h ++ top) else 1 :: (top ++ h)
/-- The texts on the way up. -/
def outT (p : List (List UInt8)) (sd : List Bool) (t : List UInt8) : Nat → List (List UInt8)
  | 0 => [t]
  | k + 1 => outT p sd t k ++ [stepT (sha (gt (outT p sd t k) k)) (gt p k) (gt sd k)]
theorem outT_len (p : List (List UInt8)) (sd : List Bool) (t : List UInt8) : ∀ k, (outT p sd t k).length = k + 1
  | 0 => rfl
  | k + 1 => by rw [outT, List.length_append, outT_len p sd t k]; rfl
theorem outT_at (p : List (List UInt8)) (sd : List Bool) (t : List UInt8) : ∀ (m k : Nat), k ≤ m → gt (outT p sd t m) k = gt (outT p sd t k) k
  | 0, k, h => by obtain rfl : k = 0 := by omega
                  rfl
  | m + 1, k, h => by
    by_cases hk : k = m + 1
    · rw [hk]
    · rw [outT]
      have e : gt (outT p sd t m ++ [stepT (sha (gt (outT p sd t m) m)) (gt p m) (gt sd m)]) k = gt (outT p sd t m) k := by
        simp [gt, List.getD_eq_getElem?_getD, List.getElem?_append_left (show k < (outT p sd t m).length by rw [outT_len]; omega)]
      rw [e, outT_at p sd t m k (by omega)]
theorem outT_next (p : List (List UInt8)) (sd : List Bool) (t : List UInt8) (k : Nat) : gt (outT p sd t (k + 1)) (k + 1) = stepT (sha (gt (outT p sd t k) k)) (gt p k) (gt sd k) := by
  rw [outT]
  have := outT_len p sd t k
  simp [gt, List.getD_eq_getElem?_getD, List.getElem?_append_right (show (outT p sd t k).length ≤ k + 1 by omega), this]
theorem stepT_inj {h h' a b : List UInt8} {left : Bool} (hl : h.length = 32) (hl' : h'.length = 32) (ha : a.length = 32) (hb : b.length = 32) (e : stepT h a left = stepT h' b left) : h = h' := by
  unfold stepT at e
  cases left with
  | true =>
    simp only [if_true, List.cons.injEq, true_and] at e
    exact (List.append_inj e (by omega)).1
  | false =>
    simp only [Bool.false_eq_true, if_false, List.cons.injEq, true_and] at e
    exact (List.append_inj e (by omega)).2
/-- From the top: the first place at which both differ. -/
def lastD (X Y : List (List UInt8)) : Nat → Option (List UInt8 × List UInt8)
  | 0 => none
  | k + 1 => if gt X k = gt Y k then lastD X Y k else some (gt X k, gt Y k)
theorem lastD_sha (p q : List (List UInt8)) (sd : List Bool) (a b : List UInt8) (m : Nat) (hp : ∀ k, k < m → (gt p k).length = 32) (hq : ∀ k, k < m → (gt q k).length = 32) : ∀ (k : Nat) (w : List UInt8 × List UInt8), k ≤ m →
    sha (gt (outT p sd a m) k) = sha (gt (outT q sd b m) k) → lastD (outT p sd a m) (outT q sd b m) (k + 1) = some w → w.1 ≠ w.2 ∧ sha w.1 = sha w.2
  | k, w, hk, hs, h => by
    rw [lastD] at h
    split at h
    · rename_i he
      match k with
      | 0 => cases h
      | k + 1 =>
        refine lastD_sha p q sd a b m hp hq k w (by omega) ?_ h
        rw [outT_at _ _ _ m (k + 1) hk, outT_at _ _ _ m (k + 1) hk, outT_next, outT_next] at he
        rw [outT_at _ _ _ m k (by omega), outT_at _ _ _ m k (by omega)]
        exact stepT_inj (sha_len _) (sha_len _) (hp k (by omega)) (hq k (by omega)) he
    · rename_i he
      cases h
      exact ⟨he, hs⟩
end Go.Vm
namespace Go.Vm.Ytmjllpkkdlflpaa
open Go.Proofs
def boolsV (l : List Bool) : V := if l = [] then .sl .nil 0 [] else .osl 1 l.length (l.map V.bool)
theorem sides_ok : ∀ (m i n : Nat), n ≤ m → i < n → n ≤ 1000000 → Gf fns 31 [.int .i64 (i : Int), .int .i64 (n : Int)] = some (boolsV (sidesR i n).reverse, [])
  | m, i, n, hm, hi, hn => by
    by_cases h : 2 ≤ n
    · have hc := cut_spec h
      have co := cut_ok n hn
      have hsn : ∀ (b : Bool) (R : List Bool), (b :: R).reverse = R.reverse ++ [b] := fun b R => by simp
      match m with
      | 0 => omega
      | m + 1 =>
        by_cases hlt : i < cut n
        · have ih := sides_ok m i (cut n) (by omega) hlt (by omega)
          have hl := sidesR_len _ i (cut n) (Nat.le_refl _)
          rw [sidesR_l h hlt, hsn]
          generalize sidesR i (cut n) = R at *
          generalize cut n = c at *
          have hr1 : R.reverse.length = R.length := List.length_reverse
          have hr2 : (R.reverse ++ [true]).length = R.length + 1 := by simp
          have hb2 : boolsV (R.reverse ++ [true]) = .osl 1 (R.length + 1) ((R.reverse ++ [true]).map V.bool) := by simp [boolsV]
          rw [hb2]
          refine Gf_start rfl rfl ?_
          by_cases hp : R = []
          · subst hp
            have hv : boolsV ([] : List Bool).reverse = .sl .nil 0 [] := rfl
            rw [hv] at ih
            simp -implicitDefEqProofs (disch := omega) only [go_sem, Nat.reduceAdd, Nat.reduceMul, Nat.reduceSub, Nat.reduceEqDiff, Nat.reduceLT, Nat.reduceLeDiff, reduceIte, reduceCtorEq, Int.reduceLE, Int.reduceLT, Int.reduceGE, Int.reduceGT, Int.reduceAdd, Int.reduceSub, Int.reduceMul, Int.reduceToNat, Int.reduceBEq, Int.reduceBNe, Nat.reduceBEq, Nat.reduceDiv, Nat.reduceMod, Nat.reduceBEq, Int.reduceNeg, Int.reduceToNat, Int.reduceEq, Nat.reduceLeDiff, co, hlt, ih, List.reverse_nil]
          · have hv : boolsV R.reverse = .osl 1 R.length (R.reverse.map V.bool) := by simp [boolsV, hp]
            rw [hv] at ih
            simp -implicitDefEqProofs (disch := omega) only [go_sem, Nat.reduceAdd, Nat.reduceMul, Nat.reduceSub, Nat.reduceEqDiff, Nat.reduceLT, Nat.reduceLeDiff, reduceIte, reduceCtorEq, Int.reduceLE, Int.reduceLT, Int.reduceGE, Int.reduceGT, Int.reduceAdd, Int.reduceSub, Int.reduceMul, Int.reduceToNat, Int.reduceBEq, Int.reduceBNe, Nat.reduceBEq, Nat.reduceDiv, Nat.reduceMod, Nat.reduceBEq, Int.reduceNeg, Int.reduceToNat, Int.reduceEq, Nat.reduceLeDiff, co, hlt, ih, hr1]
        · have ih := sides_ok m (i - cut n) (n - cut n) (by omega) (by omega) (by omega)
          have hl := sidesR_len _ (i - cut n) (n - cut n) (Nat.le_refl _)
          rw [sidesR_r h hlt, hsn]
          generalize sidesR (i - cut n) (n - cut n) = R at *
          generalize cut n = c at *
          have hr1 : R.reverse.length = R.length := List.length_reverse
          have hr2 : (R.reverse ++ [false]).length = R.length + 1 := by simp
          have hb2 : boolsV (R.reverse ++ [false]) = .osl 1 (R.length + 1) ((R.reverse ++ [false]).map V.bool) := by simp [boolsV]
          rw [hb2]
          refine Gf_start rfl rfl ?_
          by_cases hp : R = []
          · subst hp
            have hv : boolsV ([] : List Bool).reverse = .sl .nil 0 [] := rfl
            rw [hv] at ih
            simp -implicitDefEqProofs (disch := omega) only [go_sem, Nat.reduceAdd, Nat.reduceMul, Nat.reduceSub, Nat.reduceEqDiff, Nat.reduceLT, Nat.reduceLeDiff, reduceIte, reduceCtorEq, Int.reduceLE, Int.reduceLT, Int.reduceGE, Int.reduceGT, Int.reduceAdd, Int.reduceSub, Int.reduceMul, Int.reduceToNat, Int.reduceBEq, Int.reduceBNe, Nat.reduceBEq, Nat.reduceDiv, Nat.reduceMod, Nat.reduceBEq, Int.reduceNeg, Int.reduceToNat, Int.reduceEq, Nat.reduceLeDiff, co, hlt, ih, List.reverse_nil]
          · have hv : boolsV R.reverse = .osl 1 R.length (R.reverse.map V.bool) := by simp [boolsV, hp]
            rw [hv] at ih
            simp -implicitDefEqProofs (disch := omega) only [go_sem, Nat.reduceAdd, Nat.reduceMul, Nat.reduceSub, Nat.reduceEqDiff, Nat.reduceLT, Nat.reduceLeDiff, reduceIte, reduceCtorEq, Int.reduceLE, Int.reduceLT, Int.reduceGE, Int.reduceGT, Int.reduceAdd, Int.reduceSub, Int.reduceMul, Int.reduceToNat, Int.reduceBEq, Int.reduceBNe, Nat.reduceBEq, Nat.reduceDiv, Nat.reduceMod, Nat.reduceBEq, Int.reduceNeg, Int.reduceToNat, Int.reduceEq, Nat.reduceLeDiff, co, hlt, ih, hr1]
    · rw [sidesR_no h]
      refine Gf_start rfl rfl ?_
      simp -implicitDefEqProofs (disch := omega) only [go_sem, Nat.reduceAdd, Nat.reduceMul, Nat.reduceSub, Nat.reduceEqDiff, Nat.reduceLT, Nat.reduceLeDiff, reduceIte, reduceCtorEq, Int.reduceLE, Int.reduceLT, Int.reduceGE, Int.reduceGT, Int.reduceAdd, Int.reduceSub, Int.reduceMul, Int.reduceToNat, Int.reduceBEq, Int.reduceBNe, Nat.reduceBEq, Nat.reduceDiv, Nat.reduceMod, Nat.reduceBEq, Int.reduceNeg, Int.reduceToNat, Int.reduceEq, Nat.reduceLeDiff, boolsV, List.reverse_nil]
theorem rootOf_ok (s : List UInt8) (i n : Nat) (k : SK) (p : List (List UInt8)) (hi : i < n) (hn : n ≤ 1000000) (hp : Small p) (hs : s.length ≤ 1000000) :
    Gf fns 30 [.str s, .int .i64 (i : Int), .int .i64 (n : Int), .sl k p.length (p.map V.str)] = some (.str (foldR (leafH s) i n p.reverse).1, []) := by
  have hf := (fold_ok p.reverse (leafH s) i n k hi hn (by rw [List.reverse_reverse]; exact hp) (leafH_len s)).2
  rw [List.reverse_reverse, List.length_reverse] at hf
  have hlf := Leaf_ok s hs
  refine Gf_start rfl rfl ?_
  simp -implicitDefEqProofs (disch := omega) only [go_sem, Nat.reduceAdd, Nat.reduceMul, Nat.reduceSub, Nat.reduceEqDiff, Nat.reduceLT, Nat.reduceLeDiff, reduceIte, reduceCtorEq, Int.reduceLE, Int.reduceLT, Int.reduceGE, Int.reduceGT, Int.reduceAdd, Int.reduceSub, Int.reduceMul, Int.reduceToNat, Int.reduceBEq, Int.reduceBNe, Nat.reduceBEq, Nat.reduceDiv, Nat.reduceMod, Nat.reduceBEq, Int.reduceNeg, Int.reduceToNat, Int.reduceEq, Nat.reduceLeDiff, hlf, hf]
theorem rootOf_no (s : List UInt8) (i n : Int) (v : V) (h : i < 0 ∨ n ≤ i) (hv : matV (fun _ => noBlk) 8 0 v = some (v, [], 0)) : Gf fns 30 [.str s, .int .i64 i, .int .i64 n, v] = some (.str [], []) := by
  refine Gf_start rfl rfl ?_
  simp -implicitDefEqProofs (disch := omega) only [go_sem, Nat.reduceAdd, Nat.reduceMul, Nat.reduceSub, Nat.reduceEqDiff, Nat.reduceLT, Nat.reduceLeDiff, reduceIte, reduceCtorEq, Int.reduceLE, Int.reduceLT, Int.reduceGE, Int.reduceGT, Int.reduceAdd, Int.reduceSub, Int.reduceMul, Int.reduceToNat, Int.reduceBEq, Int.reduceBNe, Nat.reduceBEq, Nat.reduceDiv, Nat.reduceMod, Nat.reduceBEq, Int.reduceNeg, Int.reduceToNat, Int.reduceEq, Nat.reduceLeDiff, noBlk] at hv
  by_cases h1 : i < 0
  · simp -implicitDefEqProofs (disch := omega) only [go_sem, Nat.reduceAdd, Nat.reduceMul, Nat.reduceSub, Nat.reduceEqDiff, Nat.reduceLT, Nat.reduceLeDiff, reduceIte, reduceCtorEq, Int.reduceLE, Int.reduceLT, Int.reduceGE, Int.reduceGT, Int.reduceAdd, Int.reduceSub, Int.reduceMul, Int.reduceToNat, Int.reduceBEq, Int.reduceBNe, Nat.reduceBEq, Nat.reduceDiv, Nat.reduceMod, Nat.reduceBEq, Int.reduceNeg, Int.reduceToNat, Int.reduceEq, Nat.reduceLeDiff, h1, hv]
  · simp -implicitDefEqProofs (disch := omega) only [go_sem, Nat.reduceAdd, Nat.reduceMul, Nat.reduceSub, Nat.reduceEqDiff, Nat.reduceLT, Nat.reduceLeDiff, reduceIte, reduceCtorEq, Int.reduceLE, Int.reduceLT, Int.reduceGE, Int.reduceGT, Int.reduceAdd, Int.reduceSub, Int.reduceMul, Int.reduceToNat, Int.reduceBEq, Int.reduceBNe, Nat.reduceBEq, Nat.reduceDiv, Nat.reduceMod, Nat.reduceBEq, Int.reduceNeg, Int.reduceToNat, Int.reduceEq, Nat.reduceLeDiff, h1, hv]
/-- Does a way up show anything? -/
def climbs (s : List UInt8) (i n : Nat) (p : List (List UInt8)) : Bool := (p.all fun h => decide (h.length = 32)) && (foldR (leafH s) i n p.reverse).2
def climbS (p : List (List UInt8)) (k : SK) (sd : List Bool) (q gq : Nat) (s : List UInt8) (j : Nat) (st : St) : Prop :=
  j ≤ sd.length ∧ st.t 3 = .sl k p.length (p.map V.str) ∧ st.t 11 = .str (sha (gt (outT p sd (0 :: s) j) j)) ∧ st.t 33 = .sli q gq 0 sd.length 1 ∧ st.σ q = ⟨gq, .rw, true, sd.map V.bool⟩ ∧ st.t 34 = .int .i64 (sd.length : Int) ∧ st.t 35 = .int .i64 (j : Int) ∧
  ∃ q2 g2, q2 ∈ [1856, 3776] ∧ st.t 10 = .sli q2 g2 0 (j + 1) 1 ∧ st.σ q2 = ⟨g2, .rw, true, (outT p sd (0 :: s) j).map V.str⟩
theorem climb_loop (p : List (List UInt8)) (k : SK) (sd : List Bool) (q gq : Nat) (s : List UInt8) (hq : q = 2176) (hp : Small p) (hs : s.length ≤ 1000000) (hsd : sd.length = p.length) {Q : Ex → St → Prop} {st : St} (h : climbS p k sd q gq s 0 st) (hQ : ∀ st, climbS p k sd q gq s sd.length st → Q (.exit 0) st) : wpA (tabW fns) (.loop lp26_0) Q st := by
  subst hq
  have hp1 := hp.1
  refine wp_loopS (climbS p k sd 2176 gq s) (fun j => sd.length - j) 0 h ?_
  rintro j ⟨t, σ⟩ ⟨hj, h3, h11, h33, sq, h34, h35, q2, g2, hq2, h10, s2⟩
  simp only at h3 h11 h33 sq h34 h35 h10 s2
  have hne : q2 ≠ 3712 ∧ q2 ≠ 2176 := by simp at hq2; omega
  have e1 : (q2 == 3712) = false := beq_no hne.1
  have e2 : (2176 == q2) = false := beq_no (by omega)
  have e3 : (3712 == q2) = false := beq_no (by omega)
  simp -implicitDefEqProofs (disch := omega) only [go_sem, Nat.reduceAdd, Nat.reduceMul, Nat.reduceSub, Nat.reduceEqDiff, Nat.reduceLT, Nat.reduceLeDiff, reduceIte, reduceCtorEq, Int.reduceLE, Int.reduceLT, Int.reduceGE, Int.reduceGT, Int.reduceAdd, Int.reduceSub, Int.reduceMul, Int.reduceToNat, Int.reduceBEq, Int.reduceBNe, Nat.reduceBEq, Nat.reduceDiv, Nat.reduceMod, Nat.reduceBEq, Int.reduceNeg, Int.reduceToNat, Int.reduceEq, Nat.reduceLeDiff, lp26_0, h34, h35]
  refine condC_dec (fun hc => ?_) (fun hc => ?_)
  · have hpj := hp.at (i := j) (by omega)
    have hX : outT p sd (0 :: s) (j + 1) = outT p sd (0 :: s) j ++ [stepT (sha (gt (outT p sd (0 :: s) j) j)) (gt p j) (gt sd j)] := rfl
    have hXn := outT_next p sd (0 :: s) j
    have hXl := outT_len p sd (0 :: s) j
    have hsl := sha_len (gt (outT p sd (0 :: s) j) j)
    generalize gt (outT p sd (0 :: s) j) j = tx at *
    generalize outT p sd (0 :: s) j = X at *
    have h1 := sha_ok (1 :: (sha tx ++ gt p j)) (by simp; omega)
    have h2 := sha_ok (1 :: (gt p j ++ sha tx)) (by simp; omega)
    generalize hside : gt sd j = b at *
    cases b with
    | true =>
      have ht : stepT (sha tx) (gt p j) true = 1 :: (sha tx ++ gt p j) := rfl
      rw [ht] at hX hXn
      simp -implicitDefEqProofs (disch := omega) only [go_sem, Nat.reduceAdd, Nat.reduceMul, Nat.reduceSub, Nat.reduceEqDiff, Nat.reduceLT, Nat.reduceLeDiff, reduceIte, reduceCtorEq, Int.reduceLE, Int.reduceLT, Int.reduceGE, Int.reduceGT, Int.reduceAdd, Int.reduceSub, Int.reduceMul, Int.reduceToNat, Int.reduceBEq, Int.reduceBNe, Nat.reduceBEq, Nat.reduceDiv, Nat.reduceMod, Nat.reduceBEq, Int.reduceNeg, Int.reduceToNat, Int.reduceEq, Nat.reduceLeDiff, h3, h11, h33, sq, h34, h35, h10, s2, e1, e2, e3, hside, h1]
      refine ⟨j + 1, by omega, by omega, by simp -implicitDefEqProofs (disch := omega) only [go_sem, Nat.reduceAdd, Nat.reduceMul, Nat.reduceSub, Nat.reduceEqDiff, Nat.reduceLT, Nat.reduceLeDiff, reduceIte, reduceCtorEq, Int.reduceLE, Int.reduceLT, Int.reduceGE, Int.reduceGT, Int.reduceAdd, Int.reduceSub, Int.reduceMul, Int.reduceToNat, Int.reduceBEq, Int.reduceBNe, Nat.reduceBEq, Nat.reduceDiv, Nat.reduceMod, Nat.reduceBEq, Int.reduceNeg, Int.reduceToNat, Int.reduceEq, Nat.reduceLeDiff, h3], by rw [hXn]; simp -implicitDefEqProofs (disch := omega) only [go_sem, Nat.reduceAdd, Nat.reduceMul, Nat.reduceSub, Nat.reduceEqDiff, Nat.reduceLT, Nat.reduceLeDiff, reduceIte, reduceCtorEq, Int.reduceLE, Int.reduceLT, Int.reduceGE, Int.reduceGT, Int.reduceAdd, Int.reduceSub, Int.reduceMul, Int.reduceToNat, Int.reduceBEq, Int.reduceBNe, Nat.reduceBEq, Nat.reduceDiv, Nat.reduceMod, Nat.reduceBEq, Int.reduceNeg, Int.reduceToNat, Int.reduceEq, Nat.reduceLeDiff, go_sem], by simp -implicitDefEqProofs (disch := omega) only [go_sem, Nat.reduceAdd, Nat.reduceMul, Nat.reduceSub, Nat.reduceEqDiff, Nat.reduceLT, Nat.reduceLeDiff, reduceIte, reduceCtorEq, Int.reduceLE, Int.reduceLT, Int.reduceGE, Int.reduceGT, Int.reduceAdd, Int.reduceSub, Int.reduceMul, Int.reduceToNat, Int.reduceBEq, Int.reduceBNe, Nat.reduceBEq, Nat.reduceDiv, Nat.reduceMod, Nat.reduceBEq, Int.reduceNeg, Int.reduceToNat, Int.reduceEq, Nat.reduceLeDiff, h33], by simp -implicitDefEqProofs (disch := omega) only [go_sem, Nat.reduceAdd, Nat.reduceMul, Nat.reduceSub, Nat.reduceEqDiff, Nat.reduceLT, Nat.reduceLeDiff, reduceIte, reduceCtorEq, Int.reduceLE, Int.reduceLT, Int.reduceGE, Int.reduceGT, Int.reduceAdd, Int.reduceSub, Int.reduceMul, Int.reduceToNat, Int.reduceBEq, Int.reduceBNe, Nat.reduceBEq, Nat.reduceDiv, Nat.reduceMod, Nat.reduceBEq, Int.reduceNeg, Int.reduceToNat, Int.reduceEq, Nat.reduceLeDiff, sq, e2], by simp -implicitDefEqProofs (disch := omega) only [go_sem, Nat.reduceAdd, Nat.reduceMul, Nat.reduceSub, Nat.reduceEqDiff, Nat.reduceLT, Nat.reduceLeDiff, reduceIte, reduceCtorEq, Int.reduceLE, Int.reduceLT, Int.reduceGE, Int.reduceGT, Int.reduceAdd, Int.reduceSub, Int.reduceMul, Int.reduceToNat, Int.reduceBEq, Int.reduceBNe, Nat.reduceBEq, Nat.reduceDiv, Nat.reduceMod, Nat.reduceBEq, Int.reduceNeg, Int.reduceToNat, Int.reduceEq, Nat.reduceLeDiff, h34], by simp -implicitDefEqProofs (disch := omega) only [go_sem, Nat.reduceAdd, Nat.reduceMul, Nat.reduceSub, Nat.reduceEqDiff, Nat.reduceLT, Nat.reduceLeDiff, reduceIte, reduceCtorEq, Int.reduceLE, Int.reduceLT, Int.reduceGE, Int.reduceGT, Int.reduceAdd, Int.reduceSub, Int.reduceMul, Int.reduceToNat, Int.reduceBEq, Int.reduceBNe, Nat.reduceBEq, Nat.reduceDiv, Nat.reduceMod, Nat.reduceBEq, Int.reduceNeg, Int.reduceToNat, Int.reduceEq, Nat.reduceLeDiff, go_sem], 3776, (σ 3776).gen + 1, by simp, by simp -implicitDefEqProofs (disch := omega) only [go_sem, Nat.reduceAdd, Nat.reduceMul, Nat.reduceSub, Nat.reduceEqDiff, Nat.reduceLT, Nat.reduceLeDiff, reduceIte, reduceCtorEq, Int.reduceLE, Int.reduceLT, Int.reduceGE, Int.reduceGT, Int.reduceAdd, Int.reduceSub, Int.reduceMul, Int.reduceToNat, Int.reduceBEq, Int.reduceBNe, Nat.reduceBEq, Nat.reduceDiv, Nat.reduceMod, Nat.reduceBEq, Int.reduceNeg, Int.reduceToNat, Int.reduceEq, Nat.reduceLeDiff, go_sem], ?_⟩
      rw [hX]; simp -implicitDefEqProofs (disch := omega) only [go_sem, Nat.reduceAdd, Nat.reduceMul, Nat.reduceSub, Nat.reduceEqDiff, Nat.reduceLT, Nat.reduceLeDiff, reduceIte, reduceCtorEq, Int.reduceLE, Int.reduceLT, Int.reduceGE, Int.reduceGT, Int.reduceAdd, Int.reduceSub, Int.reduceMul, Int.reduceToNat, Int.reduceBEq, Int.reduceBNe, Nat.reduceBEq, Nat.reduceDiv, Nat.reduceMod, Nat.reduceBEq, Int.reduceNeg, Int.reduceToNat, Int.reduceEq, Nat.reduceLeDiff, go_sem]
    | false =>
      have ht : stepT (sha tx) (gt p j) false = 1 :: (gt p j ++ sha tx) := rfl
      rw [ht] at hX hXn
      simp -implicitDefEqProofs (disch := omega) only [go_sem, Nat.reduceAdd, Nat.reduceMul, Nat.reduceSub, Nat.reduceEqDiff, Nat.reduceLT, Nat.reduceLeDiff, reduceIte, reduceCtorEq, Int.reduceLE, Int.reduceLT, Int.reduceGE, Int.reduceGT, Int.reduceAdd, Int.reduceSub, Int.reduceMul, Int.reduceToNat, Int.reduceBEq, Int.reduceBNe, Nat.reduceBEq, Nat.reduceDiv, Nat.reduceMod, Nat.reduceBEq, Int.reduceNeg, Int.reduceToNat, Int.reduceEq, Nat.reduceLeDiff, h3, h11, h33, sq, h34, h35, h10, s2, e1, e2, e3, hside, h2]
      refine ⟨j + 1, by omega, by omega, by simp -implicitDefEqProofs (disch := omega) only [go_sem, Nat.reduceAdd, Nat.reduceMul, Nat.reduceSub, Nat.reduceEqDiff, Nat.reduceLT, Nat.reduceLeDiff, reduceIte, reduceCtorEq, Int.reduceLE, Int.reduceLT, Int.reduceGE, Int.reduceGT, Int.reduceAdd, Int.reduceSub, Int.reduceMul, Int.reduceToNat, Int.reduceBEq, Int.reduceBNe, Nat.reduceBEq, Nat.reduceDiv, Nat.reduceMod, Nat.reduceBEq, Int.reduceNeg, Int.reduceToNat, Int.reduceEq, Nat.reduceLeDiff, h3], by rw [hXn]; simp -implicitDefEqProofs (disch := omega) only [go_sem, Nat.reduceAdd, Nat.reduceMul, Nat.reduceSub, Nat.reduceEqDiff, Nat.reduceLT, Nat.reduceLeDiff, reduceIte, reduceCtorEq, Int.reduceLE, Int.reduceLT, Int.reduceGE, Int.reduceGT, Int.reduceAdd, Int.reduceSub, Int.reduceMul, Int.reduceToNat, Int.reduceBEq, Int.reduceBNe, Nat.reduceBEq, Nat.reduceDiv, Nat.reduceMod, Nat.reduceBEq, Int.reduceNeg, Int.reduceToNat, Int.reduceEq, Nat.reduceLeDiff, go_sem], by simp -implicitDefEqProofs (disch := omega) only [go_sem, Nat.reduceAdd, Nat.reduceMul, Nat.reduceSub, Nat.reduceEqDiff, Nat.reduceLT, Nat.reduceLeDiff, reduceIte, reduceCtorEq, Int.reduceLE, Int.reduceLT, Int.reduceGE, Int.reduceGT, Int.reduceAdd, Int.reduceSub, Int.reduceMul, Int.reduceToNat, Int.reduceBEq, Int.reduceBNe, Nat.reduceBEq, Nat.reduceDiv, Nat.reduceMod, Nat.reduceBEq, Int.reduceNeg, Int.reduceToNat, Int.reduceEq, Nat.reduceLeDiff, h33], by simp -implicitDefEqProofs (disch := omega) only [go_sem, Nat.reduceAdd, Nat.reduceMul, Nat.reduceSub, Nat.reduceEqDiff, Nat.reduceLT, Nat.reduceLeDiff, reduceIte, reduceCtorEq, Int.reduceLE, Int.reduceLT, Int.reduceGE, Int.reduceGT, Int.reduceAdd, Int.reduceSub, Int.reduceMul, Int.reduceToNat, Int.reduceBEq, Int.reduceBNe, Nat.reduceBEq, Nat.reduceDiv, Nat.reduceMod, Nat.reduceBEq, Int.reduceNeg, Int.reduceToNat, Int.reduceEq, Nat.reduceLeDiff, sq, e2], by simp -implicitDefEqProofs (disch := omega) only [go_sem, Nat.reduceAdd, Nat.reduceMul, Nat.reduceSub, Nat.reduceEqDiff, Nat.reduceLT, Nat.reduceLeDiff, reduceIte, reduceCtorEq, Int.reduceLE, Int.reduceLT, Int.reduceGE, Int.reduceGT, Int.reduceAdd, Int.reduceSub, Int.reduceMul, Int.reduceToNat, Int.reduceBEq, Int.reduceBNe, Nat.reduceBEq, Nat.reduceDiv, Nat.reduceMod, Nat.reduceBEq, Int.reduceNeg, Int.reduceToNat, Int.reduceEq, Nat.reduceLeDiff, h34], by simp -implicitDefEqProofs (disch := omega) only [go_sem, Nat.reduceAdd, Nat.reduceMul, Nat.reduceSub, Nat.reduceEqDiff, Nat.reduceLT, Nat.reduceLeDiff, reduceIte, reduceCtorEq, Int.reduceLE, Int.reduceLT, Int.reduceGE, Int.reduceGT, Int.reduceAdd, Int.reduceSub, Int.reduceMul, Int.reduceToNat, Int.reduceBEq, Int.reduceBNe, Nat.reduceBEq, Nat.reduceDiv, Nat.reduceMod, Nat.reduceBEq, Int.reduceNeg, Int.reduceToNat, Int.reduceEq, Nat.reduceLeDiff, go_sem], 3776, (σ 3776).gen + 1, by simp, by simp -implicitDefEqProofs (disch := omega) only [go_sem, Nat.reduceAdd, Nat.reduceMul, Nat.reduceSub, Nat.reduceEqDiff, Nat.reduceLT, Nat.reduceLeDiff, reduceIte, reduceCtorEq, Int.reduceLE, Int.reduceLT, Int.reduceGE, Int.reduceGT, Int.reduceAdd, Int.reduceSub, Int.reduceMul, Int.reduceToNat, Int.reduceBEq, Int.reduceBNe, Nat.reduceBEq, Nat.reduceDiv, Nat.reduceMod, Nat.reduceBEq, Int.reduceNeg, Int.reduceToNat, Int.reduceEq, Nat.reduceLeDiff, go_sem], ?_⟩
      rw [hX]; simp -implicitDefEqProofs (disch := omega) only [go_sem, Nat.reduceAdd, Nat.reduceMul, Nat.reduceSub, Nat.reduceEqDiff, Nat.reduceLT, Nat.reduceLeDiff, reduceIte, reduceCtorEq, Int.reduceLE, Int.reduceLT, Int.reduceGE, Int.reduceGT, Int.reduceAdd, Int.reduceSub, Int.reduceMul, Int.reduceToNat, Int.reduceBEq, Int.reduceBNe, Nat.reduceBEq, Nat.reduceDiv, Nat.reduceMod, Nat.reduceBEq, Int.reduceNeg, Int.reduceToNat, Int.reduceEq, Nat.reduceLeDiff, go_sem]
  · obtain rfl : j = sd.length := by omega
    simp -implicitDefEqProofs (disch := omega) only [go_sem, Nat.reduceAdd, Nat.reduceMul, Nat.reduceSub, Nat.reduceEqDiff, Nat.reduceLT, Nat.reduceLeDiff, reduceIte, reduceCtorEq, Int.reduceLE, Int.reduceLT, Int.reduceGE, Int.reduceGT, Int.reduceAdd, Int.reduceSub, Int.reduceMul, Int.reduceToNat, Int.reduceBEq, Int.reduceBNe, Nat.reduceBEq, Nat.reduceDiv, Nat.reduceMod, Nat.reduceBEq, Int.reduceNeg, Int.reduceToNat, Int.reduceEq, Nat.reduceLeDiff, go_sem]
    exact hQ _ ⟨by omega, by simp -implicitDefEqProofs (disch := omega) only [go_sem, Nat.reduceAdd, Nat.reduceMul, Nat.reduceSub, Nat.reduceEqDiff, Nat.reduceLT, Nat.reduceLeDiff, reduceIte, reduceCtorEq, Int.reduceLE, Int.reduceLT, Int.reduceGE, Int.reduceGT, Int.reduceAdd, Int.reduceSub, Int.reduceMul, Int.reduceToNat, Int.reduceBEq, Int.reduceBNe, Nat.reduceBEq, Nat.reduceDiv, Nat.reduceMod, Nat.reduceBEq, Int.reduceNeg, Int.reduceToNat, Int.reduceEq, Nat.reduceLeDiff, h3], by simp -implicitDefEqProofs (disch := omega) only [go_sem, Nat.reduceAdd, Nat.reduceMul, Nat.reduceSub, Nat.reduceEqDiff, Nat.reduceLT, Nat.reduceLeDiff, reduceIte, reduceCtorEq, Int.reduceLE, Int.reduceLT, Int.reduceGE, Int.reduceGT, Int.reduceAdd, Int.reduceSub, Int.reduceMul, Int.reduceToNat, Int.reduceBEq, Int.reduceBNe, Nat.reduceBEq, Nat.reduceDiv, Nat.reduceMod, Nat.reduceBEq, Int.reduceNeg, Int.reduceToNat, Int.reduceEq, Nat.reduceLeDiff, h11], by simp -implicitDefEqProofs (disch := omega) only [go_sem, Nat.reduceAdd, Nat.reduceMul, Nat.reduceSub, Nat.reduceEqDiff, Nat.reduceLT, Nat.reduceLeDiff, reduceIte, reduceCtorEq, Int.reduceLE, Int.reduceLT, Int.reduceGE, Int.reduceGT, Int.reduceAdd, Int.reduceSub, Int.reduceMul, Int.reduceToNat, Int.reduceBEq, Int.reduceBNe, Nat.reduceBEq, Nat.reduceDiv, Nat.reduceMod, Nat.reduceBEq, Int.reduceNeg, Int.reduceToNat, Int.reduceEq, Nat.reduceLeDiff, h33], sq, by simp -implicitDefEqProofs (disch := omega) only [go_sem, Nat.reduceAdd, Nat.reduceMul, Nat.reduceSub, Nat.reduceEqDiff, Nat.reduceLT, Nat.reduceLeDiff, reduceIte, reduceCtorEq, Int.reduceLE, Int.reduceLT, Int.reduceGE, Int.reduceGT, Int.reduceAdd, Int.reduceSub, Int.reduceMul, Int.reduceToNat, Int.reduceBEq, Int.reduceBNe, Nat.reduceBEq, Nat.reduceDiv, Nat.reduceMod, Nat.reduceBEq, Int.reduceNeg, Int.reduceToNat, Int.reduceEq, Nat.reduceLeDiff, h34], by simp -implicitDefEqProofs (disch := omega) only [go_sem, Nat.reduceAdd, Nat.reduceMul, Nat.reduceSub, Nat.reduceEqDiff, Nat.reduceLT, Nat.reduceLeDiff, reduceIte, reduceCtorEq, Int.reduceLE, Int.reduceLT, Int.reduceGE, Int.reduceGT, Int.reduceAdd, Int.reduceSub, Int.reduceMul, Int.reduceToNat, Int.reduceBEq, Int.reduceBNe, Nat.reduceBEq, Nat.reduceDiv, Nat.reduceMod, Nat.reduceBEq, Int.reduceNeg, Int.reduceToNat, Int.reduceEq, Nat.reduceLeDiff, h35], q2, g2, hq2, by simp -implicitDefEqProofs (disch := omega) only [go_sem, Nat.reduceAdd, Nat.reduceMul, Nat.reduceSub, Nat.reduceEqDiff, Nat.reduceLT, Nat.reduceLeDiff, reduceIte, reduceCtorEq, Int.reduceLE, Int.reduceLT, Int.reduceGE, Int.reduceGT, Int.reduceAdd, Int.reduceSub, Int.reduceMul, Int.reduceToNat, Int.reduceBEq, Int.reduceBNe, Nat.reduceBEq, Nat.reduceDiv, Nat.reduceMod, Nat.reduceBEq, Int.reduceNeg, Int.reduceToNat, Int.reduceEq, Nat.reduceLeDiff, h10], s2⟩
theorem climbs_spec {s : List UInt8} {i n : Nat} {p : List (List UInt8)} (hi : i < n) (h : climbs s i n p = true) : p.length = (sidesR i n).reverse.length ∧ ∀ k, k < p.length → (gt p k).length = 32 := by
  unfold climbs at h
  rw [Bool.and_eq_true, List.all_eq_true] at h
  refine ⟨?_, fun k hk => by simpa using h.1 _ (gt_mem hk)⟩
  have := fold_sides p.reverse (leafH s) i n hi h.2
  simpa using this
theorem climb_ok (s : List UInt8) (i n : Nat) (k : SK) (p : List (List UInt8)) (hi : i < n) (hn : n ≤ 1000000) (hp : Small p) (hs : s.length ≤ 100000) :
    Gf fns 26 [.str s, .int .i64 (i : Int), .int .i64 (n : Int), .sl k p.length (p.map V.str)] = some (if climbs s i n p = true then
      .tup [.osl 1 (p.length + 1) ((outT p (sidesR i n).reverse (0 :: s) p.length).map V.str), .str (sha (gt (outT p (sidesR i n).reverse (0 :: s) p.length) p.length))] else .tup [.sl .nil 0 [], .str []], []) := by
  have hp1 := hp.1
  have ro := rootOf_ok s i n k p hi hn hp (by omega)
  have hv := Verify_ok (foldR (leafH s) i n p.reverse).1 s i n k p hi hn hp1 (by omega)
  have hve : verifyB (foldR (leafH s) i n p.reverse).1 s i n p = climbs s i n p := by unfold verifyB climbs; simp
  rw [hve] at hv
  have hlf := Leaf_ok s (by omega)
  have sd := sides_ok n i n (Nat.le_refl _) hi hn
  by_cases hc : climbs s i n p = true
  · obtain ⟨c1, c2⟩ := climbs_spec hi hc
    rw [hc] at hv
    rw [if_pos hc]
    generalize (sidesR i n).reverse = R at *
    refine Gf_start rfl rfl ?_
    by_cases hR : R = []
    · subst hR
      have hb : boolsV ([] : List Bool) = .sl .nil 0 [] := rfl
      have hp0 : p = [] := by simpa using c1
      subst hp0
      rw [hb] at sd
      simp -implicitDefEqProofs (disch := omega) only [go_sem, Nat.reduceAdd, Nat.reduceMul, Nat.reduceSub, Nat.reduceEqDiff, Nat.reduceLT, Nat.reduceLeDiff, reduceIte, reduceCtorEq, Int.reduceLE, Int.reduceLT, Int.reduceGE, Int.reduceGT, Int.reduceAdd, Int.reduceSub, Int.reduceMul, Int.reduceToNat, Int.reduceBEq, Int.reduceBNe, Nat.reduceBEq, Nat.reduceDiv, Nat.reduceMod, Nat.reduceBEq, Int.reduceNeg, Int.reduceToNat, Int.reduceEq, Nat.reduceLeDiff, go_sem] at ro
      simp -implicitDefEqProofs (disch := omega) only [go_sem, Nat.reduceAdd, Nat.reduceMul, Nat.reduceSub, Nat.reduceEqDiff, Nat.reduceLT, Nat.reduceLeDiff, reduceIte, reduceCtorEq, Int.reduceLE, Int.reduceLT, Int.reduceGE, Int.reduceGT, Int.reduceAdd, Int.reduceSub, Int.reduceMul, Int.reduceToNat, Int.reduceBEq, Int.reduceBNe, Nat.reduceBEq, Nat.reduceDiv, Nat.reduceMod, Nat.reduceBEq, Int.reduceNeg, Int.reduceToNat, Int.reduceEq, Nat.reduceLeDiff, go_sem] at hv
      simp -implicitDefEqProofs (disch := omega) only [go_sem, Nat.reduceAdd, Nat.reduceMul, Nat.reduceSub, Nat.reduceEqDiff, Nat.reduceLT, Nat.reduceLeDiff, reduceIte, reduceCtorEq, Int.reduceLE, Int.reduceLT, Int.reduceGE, Int.reduceGT, Int.reduceAdd, Int.reduceSub, Int.reduceMul, Int.reduceToNat, Int.reduceBEq, Int.reduceBNe, Nat.reduceBEq, Nat.reduceDiv, Nat.reduceMod, Nat.reduceBEq, Int.reduceNeg, Int.reduceToNat, Int.reduceEq, Nat.reduceLeDiff, ro, hv, hlf, sd]
      refine wp_loopS (fun (_ : Unit) (st : St) => st.t 34 = .int .i64 0 ∧ st.t 35 = .int .i64 0 ∧ st.t 10 = .sli 1856 1 0 1 1 ∧ st.σ 1856 = ⟨1, .rw, true, [.str (0 :: s)]⟩ ∧ st.t 11 = .str (leafH s)) (fun _ => 0) () ⟨by simp -implicitDefEqProofs (disch := omega) only [go_sem, Nat.reduceAdd, Nat.reduceMul, Nat.reduceSub, Nat.reduceEqDiff, Nat.reduceLT, Nat.reduceLeDiff, reduceIte, reduceCtorEq, Int.reduceLE, Int.reduceLT, Int.reduceGE, Int.reduceGT, Int.reduceAdd, Int.reduceSub, Int.reduceMul, Int.reduceToNat, Int.reduceBEq, Int.reduceBNe, Nat.reduceBEq, Nat.reduceDiv, Nat.reduceMod, Nat.reduceBEq, Int.reduceNeg, Int.reduceToNat, Int.reduceEq, Nat.reduceLeDiff, go_sem], by simp -implicitDefEqProofs (disch := omega) only [go_sem, Nat.reduceAdd, Nat.reduceMul, Nat.reduceSub, Nat.reduceEqDiff, Nat.reduceLT, Nat.reduceLeDiff, reduceIte, reduceCtorEq, Int.reduceLE, Int.reduceLT, Int.reduceGE, Int.reduceGT, Int.reduceAdd, Int.reduceSub, Int.reduceMul, Int.reduceToNat, Int.reduceBEq, Int.reduceBNe, Nat.reduceBEq, Nat.reduceDiv, Nat.reduceMod, Nat.reduceBEq, Int.reduceNeg, Int.reduceToNat, Int.reduceEq, Nat.reduceLeDiff, go_sem], by simp -implicitDefEqProofs (disch := omega) only [go_sem, Nat.reduceAdd, Nat.reduceMul, Nat.reduceSub, Nat.reduceEqDiff, Nat.reduceLT, Nat.reduceLeDiff, reduceIte, reduceCtorEq, Int.reduceLE, Int.reduceLT, Int.reduceGE, Int.reduceGT, Int.reduceAdd, Int.reduceSub, Int.reduceMul, Int.reduceToNat, Int.reduceBEq, Int.reduceBNe, Nat.reduceBEq, Nat.reduceDiv, Nat.reduceMod, Nat.reduceBEq, Int.reduceNeg, Int.reduceToNat, Int.reduceEq, Nat.reduceLeDiff, go_sem], by simp -implicitDefEqProofs (disch := omega) only [go_sem, Nat.reduceAdd, Nat.reduceMul, Nat.reduceSub, Nat.reduceEqDiff, Nat.reduceLT, Nat.reduceLeDiff, reduceIte, reduceCtorEq, Int.reduceLE, Int.reduceLT, Int.reduceGE, Int.reduceGT, Int.reduceAdd, Int.reduceSub, Int.reduceMul, Int.reduceToNat, Int.reduceBEq, Int.reduceBNe, Nat.reduceBEq, Nat.reduceDiv, Nat.reduceMod, Nat.reduceBEq, Int.reduceNeg, Int.reduceToNat, Int.reduceEq, Nat.reduceLeDiff, go_sem], by simp -implicitDefEqProofs (disch := omega) only [go_sem, Nat.reduceAdd, Nat.reduceMul, Nat.reduceSub, Nat.reduceEqDiff, Nat.reduceLT, Nat.reduceLeDiff, reduceIte, reduceCtorEq, Int.reduceLE, Int.reduceLT, Int.reduceGE, Int.reduceGT, Int.reduceAdd, Int.reduceSub, Int.reduceMul, Int.reduceToNat, Int.reduceBEq, Int.reduceBNe, Nat.reduceBEq, Nat.reduceDiv, Nat.reduceMod, Nat.reduceBEq, Int.reduceNeg, Int.reduceToNat, Int.reduceEq, Nat.reduceLeDiff, go_sem]⟩ ?_
      rintro _ ⟨t, σ⟩ ⟨h34, h35, h10, s10, h11⟩
      simp only at h34 h35 h10 s10 h11
      simp -implicitDefEqProofs (disch := omega) only [go_sem, Nat.reduceAdd, Nat.reduceMul, Nat.reduceSub, Nat.reduceEqDiff, Nat.reduceLT, Nat.reduceLeDiff, reduceIte, reduceCtorEq, Int.reduceLE, Int.reduceLT, Int.reduceGE, Int.reduceGT, Int.reduceAdd, Int.reduceSub, Int.reduceMul, Int.reduceToNat, Int.reduceBEq, Int.reduceBNe, Nat.reduceBEq, Nat.reduceDiv, Nat.reduceMod, Nat.reduceBEq, Int.reduceNeg, Int.reduceToNat, Int.reduceEq, Nat.reduceLeDiff, lp26_0, h34, h35, h10, s10, h11]
      rfl
    · have hb : boolsV R = .osl 1 R.length (R.map V.bool) := by simp [boolsV, hR]
      rw [hb] at sd
      simp -implicitDefEqProofs (disch := omega) only [go_sem, Nat.reduceAdd, Nat.reduceMul, Nat.reduceSub, Nat.reduceEqDiff, Nat.reduceLT, Nat.reduceLeDiff, reduceIte, reduceCtorEq, Int.reduceLE, Int.reduceLT, Int.reduceGE, Int.reduceGT, Int.reduceAdd, Int.reduceSub, Int.reduceMul, Int.reduceToNat, Int.reduceBEq, Int.reduceBNe, Nat.reduceBEq, Nat.reduceDiv, Nat.reduceMod, Nat.reduceBEq, Int.reduceNeg, Int.reduceToNat, Int.reduceEq, Nat.reduceLeDiff, ro, hv, hlf, sd]
      refine climb_loop p k R 2176 1 s rfl hp (by omega) c1.symm ⟨by omega, by simp -implicitDefEqProofs (disch := omega) only [go_sem, Nat.reduceAdd, Nat.reduceMul, Nat.reduceSub, Nat.reduceEqDiff, Nat.reduceLT, Nat.reduceLeDiff, reduceIte, reduceCtorEq, Int.reduceLE, Int.reduceLT, Int.reduceGE, Int.reduceGT, Int.reduceAdd, Int.reduceSub, Int.reduceMul, Int.reduceToNat, Int.reduceBEq, Int.reduceBNe, Nat.reduceBEq, Nat.reduceDiv, Nat.reduceMod, Nat.reduceBEq, Int.reduceNeg, Int.reduceToNat, Int.reduceEq, Nat.reduceLeDiff, go_sem], by simp -implicitDefEqProofs (disch := omega) only [go_sem, Nat.reduceAdd, Nat.reduceMul, Nat.reduceSub, Nat.reduceEqDiff, Nat.reduceLT, Nat.reduceLeDiff, reduceIte, reduceCtorEq, Int.reduceLE, Int.reduceLT, Int.reduceGE, Int.reduceGT, Int.reduceAdd, Int.reduceSub, Int.reduceMul, Int.reduceToNat, Int.reduceBEq, Int.reduceBNe, Nat.reduceBEq, Nat.reduceDiv, Nat.reduceMod, Nat.reduceBEq, Int.reduceNeg, Int.reduceToNat, Int.reduceEq, Nat.reduceLeDiff, outT]; rfl, by simp -implicitDefEqProofs (disch := omega) only [go_sem, Nat.reduceAdd, Nat.reduceMul, Nat.reduceSub, Nat.reduceEqDiff, Nat.reduceLT, Nat.reduceLeDiff, reduceIte, reduceCtorEq, Int.reduceLE, Int.reduceLT, Int.reduceGE, Int.reduceGT, Int.reduceAdd, Int.reduceSub, Int.reduceMul, Int.reduceToNat, Int.reduceBEq, Int.reduceBNe, Nat.reduceBEq, Nat.reduceDiv, Nat.reduceMod, Nat.reduceBEq, Int.reduceNeg, Int.reduceToNat, Int.reduceEq, Nat.reduceLeDiff, go_sem], by simp -implicitDefEqProofs (disch := omega) only [go_sem, Nat.reduceAdd, Nat.reduceMul, Nat.reduceSub, Nat.reduceEqDiff, Nat.reduceLT, Nat.reduceLeDiff, reduceIte, reduceCtorEq, Int.reduceLE, Int.reduceLT, Int.reduceGE, Int.reduceGT, Int.reduceAdd, Int.reduceSub, Int.reduceMul, Int.reduceToNat, Int.reduceBEq, Int.reduceBNe, Nat.reduceBEq, Nat.reduceDiv, Nat.reduceMod, Nat.reduceBEq, Int.reduceNeg, Int.reduceToNat, Int.reduceEq, Nat.reduceLeDiff, go_sem], by simp -implicitDefEqProofs (disch := omega) only [go_sem, Nat.reduceAdd, Nat.reduceMul, Nat.reduceSub, Nat.reduceEqDiff, Nat.reduceLT, Nat.reduceLeDiff, reduceIte, reduceCtorEq, Int.reduceLE, Int.reduceLT, Int.reduceGE, Int.reduceGT, Int.reduceAdd, Int.reduceSub, Int.reduceMul, Int.reduceToNat, Int.reduceBEq, Int.reduceBNe, Nat.reduceBEq, Nat.reduceDiv, Nat.reduceMod, Nat.reduceBEq, Int.reduceNeg, Int.reduceToNat, Int.reduceEq, Nat.reduceLeDiff, go_sem], by simp -implicitDefEqProofs (disch := omega) only [go_sem, Nat.reduceAdd, Nat.reduceMul, Nat.reduceSub, Nat.reduceEqDiff, Nat.reduceLT, Nat.reduceLeDiff, reduceIte, reduceCtorEq, Int.reduceLE, Int.reduceLT, Int.reduceGE, Int.reduceGT, Int.reduceAdd, Int.reduceSub, Int.reduceMul, Int.reduceToNat, Int.reduceBEq, Int.reduceBNe, Nat.reduceBEq, Nat.reduceDiv, Nat.reduceMod, Nat.reduceBEq, Int.reduceNeg, Int.reduceToNat, Int.reduceEq, Nat.reduceLeDiff, go_sem], 1856, 1, by simp, by simp -implicitDefEqProofs (disch := omega) only [go_sem, Nat.reduceAdd, Nat.reduceMul, Nat.reduceSub, Nat.reduceEqDiff, Nat.reduceLT, Nat.reduceLeDiff, reduceIte, reduceCtorEq, Int.reduceLE, Int.reduceLT, Int.reduceGE, Int.reduceGT, Int.reduceAdd, Int.reduceSub, Int.reduceMul, Int.reduceToNat, Int.reduceBEq, Int.reduceBNe, Nat.reduceBEq, Nat.reduceDiv, Nat.reduceMod, Nat.reduceBEq, Int.reduceNeg, Int.reduceToNat, Int.reduceEq, Nat.reduceLeDiff, go_sem], by simp -implicitDefEqProofs (disch := omega) only [go_sem, Nat.reduceAdd, Nat.reduceMul, Nat.reduceSub, Nat.reduceEqDiff, Nat.reduceLT, Nat.reduceLeDiff, reduceIte, reduceCtorEq, Int.reduceLE, Int.reduceLT, Int.reduceGE, Int.reduceGT, Int.reduceAdd, Int.reduceSub, Int.reduceMul, Int.reduceToNat, Int.reduceBEq, Int.reduceBNe, Nat.reduceBEq, Nat.reduceDiv, Nat.reduceMod, Nat.reduceBEq, Int.reduceNeg, Int.reduceToNat, Int.reduceEq, Nat.reduceLeDiff, outT]⟩ ?_
      rintro ⟨t, σ⟩ ⟨_, h3, h11, h33, sq, h34, h35, q2, g2, hq2, h10, s2⟩
      simp only at h11 h10 s2
      have hXl := outT_len p R (0 :: s) p.length
      rw [← c1] at h11 h10 s2
      simp -implicitDefEqProofs (disch := omega) only [go_sem, Nat.reduceAdd, Nat.reduceMul, Nat.reduceSub, Nat.reduceEqDiff, Nat.reduceLT, Nat.reduceLeDiff, reduceIte, reduceCtorEq, Int.reduceLE, Int.reduceLT, Int.reduceGE, Int.reduceGT, Int.reduceAdd, Int.reduceSub, Int.reduceMul, Int.reduceToNat, Int.reduceBEq, Int.reduceBNe, Nat.reduceBEq, Nat.reduceDiv, Nat.reduceMod, Nat.reduceBEq, Int.reduceNeg, Int.reduceToNat, Int.reduceEq, Nat.reduceLeDiff, h11, h10, s2, hXl]
  · rw [if_neg hc]
    rw [Bool.not_eq_true] at hc
    rw [hc] at hv
    refine Gf_start rfl rfl ?_
    simp -implicitDefEqProofs (disch := omega) only [go_sem, Nat.reduceAdd, Nat.reduceMul, Nat.reduceSub, Nat.reduceEqDiff, Nat.reduceLT, Nat.reduceLeDiff, reduceIte, reduceCtorEq, Int.reduceLE, Int.reduceLT, Int.reduceGE, Int.reduceGT, Int.reduceAdd, Int.reduceSub, Int.reduceMul, Int.reduceToNat, Int.reduceBEq, Int.reduceBNe, Nat.reduceBEq, Nat.reduceDiv, Nat.reduceMod, Nat.reduceBEq, Int.reduceNeg, Int.reduceToNat, Int.reduceEq, Nat.reduceLeDiff, ro, hv]
theorem climb_no (s : List UInt8) (i n : Int) (h : i < 0 ∨ n ≤ i) (k : SK) (p : List (List UInt8)) : Gf fns 26 [.str s, .int .i64 i, .int .i64 n, .sl k p.length (p.map V.str)] = some (.tup [.sl .nil 0 [], .str []], []) := by
  have ro := rootOf_no s i n (.sl k p.length (p.map V.str)) h rfl
  have hv : Gf fns 12 [.str [], .str s, .int .i64 i, .int .i64 n, .sl k p.length (p.map V.str)] = some (.bool false, []) := by
    refine Gf_start rfl rfl ?_
    by_cases h1 : i < 0
    · simp -implicitDefEqProofs (disch := omega) only [go_sem, Nat.reduceAdd, Nat.reduceMul, Nat.reduceSub, Nat.reduceEqDiff, Nat.reduceLT, Nat.reduceLeDiff, reduceIte, reduceCtorEq, Int.reduceLE, Int.reduceLT, Int.reduceGE, Int.reduceGT, Int.reduceAdd, Int.reduceSub, Int.reduceMul, Int.reduceToNat, Int.reduceBEq, Int.reduceBNe, Nat.reduceBEq, Nat.reduceDiv, Nat.reduceMod, Nat.reduceBEq, Int.reduceNeg, Int.reduceToNat, Int.reduceEq, Nat.reduceLeDiff, h1]
    · simp -implicitDefEqProofs (disch := omega) only [go_sem, Nat.reduceAdd, Nat.reduceMul, Nat.reduceSub, Nat.reduceEqDiff, Nat.reduceLT, Nat.reduceLeDiff, reduceIte, reduceCtorEq, Int.reduceLE, Int.reduceLT, Int.reduceGE, Int.reduceGT, Int.reduceAdd, Int.reduceSub, Int.reduceMul, Int.reduceToNat, Int.reduceBEq, Int.reduceBNe, Nat.reduceBEq, Nat.reduceDiv, Nat.reduceMod, Nat.reduceBEq, Int.reduceNeg, Int.reduceToNat, Int.reduceEq, Nat.reduceLeDiff, h1]
  refine Gf_start rfl rfl ?_
  simp -implicitDefEqProofs (disch := omega) only [go_sem, Nat.reduceAdd, Nat.reduceMul, Nat.reduceSub, Nat.reduceEqDiff, Nat.reduceLT, Nat.reduceLeDiff, reduceIte, reduceCtorEq, Int.reduceLE, Int.reduceLT, Int.reduceGE, Int.reduceGT, Int.reduceAdd, Int.reduceSub, Int.reduceMul, Int.reduceToNat, Int.reduceBEq, Int.reduceBNe, Nat.reduceBEq, Nat.reduceDiv, Nat.reduceMod, Nat.reduceBEq, Int.reduceNeg, Int.reduceToNat, Int.reduceEq, Nat.reduceLeDiff, ro, hv]
theorem outT_small (p : List (List UInt8)) (sd : List Bool) (t : List UInt8) (ht : t.length ≤ 200000) (m : Nat) (hp : ∀ k, k < m → (gt p k).length = 32) : ∀ k, k ≤ m → (gt (outT p sd t m) k).length ≤ 200000 := by
  intro k hk
  rw [outT_at p sd t m k hk]
  match k with
  | 0 => exact ht
  | k + 1 =>
    rw [outT_next]
    have h1 := sha_len (gt (outT p sd t k) k)
    have h2 := hp k (by omega)
    unfold stepT
    split
    · simp; omega
    · simp; omega
/-- What two proofs may show: nothing, or two unlike texts of one digest. -/
def extQ (a b : List UInt8) (r : V × List V) : Prop := ∃ u v bb, r = (.tup [.agg [.str u, .str v], .bool bb], []) ∧ (bb = true → u ≠ v ∧ sha u = sha v ∧ a ≠ b) ∧ u.length ≤ 200000 ∧ v.length ≤ 200000
theorem extQ_none (a b : List UInt8) : extQ a b (.tup [.agg [.str [], .str []], .bool false], []) := ⟨[], [], false, rfl, (fun h => by cases h), by simp, by simp⟩
def extS (X Y : List (List UInt8)) (m : Nat) (j : Nat) (st : St) : Prop :=
  j ≤ m ∧ lastD X Y j = lastD X Y m ∧ st.t 12 = .ptr 832 1 0 ∧ st.σ 832 = ⟨1, .rw, false, [.str [], .str []]⟩ ∧ st.t 14 = .sli 1600 1 0 m 1 ∧ st.σ 1600 = ⟨1, .rw, true, X.map V.str⟩ ∧ st.t 16 = .sli 2112 1 0 m 1 ∧ st.σ 2112 = ⟨1, .rw, true, Y.map V.str⟩ ∧ st.t 18 = .int .i64 ((j : Int) - 1)
theorem Extract_ok (a b : List UInt8) (i n : Nat) (k1 k2 : SK) (p q : List (List UInt8)) (hi : i < n) (hn : n ≤ 1000000) (hp : Small p) (hq : Small q) (ha : a.length ≤ 100000) (hb : b.length ≤ 100000) :
    ∃ r, Gf fns 17 [.str a, .str b, .int .i64 (i : Int), .int .i64 (n : Int), .sl k1 p.length (p.map V.str), .sl k2 q.length (q.map V.str)] = some r ∧ extQ a b r := by
  have ca := climb_ok a i n k1 p hi hn hp ha
  have cb := climb_ok b i n k2 q hi hn hq hb
  have hp1 := hp.1
  refine Gf_ex (F := ir17) rfl (fnA_start rfl ?_)
  by_cases h1 : climbs a i n p = true
  · by_cases h2 : climbs b i n q = true
    · obtain ⟨p1, p2⟩ := climbs_spec hi h1
      obtain ⟨q1, q2⟩ := climbs_spec hi h2
      have hlen : q.length = p.length := by omega
      rw [if_pos h1] at ca
      rw [if_pos h2] at cb
      rw [hlen] at cb q2
      have hfin := lastD_sha p q (sidesR i n).reverse (0 :: a) (0 :: b) p.length p2 q2 p.length
      have s1 := outT_small p (sidesR i n).reverse (0 :: a) (by simp; omega) p.length p2
      have s2 := outT_small q (sidesR i n).reverse (0 :: b) (by simp; omega) p.length q2
      have l1 := outT_len p (sidesR i n).reverse (0 :: a) p.length
      have l2 := outT_len q (sidesR i n).reverse (0 :: b) p.length
      rw [hlen]
      generalize outT p (sidesR i n).reverse (0 :: a) p.length = X at *
      generalize outT q (sidesR i n).reverse (0 :: b) p.length = Y at *
      by_cases hr : sha (gt X p.length) = sha (gt Y p.length)
      · by_cases hab : a = b
        · subst hab
          simp -implicitDefEqProofs (disch := omega) only [go_sem, Nat.reduceAdd, Nat.reduceMul, Nat.reduceSub, Nat.reduceEqDiff, Nat.reduceLT, Nat.reduceLeDiff, reduceIte, reduceCtorEq, Int.reduceLE, Int.reduceLT, Int.reduceGE, Int.reduceGT, Int.reduceAdd, Int.reduceSub, Int.reduceMul, Int.reduceToNat, Int.reduceBEq, Int.reduceBNe, Nat.reduceBEq, Nat.reduceDiv, Nat.reduceMod, Nat.reduceBEq, Int.reduceNeg, Int.reduceToNat, Int.reduceEq, Nat.reduceLeDiff, ca, cb, hr, splice_0]
          exact extQ_none _ _
        · simp -implicitDefEqProofs (disch := omega) only [go_sem, Nat.reduceAdd, Nat.reduceMul, Nat.reduceSub, Nat.reduceEqDiff, Nat.reduceLT, Nat.reduceLeDiff, reduceIte, reduceCtorEq, Int.reduceLE, Int.reduceLT, Int.reduceGE, Int.reduceGT, Int.reduceAdd, Int.reduceSub, Int.reduceMul, Int.reduceToNat, Int.reduceBEq, Int.reduceBNe, Nat.reduceBEq, Nat.reduceDiv, Nat.reduceMod, Nat.reduceBEq, Int.reduceNeg, Int.reduceToNat, Int.reduceEq, Nat.reduceLeDiff, ca, cb, hr, hab]
          refine wp_loopS (extS X Y (p.length + 1)) (fun j => j) (p.length + 1) ⟨by omega, rfl, by simp -implicitDefEqProofs (disch := omega) only [go_sem, Nat.reduceAdd, Nat.reduceMul, Nat.reduceSub, Nat.reduceEqDiff, Nat.reduceLT, Nat.reduceLeDiff, reduceIte, reduceCtorEq, Int.reduceLE, Int.reduceLT, Int.reduceGE, Int.reduceGT, Int.reduceAdd, Int.reduceSub, Int.reduceMul, Int.reduceToNat, Int.reduceBEq, Int.reduceBNe, Nat.reduceBEq, Nat.reduceDiv, Nat.reduceMod, Nat.reduceBEq, Int.reduceNeg, Int.reduceToNat, Int.reduceEq, Nat.reduceLeDiff, go_sem], by simp -implicitDefEqProofs (disch := omega) only [go_sem, Nat.reduceAdd, Nat.reduceMul, Nat.reduceSub, Nat.reduceEqDiff, Nat.reduceLT, Nat.reduceLeDiff, reduceIte, reduceCtorEq, Int.reduceLE, Int.reduceLT, Int.reduceGE, Int.reduceGT, Int.reduceAdd, Int.reduceSub, Int.reduceMul, Int.reduceToNat, Int.reduceBEq, Int.reduceBNe, Nat.reduceBEq, Nat.reduceDiv, Nat.reduceMod, Nat.reduceBEq, Int.reduceNeg, Int.reduceToNat, Int.reduceEq, Nat.reduceLeDiff, go_sem], by simp -implicitDefEqProofs (disch := omega) only [go_sem, Nat.reduceAdd, Nat.reduceMul, Nat.reduceSub, Nat.reduceEqDiff, Nat.reduceLT, Nat.reduceLeDiff, reduceIte, reduceCtorEq, Int.reduceLE, Int.reduceLT, Int.reduceGE, Int.reduceGT, Int.reduceAdd, Int.reduceSub, Int.reduceMul, Int.reduceToNat, Int.reduceBEq, Int.reduceBNe, Nat.reduceBEq, Nat.reduceDiv, Nat.reduceMod, Nat.reduceBEq, Int.reduceNeg, Int.reduceToNat, Int.reduceEq, Nat.reduceLeDiff, go_sem], by simp -implicitDefEqProofs (disch := omega) only [go_sem, Nat.reduceAdd, Nat.reduceMul, Nat.reduceSub, Nat.reduceEqDiff, Nat.reduceLT, Nat.reduceLeDiff, reduceIte, reduceCtorEq, Int.reduceLE, Int.reduceLT, Int.reduceGE, Int.reduceGT, Int.reduceAdd, Int.reduceSub, Int.reduceMul, Int.reduceToNat, Int.reduceBEq, Int.reduceBNe, Nat.reduceBEq, Nat.reduceDiv, Nat.reduceMod, Nat.reduceBEq, Int.reduceNeg, Int.reduceToNat, Int.reduceEq, Nat.reduceLeDiff, go_sem], by simp -implicitDefEqProofs (disch := omega) only [go_sem, Nat.reduceAdd, Nat.reduceMul, Nat.reduceSub, Nat.reduceEqDiff, Nat.reduceLT, Nat.reduceLeDiff, reduceIte, reduceCtorEq, Int.reduceLE, Int.reduceLT, Int.reduceGE, Int.reduceGT, Int.reduceAdd, Int.reduceSub, Int.reduceMul, Int.reduceToNat, Int.reduceBEq, Int.reduceBNe, Nat.reduceBEq, Nat.reduceDiv, Nat.reduceMod, Nat.reduceBEq, Int.reduceNeg, Int.reduceToNat, Int.reduceEq, Nat.reduceLeDiff, go_sem], by simp -implicitDefEqProofs (disch := omega) only [go_sem, Nat.reduceAdd, Nat.reduceMul, Nat.reduceSub, Nat.reduceEqDiff, Nat.reduceLT, Nat.reduceLeDiff, reduceIte, reduceCtorEq, Int.reduceLE, Int.reduceLT, Int.reduceGE, Int.reduceGT, Int.reduceAdd, Int.reduceSub, Int.reduceMul, Int.reduceToNat, Int.reduceBEq, Int.reduceBNe, Nat.reduceBEq, Nat.reduceDiv, Nat.reduceMod, Nat.reduceBEq, Int.reduceNeg, Int.reduceToNat, Int.reduceEq, Nat.reduceLeDiff, go_sem], by simp -implicitDefEqProofs (disch := omega) only [go_sem, Nat.reduceAdd, Nat.reduceMul, Nat.reduceSub, Nat.reduceEqDiff, Nat.reduceLT, Nat.reduceLeDiff, reduceIte, reduceCtorEq, Int.reduceLE, Int.reduceLT, Int.reduceGE, Int.reduceGT, Int.reduceAdd, Int.reduceSub, Int.reduceMul, Int.reduceToNat, Int.reduceBEq, Int.reduceBNe, Nat.reduceBEq, Nat.reduceDiv, Nat.reduceMod, Nat.reduceBEq, Int.reduceNeg, Int.reduceToNat, Int.reduceEq, Nat.reduceLeDiff, go_sem]⟩ ?_
          rintro j ⟨t, σ⟩ ⟨hj, hlast, h12, s12, h14, s14, h16, s16, h18⟩
          simp only at h12 s12 h14 s14 h16 s16 h18
          match j with
          | 0 =>
            have e : (((0 : Nat) : Int) - 1) = -1 := rfl
            rw [e] at h18
            simp -implicitDefEqProofs (disch := omega) only [go_sem, Nat.reduceAdd, Nat.reduceMul, Nat.reduceSub, Nat.reduceEqDiff, Nat.reduceLT, Nat.reduceLeDiff, reduceIte, reduceCtorEq, Int.reduceLE, Int.reduceLT, Int.reduceGE, Int.reduceGT, Int.reduceAdd, Int.reduceSub, Int.reduceMul, Int.reduceToNat, Int.reduceBEq, Int.reduceBNe, Nat.reduceBEq, Nat.reduceDiv, Nat.reduceMod, Nat.reduceBEq, Int.reduceNeg, Int.reduceToNat, Int.reduceEq, Nat.reduceLeDiff, lp17_0, h18, h12, s12]
            exact extQ_none _ _
          | j + 1 =>
            have e : (((j + 1 : Nat) : Int) - 1) = (j : Int) := by omega
            have e2 : ((j : Int) - 1) = ((j : Nat) : Int) - 1 := rfl
            rw [e] at h18
            simp -implicitDefEqProofs (disch := omega) only [go_sem, Nat.reduceAdd, Nat.reduceMul, Nat.reduceSub, Nat.reduceEqDiff, Nat.reduceLT, Nat.reduceLeDiff, reduceIte, reduceCtorEq, Int.reduceLE, Int.reduceLT, Int.reduceGE, Int.reduceGT, Int.reduceAdd, Int.reduceSub, Int.reduceMul, Int.reduceToNat, Int.reduceBEq, Int.reduceBNe, Nat.reduceBEq, Nat.reduceDiv, Nat.reduceMod, Nat.reduceBEq, Int.reduceNeg, Int.reduceToNat, Int.reduceEq, Nat.reduceLeDiff, lp17_0, h18]
            refine wp_draw_E ?_
            simp -implicitDefEqProofs (disch := omega) only [go_sem, Nat.reduceAdd, Nat.reduceMul, Nat.reduceSub, Nat.reduceEqDiff, Nat.reduceLT, Nat.reduceLeDiff, reduceIte, reduceCtorEq, Int.reduceLE, Int.reduceLT, Int.reduceGE, Int.reduceGT, Int.reduceAdd, Int.reduceSub, Int.reduceMul, Int.reduceToNat, Int.reduceBEq, Int.reduceBNe, Nat.reduceBEq, Nat.reduceDiv, Nat.reduceMod, Nat.reduceBEq, Int.reduceNeg, Int.reduceToNat, Int.reduceEq, Nat.reduceLeDiff, h14, s14, h16, s16, h18]
            refine condC_dec (fun he => ?_) (fun he => ?_)
            · rw [lastD, if_pos he] at hlast
              simp -implicitDefEqProofs (disch := omega) only [go_sem, Nat.reduceAdd, Nat.reduceMul, Nat.reduceSub, Nat.reduceEqDiff, Nat.reduceLT, Nat.reduceLeDiff, reduceIte, reduceCtorEq, Int.reduceLE, Int.reduceLT, Int.reduceGE, Int.reduceGT, Int.reduceAdd, Int.reduceSub, Int.reduceMul, Int.reduceToNat, Int.reduceBEq, Int.reduceBNe, Nat.reduceBEq, Nat.reduceDiv, Nat.reduceMod, Nat.reduceBEq, Int.reduceNeg, Int.reduceToNat, Int.reduceEq, Nat.reduceLeDiff, h18]
              refine ⟨j, by omega, by omega, hlast, by simp -implicitDefEqProofs (disch := omega) only [go_sem, Nat.reduceAdd, Nat.reduceMul, Nat.reduceSub, Nat.reduceEqDiff, Nat.reduceLT, Nat.reduceLeDiff, reduceIte, reduceCtorEq, Int.reduceLE, Int.reduceLT, Int.reduceGE, Int.reduceGT, Int.reduceAdd, Int.reduceSub, Int.reduceMul, Int.reduceToNat, Int.reduceBEq, Int.reduceBNe, Nat.reduceBEq, Nat.reduceDiv, Nat.reduceMod, Nat.reduceBEq, Int.reduceNeg, Int.reduceToNat, Int.reduceEq, Nat.reduceLeDiff, h12], s12, by simp -implicitDefEqProofs (disch := omega) only [go_sem, Nat.reduceAdd, Nat.reduceMul, Nat.reduceSub, Nat.reduceEqDiff, Nat.reduceLT, Nat.reduceLeDiff, reduceIte, reduceCtorEq, Int.reduceLE, Int.reduceLT, Int.reduceGE, Int.reduceGT, Int.reduceAdd, Int.reduceSub, Int.reduceMul, Int.reduceToNat, Int.reduceBEq, Int.reduceBNe, Nat.reduceBEq, Nat.reduceDiv, Nat.reduceMod, Nat.reduceBEq, Int.reduceNeg, Int.reduceToNat, Int.reduceEq, Nat.reduceLeDiff, h14], s14, by simp -implicitDefEqProofs (disch := omega) only [go_sem, Nat.reduceAdd, Nat.reduceMul, Nat.reduceSub, Nat.reduceEqDiff, Nat.reduceLT, Nat.reduceLeDiff, reduceIte, reduceCtorEq, Int.reduceLE, Int.reduceLT, Int.reduceGE, Int.reduceGT, Int.reduceAdd, Int.reduceSub, Int.reduceMul, Int.reduceToNat, Int.reduceBEq, Int.reduceBNe, Nat.reduceBEq, Nat.reduceDiv, Nat.reduceMod, Nat.reduceBEq, Int.reduceNeg, Int.reduceToNat, Int.reduceEq, Nat.reduceLeDiff, h16], s16, ?_⟩
              rcases Nat.eq_zero_or_pos j with rfl | hj0
              · simp -implicitDefEqProofs (disch := omega) only [go_sem, Nat.reduceAdd, Nat.reduceMul, Nat.reduceSub, Nat.reduceEqDiff, Nat.reduceLT, Nat.reduceLeDiff, reduceIte, reduceCtorEq, Int.reduceLE, Int.reduceLT, Int.reduceGE, Int.reduceGT, Int.reduceAdd, Int.reduceSub, Int.reduceMul, Int.reduceToNat, Int.reduceBEq, Int.reduceBNe, Nat.reduceBEq, Nat.reduceDiv, Nat.reduceMod, Nat.reduceBEq, Int.reduceNeg, Int.reduceToNat, Int.reduceEq, Nat.reduceLeDiff, go_sem]
              · simp -implicitDefEqProofs (disch := omega) only [go_sem, Nat.reduceAdd, Nat.reduceMul, Nat.reduceSub, Nat.reduceEqDiff, Nat.reduceLT, Nat.reduceLeDiff, reduceIte, reduceCtorEq, Int.reduceLE, Int.reduceLT, Int.reduceGE, Int.reduceGT, Int.reduceAdd, Int.reduceSub, Int.reduceMul, Int.reduceToNat, Int.reduceBEq, Int.reduceBNe, Nat.reduceBEq, Nat.reduceDiv, Nat.reduceMod, Nat.reduceBEq, Int.reduceNeg, Int.reduceToNat, Int.reduceEq, Nat.reduceLeDiff, go_sem]
            · rw [lastD, if_neg he] at hlast
              obtain ⟨w1, w2⟩ := hfin _ (Nat.le_refl _) hr hlast.symm
              simp -implicitDefEqProofs (disch := omega) only [go_sem, Nat.reduceAdd, Nat.reduceMul, Nat.reduceSub, Nat.reduceEqDiff, Nat.reduceLT, Nat.reduceLeDiff, reduceIte, reduceCtorEq, Int.reduceLE, Int.reduceLT, Int.reduceGE, Int.reduceGT, Int.reduceAdd, Int.reduceSub, Int.reduceMul, Int.reduceToNat, Int.reduceBEq, Int.reduceBNe, Nat.reduceBEq, Nat.reduceDiv, Nat.reduceMod, Nat.reduceBEq, Int.reduceNeg, Int.reduceToNat, Int.reduceEq, Nat.reduceLeDiff, go_sem]
              refine wp_draw_E ?_
              simp -implicitDefEqProofs (disch := omega) only [go_sem, Nat.reduceAdd, Nat.reduceMul, Nat.reduceSub, Nat.reduceEqDiff, Nat.reduceLT, Nat.reduceLeDiff, reduceIte, reduceCtorEq, Int.reduceLE, Int.reduceLT, Int.reduceGE, Int.reduceGT, Int.reduceAdd, Int.reduceSub, Int.reduceMul, Int.reduceToNat, Int.reduceBEq, Int.reduceBNe, Nat.reduceBEq, Nat.reduceDiv, Nat.reduceMod, Nat.reduceBEq, Int.reduceNeg, Int.reduceToNat, Int.reduceEq, Nat.reduceLeDiff, h12, s12, h14, s14, h16, s16, h18]
              exact ⟨_, _, _, rfl, fun _ => ⟨w1, w2, hab⟩, s1 j (by omega), s2 j (by omega)⟩
      · simp -implicitDefEqProofs (disch := omega) only [go_sem, Nat.reduceAdd, Nat.reduceMul, Nat.reduceSub, Nat.reduceEqDiff, Nat.reduceLT, Nat.reduceLeDiff, reduceIte, reduceCtorEq, Int.reduceLE, Int.reduceLT, Int.reduceGE, Int.reduceGT, Int.reduceAdd, Int.reduceSub, Int.reduceMul, Int.reduceToNat, Int.reduceBEq, Int.reduceBNe, Nat.reduceBEq, Nat.reduceDiv, Nat.reduceMod, Nat.reduceBEq, Int.reduceNeg, Int.reduceToNat, Int.reduceEq, Nat.reduceLeDiff, ca, cb, hr]
        exact extQ_none _ _
    · rw [if_pos h1] at ca
      rw [if_neg h2] at cb
      have l1 := outT_len p (sidesR i n).reverse (0 :: a) p.length
      simp -implicitDefEqProofs (disch := omega) only [go_sem, Nat.reduceAdd, Nat.reduceMul, Nat.reduceSub, Nat.reduceEqDiff, Nat.reduceLT, Nat.reduceLeDiff, reduceIte, reduceCtorEq, Int.reduceLE, Int.reduceLT, Int.reduceGE, Int.reduceGT, Int.reduceAdd, Int.reduceSub, Int.reduceMul, Int.reduceToNat, Int.reduceBEq, Int.reduceBNe, Nat.reduceBEq, Nat.reduceDiv, Nat.reduceMod, Nat.reduceBEq, Int.reduceNeg, Int.reduceToNat, Int.reduceEq, Nat.reduceLeDiff, ca, cb]
      exact extQ_none _ _
  · rw [if_neg h1] at ca
    rcases Bool.eq_false_or_eq_true (climbs b i n q) with h2 | h2
    · rw [if_pos h2] at cb
      have l1 := outT_len q (sidesR i n).reverse (0 :: b) q.length
      simp -implicitDefEqProofs (disch := omega) only [go_sem, Nat.reduceAdd, Nat.reduceMul, Nat.reduceSub, Nat.reduceEqDiff, Nat.reduceLT, Nat.reduceLeDiff, reduceIte, reduceCtorEq, Int.reduceLE, Int.reduceLT, Int.reduceGE, Int.reduceGT, Int.reduceAdd, Int.reduceSub, Int.reduceMul, Int.reduceToNat, Int.reduceBEq, Int.reduceBNe, Nat.reduceBEq, Nat.reduceDiv, Nat.reduceMod, Nat.reduceBEq, Int.reduceNeg, Int.reduceToNat, Int.reduceEq, Nat.reduceLeDiff, ca, cb]
      exact extQ_none _ _
    · rw [if_neg (by rw [h2]; simp)] at cb
      simp -implicitDefEqProofs (disch := omega) only [go_sem, Nat.reduceAdd, Nat.reduceMul, Nat.reduceSub, Nat.reduceEqDiff, Nat.reduceLT, Nat.reduceLeDiff, reduceIte, reduceCtorEq, Int.reduceLE, Int.reduceLT, Int.reduceGE, Int.reduceGT, Int.reduceAdd, Int.reduceSub, Int.reduceMul, Int.reduceToNat, Int.reduceBEq, Int.reduceBNe, Nat.reduceBEq, Nat.reduceDiv, Nat.reduceMod, Nat.reduceBEq, Int.reduceNeg, Int.reduceToNat, Int.reduceEq, Nat.reduceLeDiff, ca, cb]
      exact extQ_none _ _
theorem Extract_no (a b : List UInt8) (i n : Int) (h : i < 0 ∨ n ≤ i) (k1 k2 : SK) (p q : List (List UInt8)) : Gf fns 17 [.str a, .str b, .int .i64 i, .int .i64 n, .sl k1 p.length (p.map V.str), .sl k2 q.length (q.map V.str)] = some (.tup [.agg [.str [], .str []], .bool false], []) := by
  have ca := climb_no a i n h k1 p
  have cb := climb_no b i n h k2 q
  refine Gf_start rfl rfl ?_
  simp -implicitDefEqProofs (disch := omega) only [go_sem, Nat.reduceAdd, Nat.reduceMul, Nat.reduceSub, Nat.reduceEqDiff, Nat.reduceLT, Nat.reduceLeDiff, reduceIte, reduceCtorEq, Int.reduceLE, Int.reduceLT, Int.reduceGE, Int.reduceGT, Int.reduceAdd, Int.reduceSub, Int.reduceMul, Int.reduceToNat, Int.reduceBEq, Int.reduceBNe, Nat.reduceBEq, Nat.reduceDiv, Nat.reduceMod, Nat.reduceBEq, Int.reduceNeg, Int.reduceToNat, Int.reduceEq, Nat.reduceLeDiff, ca, cb]
theorem treeExtracts_main (xs : List V) (h : FitsA Try.prog 8 [22, 3, 22] xs) : fnA (tabW fns) ([22, 3, 22].map fun _ => Mode.bor) ir6 xs (fun p => p = (.bool true, [])) := by
  obtain ⟨x, ys, rfl, h1, h⟩ := fitsA_s h
  obtain ⟨y, ys, rfl, h2, h⟩ := fitsA_s h
  obtain ⟨z, ys, rfl, h3, h⟩ := fitsA_s h
  obtain rfl := fitsA_0 h
  obtain ⟨k1, l1, rfl, hk1, _, hb1, _⟩ := fit_strs h1
  obtain ⟨n, rfl, hn⟩ := fit_int uInt h2
  obtain ⟨k3, l3, rfl, hk3, _, hb3, _⟩ := fit_strs h3
  have hre := reach_lt
  have f1 := few_ok k1 l1 (by omega)
  have f3 := few_ok k3 l3 (by omega)
  obtain ⟨s1, q1, hs100⟩ := fewL_small l1
  obtain ⟨s3, q3, _⟩ := fewL_small l3
  generalize fewL l1 = a at *
  generalize fewL l3 = c at *
  refine fnA_start rfl ?_
  by_cases h0 : a.length = 0
  · have en := Extract_no [111, 116, 104, 101, 114] [111, 116, 104, 101, 114] n 0 (by omega) .nil .nil [] []
    simp -implicitDefEqProofs (disch := omega) only [go_sem, Nat.reduceAdd, Nat.reduceMul, Nat.reduceSub, Nat.reduceEqDiff, Nat.reduceLT, Nat.reduceLeDiff, reduceIte, reduceCtorEq, Int.reduceLE, Int.reduceLT, Int.reduceGE, Int.reduceGT, Int.reduceAdd, Int.reduceSub, Int.reduceMul, Int.reduceToNat, Int.reduceBEq, Int.reduceBNe, Nat.reduceBEq, Nat.reduceDiv, Nat.reduceMod, Nat.reduceBEq, Int.reduceNeg, Int.reduceToNat, Int.reduceEq, Nat.reduceLeDiff, go_sem] at en
    simp -implicitDefEqProofs (disch := omega) only [go_sem, Nat.reduceAdd, Nat.reduceMul, Nat.reduceSub, Nat.reduceEqDiff, Nat.reduceLT, Nat.reduceLeDiff, reduceIte, reduceCtorEq, Int.reduceLE, Int.reduceLT, Int.reduceGE, Int.reduceGT, Int.reduceAdd, Int.reduceSub, Int.reduceMul, Int.reduceToNat, Int.reduceBEq, Int.reduceBNe, Nat.reduceBEq, Nat.reduceDiv, Nat.reduceMod, Nat.reduceBEq, Int.reduceNeg, Int.reduceToNat, Int.reduceEq, Nat.reduceLeDiff, f1, h0, awake_ok, en, splice_0]
  · obtain ⟨i, hi, hat, t1, t2⟩ := at_ok n a.length (by omega)
    have pr := Prove_ok a.length a .ro i (Nat.le_refl _) hi s1
    have hpl := pathR_len a.length a i (Nat.le_refl _)
    have hrl : (pathR a i).reverse.length = (pathR a i).length := List.length_reverse
    have hL0 : ¬ (a.length : Int) = 0 := by omega
    have g100 := hs100 _ (gt_mem hi)
    have hsP : Small (pathR a i).reverse := ⟨by omega, fun s hs => by rw [hpl.2 s (List.mem_reverse.1 hs)]; omega⟩
    generalize pathR a i = P at *
    have hpv : pathV P.reverse = (if P = [] then .sl .nil 0 [] else .osl 1 P.length (P.reverse.map V.str)) := by simp [pathV]
    rw [hpv] at pr
    have key : ∀ k, ∃ u1 v1 u2 v2 bb2, Gf fns 17 [.str (gt a i), .str (gt a i), .int .i64 (i : Int), .int .i64 (a.length : Int), .sl k P.length (P.reverse.map V.str), .sl k P.length (P.reverse.map V.str)] = some (.tup [.agg [.str u1, .str v1], .bool false], []) ∧
        Gf fns 17 [.str (gt a i), .str [111, 116, 104, 101, 114], .int .i64 (i : Int), .int .i64 (a.length : Int), .sl k P.length (P.reverse.map V.str), .sl .ro c.length (c.map V.str)] = some (.tup [.agg [.str u2, .str v2], .bool bb2], []) ∧
        Gf fns 17 [.str (gt a i), .str [111, 116, 104, 101, 114], .int .i64 (-1), .int .i64 (a.length : Int), .sl k P.length (P.reverse.map V.str), .sl k P.length (P.reverse.map V.str)] = some (.tup [.agg [.str [], .str []], .bool false], []) ∧
        (bb2 = true → Gf fns 18 [.agg [.str u2, .str v2]] = some (.bool true, [])) := by
      intro k
      obtain ⟨r1, e1, u1, v1, b1, rfl, hb1, _, _⟩ := Extract_ok (gt a i) (gt a i) i a.length k k P.reverse P.reverse hi (by omega) hsP hsP (by omega) (by omega)
      obtain ⟨r2, e2, u2, v2, b2, rfl, hb2, hu2, hv2⟩ := Extract_ok (gt a i) [111, 116, 104, 101, 114] i a.length k .ro P.reverse c hi (by omega) hsP s3 (by omega) (by simp)
      have e3 := Extract_no (gt a i) [111, 116, 104, 101, 114] (-1) a.length (by omega) k k P.reverse P.reverse
      rw [hrl] at e1 e2 e3
      have hbf : b1 = false := by
        cases b1 with
        | false => rfl
        | true => exact absurd rfl (hb1 rfl).2.2
      subst hbf
      refine ⟨u1, v1, u2, v2, b2, e1, e2, e3, fun hb => ?_⟩
      obtain ⟨w1, w2, _⟩ := hb2 hb
      rw [Collide_ok u2 v2 (by omega) (by omega)]
      simp [w1, w2]
    by_cases hp : P = []
    · obtain ⟨u1, v1, u2, v2, bb2, e1, e2, e3, e4⟩ := key .nil
      subst hp
      rw [if_pos rfl] at pr
      simp -implicitDefEqProofs (disch := omega) only [go_sem, Nat.reduceAdd, Nat.reduceMul, Nat.reduceSub, Nat.reduceEqDiff, Nat.reduceLT, Nat.reduceLeDiff, reduceIte, reduceCtorEq, Int.reduceLE, Int.reduceLT, Int.reduceGE, Int.reduceGT, Int.reduceAdd, Int.reduceSub, Int.reduceMul, Int.reduceToNat, Int.reduceBEq, Int.reduceBNe, Nat.reduceBEq, Nat.reduceDiv, Nat.reduceMod, Nat.reduceBEq, Int.reduceNeg, Int.reduceToNat, Int.reduceEq, Nat.reduceLeDiff, List.reverse_nil] at e1
      simp -implicitDefEqProofs (disch := omega) only [go_sem, Nat.reduceAdd, Nat.reduceMul, Nat.reduceSub, Nat.reduceEqDiff, Nat.reduceLT, Nat.reduceLeDiff, reduceIte, reduceCtorEq, Int.reduceLE, Int.reduceLT, Int.reduceGE, Int.reduceGT, Int.reduceAdd, Int.reduceSub, Int.reduceMul, Int.reduceToNat, Int.reduceBEq, Int.reduceBNe, Nat.reduceBEq, Nat.reduceDiv, Nat.reduceMod, Nat.reduceBEq, Int.reduceNeg, Int.reduceToNat, Int.reduceEq, Nat.reduceLeDiff, List.reverse_nil] at e2
      simp -implicitDefEqProofs (disch := omega) only [go_sem, Nat.reduceAdd, Nat.reduceMul, Nat.reduceSub, Nat.reduceEqDiff, Nat.reduceLT, Nat.reduceLeDiff, reduceIte, reduceCtorEq, Int.reduceLE, Int.reduceLT, Int.reduceGE, Int.reduceGT, Int.reduceAdd, Int.reduceSub, Int.reduceMul, Int.reduceToNat, Int.reduceBEq, Int.reduceBNe, Nat.reduceBEq, Nat.reduceDiv, Nat.reduceMod, Nat.reduceBEq, Int.reduceNeg, Int.reduceToNat, Int.reduceEq, Nat.reduceLeDiff, List.reverse_nil] at e3
      simp -implicitDefEqProofs (disch := omega) only [go_sem, Nat.reduceAdd, Nat.reduceMul, Nat.reduceSub, Nat.reduceEqDiff, Nat.reduceLT, Nat.reduceLeDiff, reduceIte, reduceCtorEq, Int.reduceLE, Int.reduceLT, Int.reduceGE, Int.reduceGT, Int.reduceAdd, Int.reduceSub, Int.reduceMul, Int.reduceToNat, Int.reduceBEq, Int.reduceBNe, Nat.reduceBEq, Nat.reduceDiv, Nat.reduceMod, Nat.reduceBEq, Int.reduceNeg, Int.reduceToNat, Int.reduceEq, Nat.reduceLeDiff, f1, h0, hL0, hat, pr]
      refine wp_draw_E ?_
      simp -implicitDefEqProofs (disch := omega) only [go_sem, Nat.reduceAdd, Nat.reduceMul, Nat.reduceSub, Nat.reduceEqDiff, Nat.reduceLT, Nat.reduceLeDiff, reduceIte, reduceCtorEq, Int.reduceLE, Int.reduceLT, Int.reduceGE, Int.reduceGT, Int.reduceAdd, Int.reduceSub, Int.reduceMul, Int.reduceToNat, Int.reduceBEq, Int.reduceBNe, Nat.reduceBEq, Nat.reduceDiv, Nat.reduceMod, Nat.reduceBEq, Int.reduceNeg, Int.reduceToNat, Int.reduceEq, Nat.reduceLeDiff, e1, splice_0]
      refine wp_draw_E ?_
      simp -implicitDefEqProofs (disch := omega) only [go_sem, Nat.reduceAdd, Nat.reduceMul, Nat.reduceSub, Nat.reduceEqDiff, Nat.reduceLT, Nat.reduceLeDiff, reduceIte, reduceCtorEq, Int.reduceLE, Int.reduceLT, Int.reduceGE, Int.reduceGT, Int.reduceAdd, Int.reduceSub, Int.reduceMul, Int.reduceToNat, Int.reduceBEq, Int.reduceBNe, Nat.reduceBEq, Nat.reduceDiv, Nat.reduceMod, Nat.reduceBEq, Int.reduceNeg, Int.reduceToNat, Int.reduceEq, Nat.reduceLeDiff, f3, e2, splice_0]
      cases bb2 with
      | true => simp -implicitDefEqProofs (disch := omega) only [go_sem, Nat.reduceAdd, Nat.reduceMul, Nat.reduceSub, Nat.reduceEqDiff, Nat.reduceLT, Nat.reduceLeDiff, reduceIte, reduceCtorEq, Int.reduceLE, Int.reduceLT, Int.reduceGE, Int.reduceGT, Int.reduceAdd, Int.reduceSub, Int.reduceMul, Int.reduceToNat, Int.reduceBEq, Int.reduceBNe, Nat.reduceBEq, Nat.reduceDiv, Nat.reduceMod, Nat.reduceBEq, Int.reduceNeg, Int.reduceToNat, Int.reduceEq, Nat.reduceLeDiff, e3, awake_ok, e4 rfl, splice_0]
      | false => simp -implicitDefEqProofs (disch := omega) only [go_sem, Nat.reduceAdd, Nat.reduceMul, Nat.reduceSub, Nat.reduceEqDiff, Nat.reduceLT, Nat.reduceLeDiff, reduceIte, reduceCtorEq, Int.reduceLE, Int.reduceLT, Int.reduceGE, Int.reduceGT, Int.reduceAdd, Int.reduceSub, Int.reduceMul, Int.reduceToNat, Int.reduceBEq, Int.reduceBNe, Nat.reduceBEq, Nat.reduceDiv, Nat.reduceMod, Nat.reduceBEq, Int.reduceNeg, Int.reduceToNat, Int.reduceEq, Nat.reduceLeDiff, e3, awake_ok, splice_0]
    · obtain ⟨u1, v1, u2, v2, bb2, e1, e2, e3, e4⟩ := key .ro
      rw [if_neg hp] at pr
      simp -implicitDefEqProofs (disch := omega) only [go_sem, Nat.reduceAdd, Nat.reduceMul, Nat.reduceSub, Nat.reduceEqDiff, Nat.reduceLT, Nat.reduceLeDiff, reduceIte, reduceCtorEq, Int.reduceLE, Int.reduceLT, Int.reduceGE, Int.reduceGT, Int.reduceAdd, Int.reduceSub, Int.reduceMul, Int.reduceToNat, Int.reduceBEq, Int.reduceBNe, Nat.reduceBEq, Nat.reduceDiv, Nat.reduceMod, Nat.reduceBEq, Int.reduceNeg, Int.reduceToNat, Int.reduceEq, Nat.reduceLeDiff, f1, h0, hL0, hat, pr]
      refine wp_draw_E ?_
      simp -implicitDefEqProofs (disch := omega) only [go_sem, Nat.reduceAdd, Nat.reduceMul, Nat.reduceSub, Nat.reduceEqDiff, Nat.reduceLT, Nat.reduceLeDiff, reduceIte, reduceCtorEq, Int.reduceLE, Int.reduceLT, Int.reduceGE, Int.reduceGT, Int.reduceAdd, Int.reduceSub, Int.reduceMul, Int.reduceToNat, Int.reduceBEq, Int.reduceBNe, Nat.reduceBEq, Nat.reduceDiv, Nat.reduceMod, Nat.reduceBEq, Int.reduceNeg, Int.reduceToNat, Int.reduceEq, Nat.reduceLeDiff, e1, splice_0]
      refine wp_draw_E ?_
      simp -implicitDefEqProofs (disch := omega) only [go_sem, Nat.reduceAdd, Nat.reduceMul, Nat.reduceSub, Nat.reduceEqDiff, Nat.reduceLT, Nat.reduceLeDiff, reduceIte, reduceCtorEq, Int.reduceLE, Int.reduceLT, Int.reduceGE, Int.reduceGT, Int.reduceAdd, Int.reduceSub, Int.reduceMul, Int.reduceToNat, Int.reduceBEq, Int.reduceBNe, Nat.reduceBEq, Nat.reduceDiv, Nat.reduceMod, Nat.reduceBEq, Int.reduceNeg, Int.reduceToNat, Int.reduceEq, Nat.reduceLeDiff, f3, e2, splice_0]
      cases bb2 with
      | true => simp -implicitDefEqProofs (disch := omega) only [go_sem, Nat.reduceAdd, Nat.reduceMul, Nat.reduceSub, Nat.reduceEqDiff, Nat.reduceLT, Nat.reduceLeDiff, reduceIte, reduceCtorEq, Int.reduceLE, Int.reduceLT, Int.reduceGE, Int.reduceGT, Int.reduceAdd, Int.reduceSub, Int.reduceMul, Int.reduceToNat, Int.reduceBEq, Int.reduceBNe, Nat.reduceBEq, Nat.reduceDiv, Nat.reduceMod, Nat.reduceBEq, Int.reduceNeg, Int.reduceToNat, Int.reduceEq, Nat.reduceLeDiff, e3, awake_ok, e4 rfl, splice_0]
      | false => simp -implicitDefEqProofs (disch := omega) only [go_sem, Nat.reduceAdd, Nat.reduceMul, Nat.reduceSub, Nat.reduceEqDiff, Nat.reduceLT, Nat.reduceLeDiff, reduceIte, reduceCtorEq, Int.reduceLE, Int.reduceLT, Int.reduceGE, Int.reduceGT, Int.reduceAdd, Int.reduceSub, Int.reduceMul, Int.reduceToNat, Int.reduceBEq, Int.reduceBNe, Nat.reduceBEq, Nat.reduceDiv, Nat.reduceMod, Nat.reduceBEq, Int.reduceNeg, Int.reduceToNat, Int.reduceEq, Nat.reduceLeDiff, e3, awake_ok, splice_0]
end Go.Vm.Ytmjllpkkdlflpaa
