/- (seval) Sparse trees: SmtHalves, in the machine. -/
import Derived.Test.YthfcgllahllkkaaSmtKM
set_option linter.unusedSectionVars false
set_option linter.unusedSimpArgs false
set_option linter.unusedVariables false
set_option maxHeartbeats 8000000
set_option maxRecDepth 10000
namespace Go.Vm
theorem shr8 (x : UInt8) (k : Nat) (hk : k < 8) : (x >>> UInt8.ofNat k).toNat = x.toNat / 2 ^ k := by
  have : ∀ (x : Fin 256) (k : Fin 8), (UInt8.ofNat x.val >>> UInt8.ofNat k.val).toNat = x.val / 2 ^ k.val := by decide +kernel
  have h := this ⟨x.toNat, x.toNat_lt⟩ ⟨k, hk⟩
  simpa using h
theorem byte_eq {p q : List UInt8} (h : ∀ k, k < 256 → pbit p k = pbit q k) (i : Nat) (hi : i < 32) : gt p i = gt q i := by
  have g : ∀ j, j < 8 → (gt p i).toNat / 2 ^ (7 - j) % 2 = (gt q i).toNat / 2 ^ (7 - j) % 2 := by
    intro j hj
    have := h (8 * i + j) (by omega)
    unfold pbit at this
    rw [show (8 * i + j) / 8 = i by omega, show (8 * i + j) % 8 = j by omega, shr8 _ _ (by omega), shr8 _ _ (by omega)] at this
    exact this
  have g0 := g 0 (by omega)
  have g1 := g 1 (by omega)
  have g2 := g 2 (by omega)
  have g3 := g 3 (by omega)
  have g4 := g 4 (by omega)
  have g5 := g 5 (by omega)
  have g6 := g 6 (by omega)
  have g7 := g 7 (by omega)
  have l1 := (gt p i).toNat_lt
  have l2 := (gt q i).toNat_lt
  simp at g0 g1 g2 g3 g4 g5 g6 g7
  apply UInt8.toNat.inj
  omega
theorem first_diff {p q : List UInt8} (hp : p.length = 32) (hq : q.length = 32) (hn : ¬ p = q) : ∃ m, m < 256 ∧ (∀ j, j < m → pbit p j = pbit q j) ∧ pbit p m ≠ pbit q m := by
  have ex : ∃ m, m < 256 ∧ pbit p m ≠ pbit q m := by
    by_cases h : ∃ m, m < 256 ∧ pbit p m ≠ pbit q m
    · exact h
    · refine absurd (List.ext_getElem (by omega) fun i h1 h2 => ?_) hn
      have := byte_eq (p := p) (q := q) (fun k hk => Decidable.byContradiction fun hne => h ⟨k, hk, hne⟩) i (by omega)
      rw [gt_eq h1, gt_eq h2] at this
      exact this
  have go : ∀ n, (∃ m, m < n ∧ m < 256 ∧ pbit p m ≠ pbit q m) → ∃ m, m < 256 ∧ (∀ j, j < m → pbit p j = pbit q j) ∧ pbit p m ≠ pbit q m := by
    intro n
    induction n with
    | zero => rintro ⟨m, h, _⟩; omega
    | succ n ih =>
      rintro ⟨m, h1, h2, h3⟩
      by_cases h : ∃ k, k < n ∧ k < 256 ∧ pbit p k ≠ pbit q k
      · exact ih h
      · exact ⟨m, h2, fun j hj => Decidable.byContradiction fun hne => h ⟨j, by omega, by omega, hne⟩, h3⟩
  obtain ⟨m, h1, h2⟩ := ex
  exact go 256 ⟨m, h1, h1, h2⟩
end Go.Vm
namespace Go.Vm.Ythfcgllahllkkaa
open Go.Proofs
def hI1 (σ0 : Store) (t7 t8 t11 t12 t13 : V) (m : Nat) (a : Nat) (s : St) : Prop := a ≤ m ∧ s.σ = σ0 ∧ s.t 7 = t7 ∧ s.t 8 = t8 ∧ s.t 11 = t11 ∧ s.t 12 = t12 ∧ s.t 13 = t13 ∧ s.t 14 = .int .i64 (a : Int)
def hI2 (σ0 : Store) (t7 t8 t11 t12 : V) (p v q : List UInt8) (m : Nat) (a : Nat) (s : St) : Prop := a ≤ m ∧ s.σ = σ0 ∧ s.t 7 = t7 ∧ s.t 8 = t8 ∧ s.t 11 = t11 ∧ s.t 12 = t12 ∧ s.t 14 = .int .i64 ((a : Int) - 1) ∧ s.t 15 = .str (chH p v q v (m - a) a)
theorem halves_main (xs : List V) (h : FitsA Try.prog 8 [9, 9, 9] xs) : fnA (tabW fns2) ([9, 9, 9].map fun _ => Mode.bor) ir4 xs (fun p => p = (.bool true, [])) := by
  obtain ⟨x, ys, rfl, h1, h⟩ := fitsA_s h
  obtain ⟨y, ys, rfl, h2, h⟩ := fitsA_s h
  obtain ⟨z, ys, rfl, h3, h⟩ := fitsA_s h
  obtain rfl := fitsA_0 h
  obtain ⟨a, rfl, _⟩ := fit_str (d := 7) uStrN h1
  obtain ⟨b, rfl, _⟩ := fit_str (d := 7) uStrN h2
  obtain ⟨c, rfl, _⟩ := fit_str (d := 7) uStrN h3
  have f6 : ∀ s : List UInt8, (fewT s).length ≤ 1000000 := fun s => Nat.le_trans (few_len s) (by decide)
  have aw : awakeG [] = some (.bool true, []) := rfl
  have nw := New_t
  have o1 := Of_ok (fewT a) (fewT c) (f6 _) (f6 _)
  have o2 := Of_ok (fewT b) (fewT c) (f6 _) (f6 _)
  have u1 := Put_ok (fewT a) (fewT c) (f6 _) (f6 _)
  have lp := pathS_len (fewT a)
  have lq := pathS_len (fewT b)
  have lv := valS_len (fewT c)
  have r1 := fun a b l h n => Root_pt a b l h n
  have ha1 := Hash_ok (pathS (fewT a)) (valS (fewT c)) (by omega) (by omega)
  have ha2 := Hash_ok (pathS (fewT b)) (valS (fewT c)) (by omega) (by omega)
  simp -implicitDefEqProofs (disch := omega) only [go_sem, seval, nodeV] at u1
  refine fnA_start rfl ?_
  by_cases hpq : pathS (fewT a) = pathS (fewT b)
  · have u2 := Put_same (v := valS (fewT c)) (fewT b) (fewT c) (f6 _) (f6 _)
    rw [← hpq] at u2
    simp -implicitDefEqProofs (disch := omega) only [go_sem, seval, nodeV] at u2
    simp -implicitDefEqProofs (disch := omega) only [go_sem, seval, few_ok, nw, o1, o2, aw]
    simp -implicitDefEqProofs (disch := omega) only [go_sem, seval, l2callr15, u1, u2]
    refine wp_draw_E ?_
    simp -implicitDefEqProofs (disch := omega) only [go_sem, seval, r1, ha1, ha2, hpq]
  · obtain ⟨m, hm, heq, hne⟩ := first_diff lp lq hpq
    have u2 := Put_two (v := valS (fewT c)) (fewT b) (fewT c) m (f6 _) (f6 _) lp lv hpq hm heq hne
    have hlen := chH_len (pathS (fewT a)) (valS (fewT c)) (pathS (fewT b)) (valS (fewT c)) m 0
    obtain ⟨L1, p1, v1, n1, e1⟩ := proveG_ch (pathS (fewT a)) (valS (fewT c)) (pathS (fewT b)) (valS (fewT c)) (fewT a) 2 m hm (f6 _) (fun j hj => rfl)
    obtain ⟨L2, p2, v2, n2, e2⟩ := proveG_ch (pathS (fewT a)) (valS (fewT c)) (pathS (fewT b)) (valS (fewT c)) (fewT b) 2 m hm (f6 _) (fun j hj => (heq j hj).symm)
    rcases chC_form (pathS (fewT a)) (valS (fewT c)) (pathS (fewT b)) (valS (fewT c)) m 0 with ⟨x, y, f⟩ | ⟨x, f⟩ | ⟨x, f⟩ <;> rw [f] at u2 e1 e2
    all_goals
      simp -implicitDefEqProofs (disch := omega) only [go_sem, seval, few_ok, nw, o1, o2, aw]
      simp -implicitDefEqProofs (disch := omega) only [go_sem, seval, l2callr15, u1, u2]
      refine wp_draw_E ?_
      simp -implicitDefEqProofs (disch := omega) only [go_sem, seval, r1, ha1, hpq]
      refine wp_loopS (hI1 _ _ _ _ _ _ m) (fun j => m - j) 0 ⟨by omega, rfl, rfl, rfl, rfl, rfl, rfl, by simp -implicitDefEqProofs (disch := omega) only [go_sem, seval, go_sem]⟩ ?_
      rintro j ⟨t, σ⟩ ⟨hj, rfl, h7, h8, h11, h12, h13, h14⟩
      simp only at h7 h8 h11 h12 h13 h14
      simp -implicitDefEqProofs (disch := omega) only [go_sem, seval, lp4_0]
      refine wp_draw_E ?_
      have bp := Bit_ok (pathS (fewT a)) j lp (by omega)
      have bq := Bit_ok (pathS (fewT b)) j lq (by omega)
      simp -implicitDefEqProofs (disch := omega) only [go_sem, seval, h12, h13, h14, bp, bq]
      refine condC_dec (fun hc => ?_) (fun hc => ?_)
      · have hjm : j < m := by
          rcases Nat.lt_or_ge j m with h | h
          · exact h
          · obtain rfl : j = m := by omega
            exact absurd hc hne
        simp -implicitDefEqProofs (disch := omega) only [go_sem, seval, h14]
        exact ⟨j + 1, by omega, by omega, rfl, by simp -implicitDefEqProofs (disch := omega) only [go_sem, seval, h7], by simp -implicitDefEqProofs (disch := omega) only [go_sem, seval, h8], by simp -implicitDefEqProofs (disch := omega) only [go_sem, seval, h11], by simp -implicitDefEqProofs (disch := omega) only [go_sem, seval, h12], by simp -implicitDefEqProofs (disch := omega) only [go_sem, seval, h13], by simp -implicitDefEqProofs (disch := omega) only [go_sem, seval, go_sem]⟩
      · obtain rfl : j = m := by
          rcases Nat.lt_or_ge j m with h | h
          · exact absurd (heq j h) hc
          · omega
        have j1 := Join_ok (leafS (pathS (fewT a)) (valS (fewT c))) (leafS (pathS (fewT b)) (valS (fewT c))) (by rw [leafS_len]; decide) (by rw [leafS_len]; decide)
        have j2 := Join_ok (leafS (pathS (fewT b)) (valS (fewT c))) (leafS (pathS (fewT a)) (valS (fewT c))) (by rw [leafS_len]; decide) (by rw [leafS_len]; decide)
        simp -implicitDefEqProofs (disch := omega) only [go_sem, seval, go_sem]
        refine wp_draw_E ?_
        simp -implicitDefEqProofs (disch := omega) only [go_sem, seval, h12, h13, h14, ha1, ha2, j1, bp]
        have hj0 : j - j = 0 := Nat.sub_self j
        refine condC_dec (fun hd => ?_) (fun hd => ?_)
        · have hcc : joinS (leafS (pathS (fewT b)) (valS (fewT c))) (leafS (pathS (fewT a)) (valS (fewT c))) = chH (pathS (fewT a)) (valS (fewT c)) (pathS (fewT b)) (valS (fewT c)) 0 j := by
            have h1 : pbit (pathS (fewT a)) j = 1 := by omega
            simp [chH, h1]
          simp -implicitDefEqProofs (disch := omega) only [go_sem, seval, go_sem]
          refine wp_draw_E ?_
          simp -implicitDefEqProofs (disch := omega) only [go_sem, seval, h12, h13, h14, ha1, ha2, j2]
          refine wp_loopS (hI2 _ (.str (fewT a)) (.str (fewT b)) (.ptr 1536 1 0) (.ptr 832 1 0) (pathS (fewT a)) (valS (fewT c)) (pathS (fewT b)) j) (fun k => k) j ⟨by omega, rfl, by simp -implicitDefEqProofs (disch := omega) only [go_sem, seval, h7], by simp -implicitDefEqProofs (disch := omega) only [go_sem, seval, h8], by simp -implicitDefEqProofs (disch := omega) only [go_sem, seval, h11], by simp -implicitDefEqProofs (disch := omega) only [go_sem, seval, h12], by simp -implicitDefEqProofs (disch := omega) only [go_sem, seval, go_sem], by simp -implicitDefEqProofs (disch := omega) only [go_sem, seval, Nat.sub_self, hcc]⟩ ?_
          rintro k ⟨t, σ⟩ ⟨hk, rfl, h7, h8, h11, h12, h14, h15⟩
          simp only at h7 h8 h11 h12 h14 h15
          cases k with
          | zero =>
            rw [show ((0 : Nat) : Int) - 1 = -1 from rfl] at h14
            simp -implicitDefEqProofs (disch := omega) only [go_sem, seval, lp4_1, h14]
            simp -implicitDefEqProofs (disch := omega) only [go_sem, seval, h7, h8, h11, h15, r1, e1, e2]
          | succ k =>
            rw [show ((k + 1 : Nat) : Int) - 1 = (k : Int) by omega] at h14
            have bk := Bit_ok (pathS (fewT a)) k lp (by omega)
            have ee : Gf fns 18 [] = some (.str z32, []) := Empty_ok
            have hcl := chH_len (pathS (fewT a)) (valS (fewT c)) (pathS (fewT b)) (valS (fewT c)) (j - (k + 1)) (k + 1)
            have j3 := Join_ok (chH (pathS (fewT a)) (valS (fewT c)) (pathS (fewT b)) (valS (fewT c)) (j - (k + 1)) (k + 1)) z32 (by omega) (by decide)
            have j4 := Join_ok z32 (chH (pathS (fewT a)) (valS (fewT c)) (pathS (fewT b)) (valS (fewT c)) (j - (k + 1)) (k + 1)) (by decide) (by omega)
            have hst : j - k = (j - (k + 1)) + 1 := by omega
            simp -implicitDefEqProofs (disch := omega) only [go_sem, seval, lp4_1, h12, h14, bk]
            refine condC_dec (fun hd => ?_) (fun hd => ?_)
            · simp -implicitDefEqProofs (disch := omega) only [go_sem, seval, h14, h15, ee, j3]
              have hx : chH (pathS (fewT a)) (valS (fewT c)) (pathS (fewT b)) (valS (fewT c)) (j - k) k = joinS (chH (pathS (fewT a)) (valS (fewT c)) (pathS (fewT b)) (valS (fewT c)) (j - (k + 1)) (k + 1)) z32 := by rw [hst]; simp only [chH]; rw [if_pos hd]
              exact ⟨k, by omega, by omega, rfl, by simp -implicitDefEqProofs (disch := omega) only [go_sem, seval, h7], by simp -implicitDefEqProofs (disch := omega) only [go_sem, seval, h8], by simp -implicitDefEqProofs (disch := omega) only [go_sem, seval, h11], by simp -implicitDefEqProofs (disch := omega) only [go_sem, seval, h12], by simp -implicitDefEqProofs (disch := omega) only [go_sem, seval, go_sem], by simp -implicitDefEqProofs (disch := omega) only [go_sem, seval, hx]⟩
            · simp -implicitDefEqProofs (disch := omega) only [go_sem, seval, h14, h15, ee, j4]
              have hx : chH (pathS (fewT a)) (valS (fewT c)) (pathS (fewT b)) (valS (fewT c)) (j - k) k = joinS z32 (chH (pathS (fewT a)) (valS (fewT c)) (pathS (fewT b)) (valS (fewT c)) (j - (k + 1)) (k + 1)) := by rw [hst]; simp only [chH]; rw [if_neg hd]
              exact ⟨k, by omega, by omega, rfl, by simp -implicitDefEqProofs (disch := omega) only [go_sem, seval, h7], by simp -implicitDefEqProofs (disch := omega) only [go_sem, seval, h8], by simp -implicitDefEqProofs (disch := omega) only [go_sem, seval, h11], by simp -implicitDefEqProofs (disch := omega) only [go_sem, seval, h12], by simp -implicitDefEqProofs (disch := omega) only [go_sem, seval, go_sem], by simp -implicitDefEqProofs (disch := omega) only [go_sem, seval, hx]⟩
        · have hcc : joinS (leafS (pathS (fewT a)) (valS (fewT c))) (leafS (pathS (fewT b)) (valS (fewT c))) = chH (pathS (fewT a)) (valS (fewT c)) (pathS (fewT b)) (valS (fewT c)) 0 j := by
            have h1 : pbit (pathS (fewT a)) j = 0 := by have := pbit_lt (pathS (fewT a)) j; omega
            simp [chH, h1]
          simp -implicitDefEqProofs (disch := omega) only [go_sem, seval, h14]
          refine wp_loopS (hI2 _ (.str (fewT a)) (.str (fewT b)) (.ptr 1536 1 0) (.ptr 832 1 0) (pathS (fewT a)) (valS (fewT c)) (pathS (fewT b)) j) (fun k => k) j ⟨by omega, rfl, by simp -implicitDefEqProofs (disch := omega) only [go_sem, seval, h7], by simp -implicitDefEqProofs (disch := omega) only [go_sem, seval, h8], by simp -implicitDefEqProofs (disch := omega) only [go_sem, seval, h11], by simp -implicitDefEqProofs (disch := omega) only [go_sem, seval, h12], by simp -implicitDefEqProofs (disch := omega) only [go_sem, seval, go_sem], by simp -implicitDefEqProofs (disch := omega) only [go_sem, seval, Nat.sub_self, hcc]⟩ ?_
          rintro k ⟨t, σ⟩ ⟨hk, rfl, h7, h8, h11, h12, h14, h15⟩
          simp only at h7 h8 h11 h12 h14 h15
          cases k with
          | zero =>
            rw [show ((0 : Nat) : Int) - 1 = -1 from rfl] at h14
            simp -implicitDefEqProofs (disch := omega) only [go_sem, seval, lp4_1, h14]
            simp -implicitDefEqProofs (disch := omega) only [go_sem, seval, h7, h8, h11, h15, r1, e1, e2]
          | succ k =>
            rw [show ((k + 1 : Nat) : Int) - 1 = (k : Int) by omega] at h14
            have bk := Bit_ok (pathS (fewT a)) k lp (by omega)
            have ee : Gf fns 18 [] = some (.str z32, []) := Empty_ok
            have hcl := chH_len (pathS (fewT a)) (valS (fewT c)) (pathS (fewT b)) (valS (fewT c)) (j - (k + 1)) (k + 1)
            have j3 := Join_ok (chH (pathS (fewT a)) (valS (fewT c)) (pathS (fewT b)) (valS (fewT c)) (j - (k + 1)) (k + 1)) z32 (by omega) (by decide)
            have j4 := Join_ok z32 (chH (pathS (fewT a)) (valS (fewT c)) (pathS (fewT b)) (valS (fewT c)) (j - (k + 1)) (k + 1)) (by decide) (by omega)
            have hst : j - k = (j - (k + 1)) + 1 := by omega
            simp -implicitDefEqProofs (disch := omega) only [go_sem, seval, lp4_1, h12, h14, bk]
            refine condC_dec (fun hd => ?_) (fun hd => ?_)
            · simp -implicitDefEqProofs (disch := omega) only [go_sem, seval, h14, h15, ee, j3]
              have hx : chH (pathS (fewT a)) (valS (fewT c)) (pathS (fewT b)) (valS (fewT c)) (j - k) k = joinS (chH (pathS (fewT a)) (valS (fewT c)) (pathS (fewT b)) (valS (fewT c)) (j - (k + 1)) (k + 1)) z32 := by rw [hst]; simp only [chH]; rw [if_pos hd]
              exact ⟨k, by omega, by omega, rfl, by simp -implicitDefEqProofs (disch := omega) only [go_sem, seval, h7], by simp -implicitDefEqProofs (disch := omega) only [go_sem, seval, h8], by simp -implicitDefEqProofs (disch := omega) only [go_sem, seval, h11], by simp -implicitDefEqProofs (disch := omega) only [go_sem, seval, h12], by simp -implicitDefEqProofs (disch := omega) only [go_sem, seval, go_sem], by simp -implicitDefEqProofs (disch := omega) only [go_sem, seval, hx]⟩
            · simp -implicitDefEqProofs (disch := omega) only [go_sem, seval, h14, h15, ee, j4]
              have hx : chH (pathS (fewT a)) (valS (fewT c)) (pathS (fewT b)) (valS (fewT c)) (j - k) k = joinS z32 (chH (pathS (fewT a)) (valS (fewT c)) (pathS (fewT b)) (valS (fewT c)) (j - (k + 1)) (k + 1)) := by rw [hst]; simp only [chH]; rw [if_neg hd]
              exact ⟨k, by omega, by omega, rfl, by simp -implicitDefEqProofs (disch := omega) only [go_sem, seval, h7], by simp -implicitDefEqProofs (disch := omega) only [go_sem, seval, h8], by simp -implicitDefEqProofs (disch := omega) only [go_sem, seval, h11], by simp -implicitDefEqProofs (disch := omega) only [go_sem, seval, h12], by simp -implicitDefEqProofs (disch := omega) only [go_sem, seval, go_sem], by simp -implicitDefEqProofs (disch := omega) only [go_sem, seval, hx]⟩
end Go.Vm.Ythfcgllahllkkaa
