/- (seval) Sparse trees: two leaves, in the machine. -/
import Derived.Test.YthfcgllahllkkaaSmtH
set_option linter.unusedSectionVars false
set_option linter.unusedSimpArgs false
set_option linter.unusedVariables false
set_option maxHeartbeats 4000000
set_option maxRecDepth 10000
namespace Go.Vm
def z32 : List UInt8 := [0, 0, 0, 0, 0, 0, 0, 0, 0, 0, 0, 0, 0, 0, 0, 0, 0, 0, 0, 0, 0, 0, 0, 0, 0, 0, 0, 0, 0, 0, 0, 0]
theorem joinS_len (a b : List UInt8) : (joinS a b).length = 32 := by unfold joinS; exact sha_len _
theorem leafS_len (a b : List UInt8) : (leafS a b).length = 32 := by unfold leafS; exact sha_len _
theorem pathS_len (k : List UInt8) : (pathS k).length = 32 := by unfold pathS; exact sha_len _
theorem valS_len (k : List UInt8) : (valS k).length = 32 := by unfold valS; exact sha_len _
/-- A leaf's half, read alone. -/
def nodeR (p v : List UInt8) : List V := [.nilp, .nilp, .pt [.str p, .str v] 0, .str (leafS p v)]
/-- The digest of two leaves whose paths differ first at bit at + m, from bit at on. -/
def chH (p v q v2 : List UInt8) : Nat → Nat → List UInt8
  | 0, a => if pbit p a = 0 then joinS (leafS p v) (leafS q v2) else joinS (leafS q v2) (leafS p v)
  | m + 1, a => if pbit p a = 0 then joinS (chH p v q v2 m (a + 1)) z32 else joinS z32 (chH p v q v2 m (a + 1))
def chC (p v q v2 : List UInt8) : Nat → Nat → List V
  | 0, a => if pbit p a = 0 then [.pt (nodeR p v) 0, .pt (nodeR q v2) 0, .nilp, .str (chH p v q v2 0 a)] else [.pt (nodeR q v2) 0, .pt (nodeR p v) 0, .nilp, .str (chH p v q v2 0 a)]
  | m + 1, a => if pbit p a = 0 then [.pt (chC p v q v2 m (a + 1)) 0, .nilp, .nilp, .str (chH p v q v2 (m + 1) a)] else [.nilp, .pt (chC p v q v2 m (a + 1)) 0, .nilp, .str (chH p v q v2 (m + 1) a)]
theorem chH_len (p v q v2 : List UInt8) (m a : Nat) : (chH p v q v2 m a).length = 32 := by
  cases m <;> simp only [chH] <;> split <;> exact joinS_len _ _
theorem chC_form (p v q v2 : List UInt8) (m a : Nat) : (∃ x y, chC p v q v2 m a = [.pt x 0, .pt y 0, .nilp, .str (chH p v q v2 m a)]) ∨ (∃ x, chC p v q v2 m a = [.pt x 0, .nilp, .nilp, .str (chH p v q v2 m a)]) ∨ (∃ x, chC p v q v2 m a = [.nilp, .pt x 0, .nilp, .str (chH p v q v2 m a)]) := by
  cases m with
  | zero =>
    left
    simp only [chC]
    split
    · exact ⟨_, _, rfl⟩
    · exact ⟨_, _, rfl⟩
  | succ m =>
    right
    simp only [chC]
    split
    · exact .inl ⟨_, rfl⟩
    · exact .inr ⟨_, rfl⟩
theorem pbit_cases (s : List UInt8) (k : Nat) : pbit s k = 0 ∨ pbit s k = 1 := by have := pbit_lt s k; omega
end Go.Vm
namespace Go.Vm.Ythfcgllahllkkaa
open Go.Proofs
variable {p v q v2 : List UInt8}
theorem hashOf_pt (a b l : V) (h : List UInt8) : Gf fns 25 [.pt [a, b, l, .str h] 0] = some (.str h, []) := by
  refine Gf_start rfl rfl ?_
  simp -implicitDefEqProofs (disch := omega) only [go_sem, seval, go_sem]
theorem hashOf_nil : Gf fns 25 [.nilp] = some (.str z32, []) := by
  have e := Empty_ok
  refine Gf_start rfl rfl ?_
  simp -implicitDefEqProofs (disch := omega) only [go_sem, seval, e, z32]
theorem inner_pp (a b l a2 b2 l2 : V) (h h2 : List UInt8) (hl : h.length = 32) (hl2 : h2.length = 32) : Gf fns 39 [.pt [a, b, l, .str h] 0, .pt [a2, b2, l2, .str h2] 0] = some (.opt [.pt [a, b, l, .str h] 0, .pt [a2, b2, l2, .str h2] 0, .nilp, .str (joinS h h2)], []) := by
  have t1 := hashOf_pt a b l h
  have t2 := hashOf_pt a2 b2 l2 h2
  have t3 := Join_ok h h2 (by omega) (by omega)
  refine Gf_start rfl rfl ?_
  simp -implicitDefEqProofs (disch := omega) only [go_sem, seval, t1, t2, t3]
theorem inner_pn (a b : V) (h : List UInt8) (hl : h.length = 32) : Gf fns 39 [.pt [a, b, .nilp, .str h] 0, .nilp] = some (.opt [.pt [a, b, .nilp, .str h] 0, .nilp, .nilp, .str (joinS h z32)], []) := by
  have t1 := hashOf_pt a b .nilp h
  have t2 := hashOf_nil
  have t3 := Join_ok h z32 (by omega) (by decide)
  refine Gf_start rfl rfl ?_
  simp -implicitDefEqProofs (disch := omega) only [go_sem, seval, t1, t2, t3]
theorem inner_np (a b : V) (h : List UInt8) (hl : h.length = 32) : Gf fns 39 [.nilp, .pt [a, b, .nilp, .str h] 0] = some (.opt [.nilp, .pt [a, b, .nilp, .str h] 0, .nilp, .str (joinS z32 h)], []) := by
  have t1 := hashOf_pt a b .nilp h
  have t2 := hashOf_nil
  have t3 := Join_ok z32 h (by decide) (by omega)
  refine Gf_start rfl rfl ?_
  simp -implicitDefEqProofs (disch := omega) only [go_sem, seval, t1, t2, t3]
theorem two_ok (hp : p.length = 32) (hq : q.length = 32) (hv : v.length = 32) (hv2 : v2.length = 32) : ∀ (m a : Nat), a + m < 256 → (∀ j, a ≤ j → j < a + m → pbit p j = pbit q j) → pbit p (a + m) ≠ pbit q (a + m) →
    Gf fns 38 [.agg [.str p, .str v], .agg [.str q, .str v2], .int .i64 (a : Int)] = some (.opt (chC p v q v2 m a), [])
  | 0, a, hm, _, hne => by
    have b1 := bit_ok p a hp (by omega)
    have b2 := bit_ok q a hq (by omega)
    have l1 := leafNode_ok p v (by omega) (by omega)
    have l2 := leafNode_ok q v2 (by omega) (by omega)
    have i1 := inner_pp .nilp .nilp (.pt [.str p, .str v] 0) .nilp .nilp (.pt [.str q, .str v2] 0) (leafS p v) (leafS q v2) (leafS_len _ _) (leafS_len _ _)
    have i2 := inner_pp .nilp .nilp (.pt [.str q, .str v2] 0) .nilp .nilp (.pt [.str p, .str v] 0) (leafS q v2) (leafS p v) (leafS_len _ _) (leafS_len _ _)
    rw [Nat.add_zero] at hne
    refine Gf_start rfl rfl ?_
    simp -implicitDefEqProofs (disch := omega) only [go_sem, seval, nodeV] at l1 l2
    rcases pbit_cases p a with e1 | e1 <;> rcases pbit_cases q a with e2 | e2
    · exact absurd (e1.trans e2.symm) hne
    · rw [e1] at b1
      rw [e2] at b2
      simp -implicitDefEqProofs (disch := omega) only [go_sem, seval, go_sem]
      refine wp_draw_E ?_
      simp -implicitDefEqProofs (disch := omega) only [go_sem, seval, b1, b2]
      refine wp_draw_E ?_
      simp -implicitDefEqProofs (disch := omega) only [go_sem, seval, l1, l2, i1]
      simp [chC, chH, nodeR, e1]
    · rw [e1] at b1
      rw [e2] at b2
      simp -implicitDefEqProofs (disch := omega) only [go_sem, seval, go_sem]
      refine wp_draw_E ?_
      simp -implicitDefEqProofs (disch := omega) only [go_sem, seval, b1, b2]
      refine wp_draw_E ?_
      simp -implicitDefEqProofs (disch := omega) only [go_sem, seval, l1, l2, i2]
      simp [chC, chH, nodeR, e1]
    · exact absurd (e1.trans e2.symm) hne
  | m + 1, a, hm, heq, hne => by
    have b1 := bit_ok p a hp (by omega)
    have b2 := bit_ok q a hq (by omega)
    have hpq := heq a (Nat.le_refl _) (by omega)
    have ih := two_ok hp hq hv hv2 m (a + 1) (by omega) (fun j h1 h2 => heq j (by omega) (by omega)) (by rw [show a + 1 + m = a + (m + 1) by omega]; exact hne)
    have hl := chH_len p v q v2 m (a + 1)
    have f := chC_form p v q v2 m (a + 1)
    have hc0 : pbit p a = 0 → chC p v q v2 (m + 1) a = [.pt (chC p v q v2 m (a + 1)) 0, .nilp, .nilp, .str (joinS (chH p v q v2 m (a + 1)) z32)] := fun e => by simp [chC, chH, e]
    have hc1 : pbit p a = 1 → chC p v q v2 (m + 1) a = [.nilp, .pt (chC p v q v2 m (a + 1)) 0, .nilp, .str (joinS z32 (chH p v q v2 m (a + 1)))] := fun e => by simp [chC, chH, e]
    rw [← hpq] at b2
    refine Gf_start rfl rfl ?_
    rcases pbit_cases p a with e1 | e1
    · rw [hc0 e1]
      rw [e1] at b1 b2
      rcases f with ⟨x, y, f⟩ | ⟨x, f⟩ | ⟨x, f⟩ <;> rw [f] at ih ⊢
      all_goals
        have i1 := fun A B => inner_pn A B (chH p v q v2 m (a + 1)) hl
        simp -implicitDefEqProofs (disch := omega) only [go_sem, seval, go_sem]
        refine wp_draw_E ?_
        simp -implicitDefEqProofs (disch := omega) only [go_sem, seval, b1, b2, ih, i1]
    · rw [hc1 e1]
      rw [e1] at b1 b2
      rcases f with ⟨x, y, f⟩ | ⟨x, f⟩ | ⟨x, f⟩ <;> rw [f] at ih ⊢
      all_goals
        have i1 := fun A B => inner_np A B (chH p v q v2 m (a + 1)) hl
        simp -implicitDefEqProofs (disch := omega) only [go_sem, seval, go_sem]
        refine wp_draw_E ?_
        simp -implicitDefEqProofs (disch := omega) only [go_sem, seval, b1, b2, ih, i1]
end Go.Vm.Ythfcgllahllkkaa
/- (seval) Sparse trees: a second leaf is put, in the machine. -/
namespace Go.Vm.Ythfcgllahllkkaa
open Go.Proofs
variable {p v : List UInt8}
theorem Root_pt (a b l : V) (h : List UInt8) (n : Int) : Gf fns 16 [.pt [.pt [a, b, l, .str h] 0, .int .i64 n] 0] = some (.str h, []) := by
  have t := hashOf_pt a b l h
  refine Gf_start rfl rfl ?_
  simp -implicitDefEqProofs (disch := omega) only [go_sem, seval, t]
theorem Get_same (k : List UInt8) (hk : k.length ≤ 1000000) : Gf fns 23 [.pt [.pt [.nilp, .nilp, .pt [.str (pathS k), .str v] 0, .str (leafS (pathS k) v)] 0, .int .i64 1] 0, .str k] = some (.tup [.str v, .bool true], []) := by
  have t := Path_ok k hk
  refine Gf_start rfl rfl ?_
  simp -implicitDefEqProofs (disch := omega) only [go_sem, seval, t, ↓wp_unroll, lp23_0]
theorem Get_other (k : List UInt8) (hk : k.length ≤ 1000000) (hn : ¬ p = pathS k) : Gf fns 23 [.pt [.pt [.nilp, .nilp, .pt [.str p, .str v] 0, .str (leafS p v)] 0, .int .i64 1] 0, .str k] = some (.tup [.str [], .bool false], []) := by
  have t := Path_ok k hk
  refine Gf_start rfl rfl ?_
  simp -implicitDefEqProofs (disch := omega) only [go_sem, seval, t, hn, ↓wp_unroll, lp23_0]
theorem put_same (w : List UInt8) (hp : p.length = 32) (hw : w.length = 32) : Gf fns 24 [.pt [.nilp, .nilp, .pt [.str p, .str v] 0, .str (leafS p v)] 0, .agg [.str p, .str w], .int .i64 0] = some (.opt (nodeV p w), []) := by
  have t := leafNode_ok p w (by omega) (by omega)
  simp -implicitDefEqProofs (disch := omega) only [go_sem, seval, nodeV] at t
  refine Gf_start rfl rfl ?_
  simp -implicitDefEqProofs (disch := omega) only [go_sem, seval, go_sem]
  refine wp_draw_E ?_
  simp -implicitDefEqProofs (disch := omega) only [go_sem, seval, t, nodeV]
theorem put_two (q w : List UInt8) (m : Nat) (hp : p.length = 32) (hv : v.length = 32) (hq : q.length = 32) (hw : w.length = 32) (hn : ¬ p = q) (hm : m < 256) (heq : ∀ j, j < m → pbit p j = pbit q j) (hne : pbit p m ≠ pbit q m) :
    Gf fns 24 [.pt [.nilp, .nilp, .pt [.str p, .str v] 0, .str (leafS p v)] 0, .agg [.str q, .str w], .int .i64 0] = some (.opt (chC p v q w m 0), []) := by
  have t := two_ok hp hq hv hw m 0 (by omega) (fun j _ h => heq j (by omega)) (by rw [Nat.zero_add]; exact hne)
  rw [show ((0 : Nat) : Int) = 0 from rfl] at t
  refine Gf_start rfl rfl ?_
  rcases chC_form p v q w m 0 with ⟨x, y, f⟩ | ⟨x, f⟩ | ⟨x, f⟩ <;> rw [f] at t ⊢
  all_goals
    simp -implicitDefEqProofs (disch := omega) only [go_sem, seval, go_sem]
    refine wp_draw_E ?_
    simp -implicitDefEqProofs (disch := omega) only [go_sem, seval, hn]
    refine wp_draw_E ?_
    simp -implicitDefEqProofs (disch := omega) only [go_sem, seval, t]
theorem Put_same (k w : List UInt8) (hk : k.length ≤ 1000000) (hw : w.length ≤ 1000000) : Gf fns 15 [.opt [.opt [.nilp, .nilp, .opt [.str (pathS k), .str v], .str (leafS (pathS k) v)], .int .i64 1], .str k, .str w] = some (.int .i64 0, [.opt [.opt (nodeV (pathS k) (valS w)), .int .i64 1]]) := by
  have g := Get_same (v := v) k hk
  have t1 := Path_ok k hk
  have t2 := Value_ok w hw
  have t3 := put_same (v := v) (valS w) (pathS_len k) (valS_len w)
  simp -implicitDefEqProofs (disch := omega) only [go_sem, seval, nodeV] at t3
  refine Gf_start rfl rfl ?_
  simp -implicitDefEqProofs (disch := omega) only [go_sem, seval, g]
  refine wp_draw_E ?_
  simp -implicitDefEqProofs (disch := omega) only [go_sem, seval, t1, t2, t3, nodeV]
theorem Put_two (k w : List UInt8) (m : Nat) (hk : k.length ≤ 1000000) (hw : w.length ≤ 1000000) (hp : p.length = 32) (hv : v.length = 32) (hn : ¬ p = pathS k) (hm : m < 256) (heq : ∀ j, j < m → pbit p j = pbit (pathS k) j) (hne : pbit p m ≠ pbit (pathS k) m) :
    Gf fns 15 [.opt [.opt [.nilp, .nilp, .opt [.str p, .str v], .str (leafS p v)], .int .i64 1], .str k, .str w] = some (.int .i64 0, [.opt [.opt (chC p v (pathS k) (valS w) m 0), .int .i64 2]]) := by
  have g := Get_other (v := v) k hk hn
  have t1 := Path_ok k hk
  have t2 := Value_ok w hw
  have t3 := put_two (pathS k) (valS w) m hp hv (pathS_len k) (valS_len w) hn hm heq hne
  refine Gf_start rfl rfl ?_
  rcases chC_form p v (pathS k) (valS w) m 0 with ⟨x, y, f⟩ | ⟨x, f⟩ | ⟨x, f⟩ <;> rw [f] at t3 ⊢
  all_goals
    simp -implicitDefEqProofs (disch := omega) only [go_sem, seval, g]
    refine wp_draw_E ?_
    simp -implicitDefEqProofs (disch := omega) only [go_sem, seval, t1, t2, t3]
end Go.Vm.Ythfcgllahllkkaa
