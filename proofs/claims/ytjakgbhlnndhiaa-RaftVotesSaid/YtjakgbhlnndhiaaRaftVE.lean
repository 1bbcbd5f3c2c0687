/- (seval) Raft: a replica that is asked for its vote: it lies in memory. -/
import Derived.Test.YtjakgbhlnndhiaaRaftVD
set_option linter.unusedSectionVars false
set_option linter.unusedSimpArgs false
set_option linter.unusedVariables false
set_option maxHeartbeats 4000000
set_option maxRecDepth 10000
namespace Go.Vm.Ytjakgbhlnndhiaa
open Go.Proofs
def NodeIn (σ : Store) (p g : Nat) (S : List Nat) (bl : List Int) (l : List Ent) (term vote since tmo : Int) : Prop :=
  (∃ kb kl, (kb = .nil ∨ kb = .ro) ∧ (kb = .nil → bl = []) ∧ σ p = ⟨g, .rw, false, n2 term vote (.sl kb bl.length (bl.map iV)) (.sl kl l.length (rows Ent.v l)) since tmo⟩) ∨
  (∃ q gq kl, q ∈ S ∧ σ p = ⟨g, .rw, false, n2 term vote (.sli q gq 0 bl.length 1) (.sl kl l.length (rows Ent.v l)) since tmo⟩ ∧ σ q = ⟨gq, .rw, true, bl.map iV⟩) ∨
  (∃ kb q gq, (kb = .nil ∨ kb = .ro) ∧ (kb = .nil → bl = []) ∧ q ∈ S ∧ σ p = ⟨g, .rw, false, n2 term vote (.sl kb bl.length (bl.map iV)) (.sli q gq 0 l.length 4) since tmo⟩ ∧ σ q = ⟨gq, .rw, true, rows Ent.v l⟩) ∨
  (∃ q gq r gr, q ∈ S ∧ r ∈ S ∧ q ≠ r ∧ σ p = ⟨g, .rw, false, n2 term vote (.sli q gq 0 bl.length 1) (.sli r gr 0 l.length 4) since tmo⟩ ∧ σ q = ⟨gq, .rw, true, bl.map iV⟩ ∧ σ r = ⟨gr, .rw, true, rows Ent.v l⟩)
section
variable {σ : Store} {base p g : Nat} {S : List Nat} {bl : List Int} {l : List Ent} {term vote since tmo : Int}
theorem term_call (h : NodeIn σ p g S bl l term vote since tmo) (hp : p ∉ S) : ∃ is, ∀ base, callV (tabW fns) σ base 17 [.ptr p g 0] = some ⟨.int .i64 term, [], is⟩ := by
  have hrl := elen l
  have c := fun bc log => Term2 term vote since tmo bc log
  simp -implicitDefEqProofs (disch := omega) only [go_sem, seval, n2] at c
  rcases h with ⟨kb, kl, _, _, e⟩ | ⟨q, gq, kl, hq, e, e2⟩ | ⟨kb, q, gq, _, _, hq, e, e2⟩ | ⟨q, gq, r, gr, hq, hr, hqr, e, e2, e3⟩
  · simp -implicitDefEqProofs (disch := omega) only [go_sem, seval, n2] at e
    refine ⟨[p], fun base => ?_⟩
    simp -implicitDefEqProofs (disch := omega) only [go_sem, seval, callV_T at17, e, c]
  · have n1 : (q == p) = false := beq_no (fun c => hp (c ▸ hq))
    simp -implicitDefEqProofs (disch := omega) only [go_sem, seval, n2] at e
    refine ⟨[p, q], fun base => ?_⟩
    simp -implicitDefEqProofs (disch := omega) only [go_sem, seval, callV_T at17, e, e2, c, List.length_map]
  · have n1 : (q == p) = false := beq_no (fun c => hp (c ▸ hq))
    simp -implicitDefEqProofs (disch := omega) only [go_sem, seval, n2] at e
    refine ⟨[p, q], fun base => ?_⟩
    simp -implicitDefEqProofs (disch := omega) only [go_sem, seval, callV_T at17, e, e2, c, List.length_map]
  · simp -implicitDefEqProofs (disch := omega) only [go_sem, seval, n2] at e
    refine ⟨[p, q, r], fun base => ?_⟩
    simp -implicitDefEqProofs (disch := omega) only [go_sem, seval, callV_T at17, e, e2, e3, c, List.length_map]
theorem term_callr (h : NodeIn σ p g S bl l term vote since tmo) (hp : p ∉ S) (base : Nat) : callR (tabW fns) σ base 17 [.ptr p g 0] = some (.int .i64 term, σ) := by
  obtain ⟨is, hc⟩ := term_call h hp
  have := hc base
  rw [callV_T at17] at this
  rw [callR_T at17, this]
  rfl
/-- A message is answered. -/
theorem step_call (h : NodeIn σ p g S bl l term vote since tmo) (hl : l.length ≤ 20) (hp : p ∉ S) (hb0 : p ≠ base) (hb1 : p ≠ base + 1) (hb2 : p ≠ base + 2) (hbS : base ∉ S) (hS1 : base + 1 ∈ S) (hS2 : base + 2 ∈ S) (m : Msg) (hm : mayM m = true) (hk : m.k = 1) (ht : m.t = 2) :
    ∃ σ', callR (tabW fns) σ base 18 [.ptr p g 0, .agg m.v] = some (.sli base ((σ base).gen + 1) 0 1 13, σ') ∧
      (NodeIn σ' p g S bl l (stepT term m) (if yesB (stepT term m) (stepV term vote m) l m = true then m.f else stepV term vote m) (if yesB (stepT term m) (stepV term vote m) l m = true then 0 else since) tmo ∧
      σ' base = ⟨(σ base).gen + 1, .rw, true, row m.f (stepT term m) (yesB (stepT term m) (stepV term vote m) l m)⟩ ∧ ∀ j, j ≠ p → j ≠ base → j ∉ S → σ' j = σ j) := by
  have hrl := elen l
  have s := fun bc log hb hg => Step2 term vote since tmo bl.length (bl.map iV) l hl bc log hb (by rw [List.length_map]) hg m hm hk ht
  generalize stepT term m = T2 at *
  generalize yesB T2 (stepV term vote m) l m = yes at *
  generalize stepV term vote m = V2 at *
  have b1 : (p == base) = false := beq_no hb0
  have b2 : (base == p) = false := beq_no hb0.symm
  have b3 : (p == base + 1) = false := beq_no hb1
  have b4 : (base + 1 == p) = false := beq_no hb1.symm
  have b5 : (p == base + 2) = false := beq_no hb2
  have b6 : (base + 2 == p) = false := beq_no hb2.symm
  have b7 : (base == base + 1) = false := beq_no (by omega)
  have b8 : (base + 1 == base) = false := beq_no (by omega)
  have b9 : (base == base + 2) = false := beq_no (by omega)
  have b10 : (base + 2 == base) = false := beq_no (by omega)
  have b11 : (base + 1 == base + 2) = false := beq_no (by omega)
  have b12 : (base + 2 == base + 1) = false := beq_no (by omega)
  rcases h with ⟨kb, kl, k1, k2, e⟩ | ⟨q, gq, kl, hq, e, e2⟩ | ⟨kb, q, gq, k1, k2, hq, e, e2⟩ | ⟨q, gq, r, gr, hq, hr, hqr, e, e2, e3⟩
  · have s := s (.sl kb bl.length (bl.map iV)) (.sl kl l.length (rows Ent.v l)) (.inl ⟨kb, rfl⟩) (.inl ⟨kl, rfl⟩)
    simp -implicitDefEqProofs (disch := omega) only [go_sem, seval, n2, Msg.v, row] at e s
    simp -implicitDefEqProofs (disch := omega) only [go_sem, seval, callr18, e, s, Msg.v, row, ite_self, b1, b2, b3, b4, b5, b6, b7, b8, b9, b10, b11, b12]
    refine ⟨_, rfl, .inl ⟨kb, kl, k1, k2, ?_⟩, ?_, fun j h1 h2 h3 => ?_⟩
    · simp -implicitDefEqProofs (disch := omega) only [go_sem, seval, n2]
    · simp -implicitDefEqProofs (disch := omega) only [go_sem, seval, b2]
    · simp -implicitDefEqProofs (disch := omega) only [go_sem, seval, beq_no h1, beq_no h2]
  · have n1 : (q == p) = false := beq_no (fun c => hp (c ▸ hq))
    have n2' : (p == q) = false := beq_no (fun c => hp (c.symm ▸ hq))
    have n3 : (q == base) = false := beq_no (fun c => hbS (c ▸ hq))
    have n4 : (base == q) = false := beq_no (fun c => hbS (c.symm ▸ hq))
    have s := s (.osl 1 bl.length (bl.map iV)) (.sl kl l.length (rows Ent.v l)) (.inr rfl) (.inl ⟨kl, rfl⟩)
    simp -implicitDefEqProofs (disch := omega) only [go_sem, seval, n2, Msg.v, row] at e s
    simp -implicitDefEqProofs (disch := omega) only [go_sem, seval, callr18, e, e2, s, Msg.v, row, ite_self, List.length_map, n1, n2', n3, n4, b1, b2, b3, b4, b5, b6, b7, b8, b9, b10, b11, b12]
    refine ⟨_, rfl, .inr (.inl ⟨base + 1, (σ (base + 1)).gen + 1, kl, hS1, ?_, ?_⟩), ?_, fun j h1 h2 h3 => ?_⟩
    · simp -implicitDefEqProofs (disch := omega) only [go_sem, seval, n2]
    · simp -implicitDefEqProofs (disch := omega) only [go_sem, seval, b4]
    · simp -implicitDefEqProofs (disch := omega) only [go_sem, seval, b2, b7]
    · simp -implicitDefEqProofs (disch := omega) only [go_sem, seval, beq_no h1, beq_no h2, beq_no (fun c : j = q => h3 (c ▸ hq)), beq_no (fun c : j = base + 1 => h3 (c ▸ hS1))]
  · have n1 : (q == p) = false := beq_no (fun c => hp (c ▸ hq))
    have n2' : (p == q) = false := beq_no (fun c => hp (c.symm ▸ hq))
    have n3 : (q == base) = false := beq_no (fun c => hbS (c ▸ hq))
    have n4 : (base == q) = false := beq_no (fun c => hbS (c.symm ▸ hq))
    have s := s (.sl kb bl.length (bl.map iV)) (.osl 4 l.length (rows Ent.v l)) (.inl ⟨kb, rfl⟩) (.inr rfl)
    simp -implicitDefEqProofs (disch := omega) only [go_sem, seval, n2, Msg.v, row] at e s
    simp -implicitDefEqProofs (disch := omega) only [go_sem, seval, callr18, e, e2, s, Msg.v, row, ite_self, List.length_map, n1, n2', n3, n4, b1, b2, b3, b4, b5, b6, b7, b8, b9, b10, b11, b12]
    refine ⟨_, rfl, .inr (.inr (.inl ⟨kb, base + 1, (σ (base + 1)).gen + 1, k1, k2, hS1, ?_, ?_⟩)), ?_, fun j h1 h2 h3 => ?_⟩
    · simp -implicitDefEqProofs (disch := omega) only [go_sem, seval, n2]
    · simp -implicitDefEqProofs (disch := omega) only [go_sem, seval, b4]
    · simp -implicitDefEqProofs (disch := omega) only [go_sem, seval, b2, b7]
    · simp -implicitDefEqProofs (disch := omega) only [go_sem, seval, beq_no h1, beq_no h2, beq_no (fun c : j = q => h3 (c ▸ hq)), beq_no (fun c : j = base + 1 => h3 (c ▸ hS1))]
  · have n1 : (q == p) = false := beq_no (fun c => hp (c ▸ hq))
    have n2' : (p == q) = false := beq_no (fun c => hp (c.symm ▸ hq))
    have n3 : (q == base) = false := beq_no (fun c => hbS (c ▸ hq))
    have n4 : (base == q) = false := beq_no (fun c => hbS (c.symm ▸ hq))
    have m1 : (r == p) = false := beq_no (fun c => hp (c ▸ hr))
    have m2 : (p == r) = false := beq_no (fun c => hp (c.symm ▸ hr))
    have m3 : (r == base) = false := beq_no (fun c => hbS (c ▸ hr))
    have m4 : (base == r) = false := beq_no (fun c => hbS (c.symm ▸ hr))
    have m5 : (q == r) = false := beq_no hqr
    have m6 : (r == q) = false := beq_no hqr.symm
    have s := s (.osl 1 bl.length (bl.map iV)) (.osl 4 l.length (rows Ent.v l)) (.inr rfl) (.inr rfl)
    simp -implicitDefEqProofs (disch := omega) only [go_sem, seval, n2, Msg.v, row] at e s
    simp -implicitDefEqProofs (disch := omega) only [go_sem, seval, callr18, e, e2, e3, s, Msg.v, row, ite_self, List.length_map, n1, n2', n3, n4, m1, m2, m3, m4, m5, m6, b1, b2, b3, b4, b5, b6, b7, b8, b9, b10, b11, b12]
    refine ⟨_, rfl, .inr (.inr (.inr ⟨base + 1, (σ (base + 1)).gen + 1, base + 2, (σ (base + 2)).gen + 1, hS1, hS2, by omega, ?_, ?_, ?_⟩)), ?_, fun j h1 h2 h3 => ?_⟩
    · simp -implicitDefEqProofs (disch := omega) only [go_sem, seval, n2]
    · simp -implicitDefEqProofs (disch := omega) only [go_sem, seval, b4, b11]
    · simp -implicitDefEqProofs (disch := omega) only [go_sem, seval, b6]
    · simp -implicitDefEqProofs (disch := omega) only [go_sem, seval, b2, b7, b9]
    · simp -implicitDefEqProofs (disch := omega) only [go_sem, seval, beq_no h1, beq_no h2, beq_no (fun c : j = q => h3 (c ▸ hq)), beq_no (fun c : j = r => h3 (c ▸ hr)), beq_no (fun c : j = base + 1 => h3 (c ▸ hS1)), beq_no (fun c : j = base + 2 => h3 (c ▸ hS2))]
end
end Go.Vm.Ytjakgbhlnndhiaa
