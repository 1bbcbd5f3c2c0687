/- (seval) Raft: a replica that is asked for its vote: one asking of the law. -/
import Derived.Test.YtjakgbhlnndhiaaRaftVIa
import Derived.Test.YtjakgbhlnndhiaaRaftVIb
import Derived.Test.YtjakgbhlnndhiaaRaftVIc
set_option linter.unusedSectionVars false
set_option linter.unusedSimpArgs false
set_option linter.unusedVariables false
set_option maxHeartbeats 8000000
set_option maxRecDepth 10000
namespace Go.Vm.Ytjakgbhlnndhiaa
open Go.Proofs
theorem votes_step (km : SK) (ml : List Msg) (T0 vote0 : Int) (kb0 kl0 : SK) (bl : List Int) (l : List Ent) (hl : l.length ≤ 20) (ho : ∀ e ∈ l, e.ok) (hbl : bl.length ≤ 17592186044416) (hml : ml.length ≤ 140737488355328) (Q : Ex → St → Prop) (hQ : ∀ s', Q (.exit 2) s') (i : Nat) (s : St)
    (h : vS km ml [.int .i64 T0, .int .i64 vote0, .int .i64 0, .int .i64 0, .str [], .sl kb0 bl.length (bl.map iV), .sl kl0 l.length (rows Ent.v l)] bl l i s) : wpA (tabW fns) lp4_1 (nextQ (vS km ml [.int .i64 T0, .int .i64 vote0, .int .i64 0, .int .i64 0, .str [], .sl kb0 bl.length (bl.map iV), .sl kl0 l.length (rows Ent.v l)] bl l) (fun i => ml.length - i) i Q) s := by
  have hrm := mlen ml
  obtain ⟨t, σ⟩ := s
  obtain ⟨hi, h1, h2, s2, h5, h10, gm, p, g, T, vote, since, tmo, vm, h9, h7, hp, hN, hT, hv1, hv2, sv, hm1, hm2⟩ := h
  simp only at h1 h2 s2 h5 h10 h9 h7 hN sv
  obtain ⟨hpS, hno, hpb⟩ := ss_no hp
  by_cases hc : i < ml.length
  rotate_left
  · simp -implicitDefEqProofs (disch := omega) only [go_sem, seval, lp4_1, h1, h10, hc, hQ]
  by_cases hc6 : i < 60
  rotate_left
  · simp -implicitDefEqProofs (disch := omega) only [go_sem, seval, lp4_1, h1, h10, hc, hc6, hQ]
  have mr := mrow ml i hc
  generalize gt ml i = m at mr
  obtain ⟨k, f, to, mt, ix, lt, cm, y, ek, en, ec, off, pc, d, mk2, mn, mc⟩ := m
  have mr0 := mr
  have ck := Check_ok ⟨1, f, 2, mt, ix, lt, cm, y, .nil, 0, [], off, pc, d, mk2, mn, mc⟩
  simp -implicitDefEqProofs (disch := omega) only [go_sem, seval, Msg.v] at ck mr
  obtain ⟨b1, b2, b3, b4⟩ := hpb 8704 (by simp)
  obtain ⟨c1, c2, c3, c4⟩ := hpb 9152 (by simp)
  obtain ⟨d1, d2, d3, d4⟩ := hpb 16192 (by simp)
  obtain ⟨e1, e2, e3, e4⟩ := hpb 16896 (by simp)
  obtain ⟨n1, n1'⟩ := hno 192 (by simp)
  obtain ⟨n2', n2''⟩ := hno 768 (by simp)
  obtain ⟨n3, n3'⟩ := hno 6720 (by simp)
  obtain ⟨n4, n4'⟩ := hno 9152 (by simp)
  have no768 : ∀ j, j = p ∨ j ∈ SS → (j == 768) = false := fun j hj => beq_no (fun c => by
    subst c
    rcases hj with h | h
    · exact n2' h
    · exact n2'' h)
  have no6720 : ∀ j, j = p ∨ j ∈ SS → (j == 6720) = false := fun j hj => beq_no (fun c => by
    subst c
    rcases hj with h | h
    · exact n3 h
    · exact n3' h)
  cases hm : mayM ⟨1, f, 2, mt, ix, lt, cm, y, .nil, 0, [], off, pc, d, mk2, mn, mc⟩
  · rw [hm] at ck
    simp -implicitDefEqProofs (disch := omega) only [go_sem, seval, lp4_1, h1, h2, h5, h7, h9, h10, hc, hc6, mr, ck]
    refine contC_ex (bad_call (hN.frame fun j hj => ?_) hl hpS b1 b2 (by decide) (by decide) ⟨1, f, 2, mt, ix, lt, cm, y, .nil, 0, [], off, pc, d, mk2, mn, mc⟩ hm) ?_
    · simp -implicitDefEqProofs (disch := omega) only [go_sem, seval, no768 j hj]
    rintro σ2 ⟨hN2, hf2⟩
    simp -implicitDefEqProofs (disch := omega) only [go_sem, seval, h1, h2, h5, h7, h9, h10]
    exact ⟨i + 1, by omega, by omega, by simp -implicitDefEqProofs (disch := omega) only [go_sem, seval, h1], by simp -implicitDefEqProofs (disch := omega) only [go_sem, seval, h2], (hf2 192 n1 n1').trans (by simp -implicitDefEqProofs (disch := omega) only [go_sem, seval, s2]), by simp -implicitDefEqProofs (disch := omega) only [go_sem, seval, h5], by simp -implicitDefEqProofs (disch := omega) only [go_sem, seval, go_sem], gm, p, g, T, vote, since, tmo, vm, by simp -implicitDefEqProofs (disch := omega) only [go_sem, seval, h9], by simp -implicitDefEqProofs (disch := omega) only [go_sem, seval, h7], hp, hN2, hT, hv1, hv2, (hf2 6720 n3 n3').trans (by simp -implicitDefEqProofs (disch := omega) only [go_sem, seval, sv]), hm1, hm2⟩
  rw [hm] at ck
  obtain ⟨f0, f16, t0, t1, cm0, cm1⟩ := mayM_of hm
  simp only at f0 f16 t0 t1 cm0 cm1
  obtain ⟨mt, rfl⟩ : ∃ n : Nat, mt = (n : Int) := ⟨mt.toNat, by omega⟩
  obtain ⟨cm, rfl⟩ : ∃ n : Nat, cm = (n : Int) := ⟨cm.toNat, by omega⟩
  rcases Nat.lt_trichotomy T mt with h | h | h
  · exact votes_a km ml T0 vote0 kb0 kl0 bl l hl ho hbl hml Q i t σ gm p g T mt cm vote since tmo vm k f to ix lt off y d ek en ec pc mk2 mn mc hi hc hc6 mr0 hm h1 h2 s2 h5 h10 h9 h7 hp hN hT hv1 hv2 sv hm1 hm2 h
  · exact votes_b km ml T0 vote0 kb0 kl0 bl l hl ho hbl hml Q i t σ gm p g T mt cm vote since tmo vm k f to ix lt off y d ek en ec pc mk2 mn mc hi hc hc6 mr0 hm h1 h2 s2 h5 h10 h9 h7 hp hN hT hv1 hv2 sv hm1 hm2 h
  · exact votes_c km ml T0 vote0 kb0 kl0 bl l hl ho hbl hml Q i t σ gm p g T mt cm vote since tmo vm k f to ix lt off y d ek en ec pc mk2 mn mc hi hc hc6 mr0 hm h1 h2 s2 h5 h10 h9 h7 hp hN hT hv1 hv2 sv hm1 hm2 h
end Go.Vm.Ytjakgbhlnndhiaa
