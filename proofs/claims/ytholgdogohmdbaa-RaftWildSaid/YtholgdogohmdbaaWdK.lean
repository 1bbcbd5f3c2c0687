/- (seval) Raft: a replica that gets whatever messages: a snapshot is laid. -/
import Derived.Test.YtholgdogohmdbaaWdJ
set_option linter.unusedSectionVars false
set_option linter.unusedSimpArgs false
set_option linter.unusedVariables false
set_option maxHeartbeats 1000000
set_option maxRecDepth 10000
namespace Go.Vm.YtholgdogohmdbaaW
open Go.Proofs
variable {σ : Store} {g : Nat}
attribute [-go_sem] callr53 callr36 call53 call36 call45 callr45
def InsQ (σ : Store) (g : Nat) (d : Nd) (lv : V) (m : WM) (q : V × Store) : Prop :=
  ∃ (d' : Nd) (bc' lv' : V), NodeW q.2 g d' bc' lv' ∧ FitT d' ∧ RelW d d' ∧ ∀ j, j / 1048576 ≠ 52 + 1 → j ≠ 4608 → j ∉ idsOf lv → q.2 j = σ j
theorem install_r {d : Nd} {bc lv : V} (hN : NodeW σ g d bc lv) (hF : FitT d) (hl : d.l.length ≤ 900000) (m : WM) (hm : FitG m) (hx : d.commit < m.ix) : ∃ v σ', Hf fns 52 [.ptr 4608 g 0, .agg m.m.v] σ = some (v, σ') ∧ InsQ σ g d lv m (v, σ') := by
  have hes := elen m.es
  have hmi := hm.ix
  have hbi := hF.bi
  have hcm := hF.cm
  have e := hN.at_
  simp -implicitDefEqProofs (disch := omega) only [go_sem, seval, nw] at e
  have hN1 := NodeW.scr (k := 55574784) hN (by simp [LOGS, BCS]) ⟨(σ 55574784).gen + 1, .rw, false, m.m.v⟩
  have hv : m.m.v = [.int .i64 m.k, .int .i64 m.f, .int .i64 m.t, .int .i64 m.term, .int .i64 m.ix, .int .i64 m.lt, .int .i64 m.cm, .bool m.y, .sl m.ek m.es.length (rows Ent.v m.es), .int .i64 m.off, .str m.pc, .bool m.d, .sl m.mk' m.mem.length (m.mem.map iV)] := rfl
  rw [hv] at hN1
  have fin : ∀ (v : V) (σ' : Store) (l1 : List Ent) (bc1 lv1 : V), σ' 4608 = ⟨g, .rw, false, nw { d with bi := m.ix, bt := m.lt, base := d.hs, l := l1, commit := m.ix, hi := 0, ht := 0, hs := [] } bc1 lv1⟩ → BcAt σ' bc1 → LogAt σ' lv1 l1 → (∀ i ∈ idsOf bc1, i ∉ idsOf lv1) → (∀ e ∈ l1, e.ok) → l1.length ≤ d.l.length →
      (∀ j, j / 1048576 ≠ 52 + 1 → j ≠ 4608 → j ∉ idsOf lv → σ' j = σ j) → InsQ σ g d lv m (v, σ') := by
    intro v σ' l1 bc1 lv1 h1 h2 h3 h4 h5 h6 h7
    obtain ⟨a, b, c, t, f, k, o⟩ := hF
    exact ⟨_, bc1, lv1, ⟨h1, h2, h3, h4⟩, ⟨⟨by simp only; omega, by simp only; omega⟩, ⟨by simp only; omega, by simp only; omega⟩, h5, t, f, k, o⟩, ⟨by simp only; omega, by simp only; omega, fun i h8 h9 => by simp only at h8; omega, by simp only; omega, Int.le_refl _, Int.le_refl _⟩, h7⟩
  refine Hf_start (f := 52) rfl rfl ?_
  simp -implicitDefEqProofs (disch := omega) only [go_sem, seval, WM.m, Msg.v]
  refine contC_of (term_call hN1 hbi (by omega) m.ix ⟨hmi.1, by omega⟩ _) ?_
  by_cases c1 : (termW d m.ix).2 = true ∧ (termW d m.ix).1 = m.lt
  · obtain ⟨c2, c3⟩ := c1
    simp -implicitDefEqProofs (disch := omega) only [go_sem, seval, e, c2, c3]
    refine wp_draw_E ?_
    rcases hN.logp with ⟨kl, hkl, rfl, hl0⟩ | ⟨q, gq, hq, rfl, eq⟩
    · exfalso
      unfold termW lastW at c2
      rw [hl0] at c2
      simp only [List.length_nil] at c2
      split at c2
      · omega
      · split at c2
        · simp at c2
        · omega
    · have n3 := nlog hq (k := 55574784) (by simp [LOGS])
      have n0 := nlog hq (k := 4608) (by simp [LOGS])
      have n58 := nlog hq (k := 55578304) (by simp [LOGS])
      have n58' : (55578304 == q) = false := by rw [Bool.beq_comm]; exact n58
      have n3' : (55574784 == q) = false := by rw [Bool.beq_comm]; exact n3
      have n0' : (4608 == q) = false := by rw [Bool.beq_comm]; exact n0
      have hle : m.ix ≤ d.bi + d.l.length := by
        unfold termW lastW at c2
        split at c2
        · omega
        · split at c2
          · simp at c2
          · omega
      obtain ⟨K, hK⟩ : ∃ K : Nat, m.ix - d.bi = K := ⟨(m.ix - d.bi).toNat, by omega⟩
      have hKl : K ≤ d.l.length := by omega
      have hdl : (List.drop K d.l).length = d.l.length - K := List.length_drop
      have hdr := rows_drop d.l K hKl
      have htk : List.take ((d.l.length - K) * 4) (rows Ent.v (d.l.drop K)) = rows Ent.v (d.l.drop K) := List.take_of_length_le (by rw [elen, hdl]; exact Nat.le_refl _)
      have hce := CloneEs_ok .ro (d.l.drop K) (fun x hx => hF.ok x (List.mem_of_mem_drop hx)) (by omega)
      rw [hdl] at hce
      have hel := elen d.l
      by_cases hd0 : d.l.drop K = []
      · unfold ownE at hce
        rw [if_pos hd0] at hce
        simp -implicitDefEqProofs (disch := omega) only [go_sem, seval, e, n3, n0, eq, hK, hKl, hdr, htk, hce]
        refine wp_draw_E ?_
        rcases hm.ml with ⟨h1, h2⟩ | h1
        · have hcl := CloneI_ok m.mk' m.mem (.inl h1) (fun _ => h2) hm.mb
          rw [h1, h2] at hcl ⊢
          simp -implicitDefEqProofs (disch := omega) only [go_sem, seval, intsC, List.length_nil, List.map_nil] at hcl
          simp -implicitDefEqProofs (disch := omega) only [go_sem, seval, e, hcl, List.length_nil, List.map_nil]
          refine fin _ _ [] (.sl .nil 0 []) (.sl .nil 0 []) ?_ (.inl ⟨_, .inl rfl, rfl⟩) (.inl ⟨_, .inl rfl, rfl, rfl⟩) (by simp [idsOf]) (by simp) (by simp) ?_
          · simp -implicitDefEqProofs (disch := omega) only [go_sem, seval, go_sem]
            rfl
          · intro j h1 h2 h3
            simp -implicitDefEqProofs (disch := omega) only [go_sem, seval, go_sem]
        · have hcl := CloneI_ok m.mk' m.mem (.inr h1) (fun h => by rw [h1] at h; simp at h) hm.mb
          rw [h1] at hcl ⊢
          have e3 : ¬ SK.ro = SK.nil := by simp
          simp -implicitDefEqProofs (disch := omega) only [go_sem, seval, intsC, e3] at hcl
          have r7 := iV_ro 6 m.mem
          simp -implicitDefEqProofs (disch := omega) only [go_sem, seval, e, hcl, r7]
          refine fin _ _ [] (.sli 55578304 ((σ 55578304).gen + 1) 0 m.mem.length 1) (.sl .nil 0 []) ?_ (.inr ⟨_, _, m.mem, ?_, rfl, ?_, hm.mb⟩) (.inl ⟨_, .inl rfl, rfl, rfl⟩) (by simp [idsOf]) (by simp) (by simp) ?_
          · simp -implicitDefEqProofs (disch := omega) only [go_sem, seval, go_sem]
            rfl
          · simp [BCS]
          · simp -implicitDefEqProofs (disch := omega) only [go_sem, seval, go_sem]
          · intro j h1 h2 h3
            simp -implicitDefEqProofs (disch := omega) only [go_sem, seval, go_sem]
      · obtain ⟨b, hb⟩ : ∃ b, (rows Ent.v (d.l.drop K)).any (hasRo 7) = b := ⟨_, rfl⟩
        unfold ownE at hce
        rw [if_neg hd0, hdl] at hce
        cases b
        · simp -implicitDefEqProofs (disch := omega) only [go_sem, seval, e, n3, n0, n3', n0', eq, hK, hKl, hdr, htk, hce, hb]
          refine wp_draw_E ?_
          rcases hm.ml with ⟨h1, h2⟩ | h1
          · have hcl := CloneI_ok m.mk' m.mem (.inl h1) (fun _ => h2) hm.mb
            rw [h1, h2] at hcl ⊢
            simp -implicitDefEqProofs (disch := omega) only [go_sem, seval, intsC, List.length_nil, List.map_nil] at hcl
            simp -implicitDefEqProofs (disch := omega) only [go_sem, seval, e, hcl, n3, n0, n3', n0', List.length_nil, List.map_nil]
            refine fin _ _ (d.l.drop K) (.sl .nil 0 []) (.sli 55576832 ((σ 55576832).gen + 1) 0 (d.l.length - K) 4) ?_ (.inl ⟨_, .inl rfl, rfl⟩) (.inr ⟨55576832, _, by simp [LOGS], by rw [hdl], by simp -implicitDefEqProofs (disch := omega) only [go_sem, seval, go_sem]⟩) (by simp [idsOf]) (fun x hx => hF.ok x (List.mem_of_mem_drop hx)) (by rw [hdl]; omega) ?_
            · simp -implicitDefEqProofs (disch := omega) only [go_sem, seval, go_sem]
              rfl
            · intro j h1 h2 h3
              have hjq : (j == q) = false := beq_no fun h => h3 (by simp [idsOf, h])
              simp -implicitDefEqProofs (disch := omega) only [go_sem, seval, hjq]
          · have hcl := CloneI_ok m.mk' m.mem (.inr h1) (fun h => by rw [h1] at h; simp at h) hm.mb
            rw [h1] at hcl ⊢
            have e3 : ¬ SK.ro = SK.nil := by simp
            simp -implicitDefEqProofs (disch := omega) only [go_sem, seval, intsC, e3] at hcl
            have r7 := iV_ro 6 m.mem
            simp -implicitDefEqProofs (disch := omega) only [go_sem, seval, e, hcl, r7, n3, n0, n3', n0', n58, n58']
            refine fin _ _ (d.l.drop K) (.sli 55578304 ((σ 55578304).gen + 1) 0 m.mem.length 1) (.sli 55576832 ((σ 55576832).gen + 1) 0 (d.l.length - K) 4) ?_ (.inr ⟨_, _, m.mem, ?_, rfl, ?_, hm.mb⟩) (.inr ⟨55576832, _, by simp [LOGS], by rw [hdl], by simp -implicitDefEqProofs (disch := omega) only [go_sem, seval, go_sem]⟩) (by simp [idsOf]) (fun x hx => hF.ok x (List.mem_of_mem_drop hx)) (by rw [hdl]; omega) ?_
            · simp -implicitDefEqProofs (disch := omega) only [go_sem, seval, go_sem]
              rfl
            · simp [BCS]
            · simp -implicitDefEqProofs (disch := omega) only [go_sem, seval, go_sem]
            · intro j h1 h2 h3
              have hjq : (j == q) = false := beq_no fun h => h3 (by simp [idsOf, h])
              simp -implicitDefEqProofs (disch := omega) only [go_sem, seval, hjq]
        · simp -implicitDefEqProofs (disch := omega) only [go_sem, seval, e, n3, n0, n3', n0', eq, hK, hKl, hdr, htk, hce, hb]
          refine wp_draw_E ?_
          rcases hm.ml with ⟨h1, h2⟩ | h1
          · have hcl := CloneI_ok m.mk' m.mem (.inl h1) (fun _ => h2) hm.mb
            rw [h1, h2] at hcl ⊢
            simp -implicitDefEqProofs (disch := omega) only [go_sem, seval, intsC, List.length_nil, List.map_nil] at hcl
            simp -implicitDefEqProofs (disch := omega) only [go_sem, seval, e, hcl, n3, n0, n3', n0', List.length_nil, List.map_nil]
            refine fin _ _ (d.l.drop K) (.sl .nil 0 []) (.sli 55576832 ((σ 55576832).gen + 1) 0 (d.l.length - K) 4) ?_ (.inl ⟨_, .inl rfl, rfl⟩) (.inr ⟨55576832, _, by simp [LOGS], by rw [hdl], by simp -implicitDefEqProofs (disch := omega) only [go_sem, seval, go_sem]⟩) (by simp [idsOf]) (fun x hx => hF.ok x (List.mem_of_mem_drop hx)) (by rw [hdl]; omega) ?_
            · simp -implicitDefEqProofs (disch := omega) only [go_sem, seval, go_sem]
              rfl
            · intro j h1 h2 h3
              have hjq : (j == q) = false := beq_no fun h => h3 (by simp [idsOf, h])
              simp -implicitDefEqProofs (disch := omega) only [go_sem, seval, hjq]
          · have hcl := CloneI_ok m.mk' m.mem (.inr h1) (fun h => by rw [h1] at h; simp at h) hm.mb
            rw [h1] at hcl ⊢
            have e3 : ¬ SK.ro = SK.nil := by simp
            simp -implicitDefEqProofs (disch := omega) only [go_sem, seval, intsC, e3] at hcl
            have r7 := iV_ro 6 m.mem
            simp -implicitDefEqProofs (disch := omega) only [go_sem, seval, e, hcl, r7, n3, n0, n3', n0', n58, n58']
            refine fin _ _ (d.l.drop K) (.sli 55578304 ((σ 55578304).gen + 1) 0 m.mem.length 1) (.sli 55576832 ((σ 55576832).gen + 1) 0 (d.l.length - K) 4) ?_ (.inr ⟨_, _, m.mem, ?_, rfl, ?_, hm.mb⟩) (.inr ⟨55576832, _, by simp [LOGS], by rw [hdl], by simp -implicitDefEqProofs (disch := omega) only [go_sem, seval, go_sem]⟩) (by simp [idsOf]) (fun x hx => hF.ok x (List.mem_of_mem_drop hx)) (by rw [hdl]; omega) ?_
            · simp -implicitDefEqProofs (disch := omega) only [go_sem, seval, go_sem]
              rfl
            · simp [BCS]
            · simp -implicitDefEqProofs (disch := omega) only [go_sem, seval, go_sem]
            · intro j h1 h2 h3
              have hjq : (j == q) = false := beq_no fun h => h3 (by simp [idsOf, h])
              simp -implicitDefEqProofs (disch := omega) only [go_sem, seval, hjq]
  · have c2 : ((termW d m.ix).2 && decide ((termW d m.ix).1 = m.lt)) = false := by
      rw [Bool.and_eq_false_iff]
      by_cases h : (termW d m.ix).2 = true
      · right; simp; exact fun h2 => c1 ⟨h, h2⟩
      · left; simpa using h
    cases c3 : (termW d m.ix).2
    · simp -implicitDefEqProofs (disch := omega) only [go_sem, seval, e, c3]
      refine wp_draw_E ?_
      rcases hm.ml with ⟨h1, h2⟩ | h1
      · have hcl := CloneI_ok m.mk' m.mem (.inl h1) (fun _ => h2) hm.mb
        rw [h1, h2] at hcl ⊢
        simp -implicitDefEqProofs (disch := omega) only [go_sem, seval, intsC, List.length_nil, List.map_nil] at hcl
        simp -implicitDefEqProofs (disch := omega) only [go_sem, seval, e, hcl, List.length_nil, List.map_nil]
        refine fin _ _ [] (.sl .nil 0 []) (.sl .nil 0 []) ?_ (.inl ⟨_, .inl rfl, rfl⟩) (.inl ⟨_, .inl rfl, rfl, rfl⟩) (by simp [idsOf]) (by simp) (by simp) ?_
        · simp -implicitDefEqProofs (disch := omega) only [go_sem, seval, go_sem]
          rfl
        · intro j h1 h2 h3
          simp -implicitDefEqProofs (disch := omega) only [go_sem, seval, go_sem]
      · have hcl := CloneI_ok m.mk' m.mem (.inr h1) (fun h => by rw [h1] at h; simp at h) hm.mb
        rw [h1] at hcl ⊢
        have e3 : ¬ SK.ro = SK.nil := by simp
        simp -implicitDefEqProofs (disch := omega) only [go_sem, seval, intsC, e3] at hcl
        have r7 := iV_ro 6 m.mem
        simp -implicitDefEqProofs (disch := omega) only [go_sem, seval, e, hcl, r7]
        refine fin _ _ [] (.sli 55578304 ((σ 55578304).gen + 1) 0 m.mem.length 1) (.sl .nil 0 []) ?_ (.inr ⟨_, _, m.mem, ?_, rfl, ?_, hm.mb⟩) (.inl ⟨_, .inl rfl, rfl, rfl⟩) (by simp [idsOf]) (by simp) (by simp) ?_
        · simp -implicitDefEqProofs (disch := omega) only [go_sem, seval, go_sem]
          rfl
        · simp [BCS]
        · simp -implicitDefEqProofs (disch := omega) only [go_sem, seval, go_sem]
        · intro j h1 h2 h3
          simp -implicitDefEqProofs (disch := omega) only [go_sem, seval, go_sem]
    · have c4 : ¬ (termW d m.ix).1 = m.lt := fun h => c1 ⟨c3, h⟩
      simp -implicitDefEqProofs (disch := omega) only [go_sem, seval, e, c3, c4]
      refine wp_draw_E ?_
      rcases hm.ml with ⟨h1, h2⟩ | h1
      · have hcl := CloneI_ok m.mk' m.mem (.inl h1) (fun _ => h2) hm.mb
        rw [h1, h2] at hcl ⊢
        simp -implicitDefEqProofs (disch := omega) only [go_sem, seval, intsC, List.length_nil, List.map_nil] at hcl
        simp -implicitDefEqProofs (disch := omega) only [go_sem, seval, e, hcl, List.length_nil, List.map_nil]
        refine fin _ _ [] (.sl .nil 0 []) (.sl .nil 0 []) ?_ (.inl ⟨_, .inl rfl, rfl⟩) (.inl ⟨_, .inl rfl, rfl, rfl⟩) (by simp [idsOf]) (by simp) (by simp) ?_
        · simp -implicitDefEqProofs (disch := omega) only [go_sem, seval, go_sem]
          rfl
        · intro j h1 h2 h3
          simp -implicitDefEqProofs (disch := omega) only [go_sem, seval, go_sem]
      · have hcl := CloneI_ok m.mk' m.mem (.inr h1) (fun h => by rw [h1] at h; simp at h) hm.mb
        rw [h1] at hcl ⊢
        have e3 : ¬ SK.ro = SK.nil := by simp
        simp -implicitDefEqProofs (disch := omega) only [go_sem, seval, intsC, e3] at hcl
        have r7 := iV_ro 6 m.mem
        simp -implicitDefEqProofs (disch := omega) only [go_sem, seval, e, hcl, r7]
        refine fin _ _ [] (.sli 55578304 ((σ 55578304).gen + 1) 0 m.mem.length 1) (.sl .nil 0 []) ?_ (.inr ⟨_, _, m.mem, ?_, rfl, ?_, hm.mb⟩) (.inl ⟨_, .inl rfl, rfl, rfl⟩) (by simp [idsOf]) (by simp) (by simp) ?_
        · simp -implicitDefEqProofs (disch := omega) only [go_sem, seval, go_sem]
          rfl
        · simp [BCS]
        · simp -implicitDefEqProofs (disch := omega) only [go_sem, seval, go_sem]
        · intro j h1 h2 h3
          simp -implicitDefEqProofs (disch := omega) only [go_sem, seval, go_sem]
end Go.Vm.YtholgdogohmdbaaW
