/- (seval) Raft: a replica that gets whatever messages: a message comes. -/
import Derived.Test.YtholgdogohmdbaaWdL
set_option linter.unusedSectionVars false
set_option linter.unusedSimpArgs false
set_option linter.unusedVariables false
set_option maxHeartbeats 4000000
set_option maxRecDepth 10000
namespace Go.Vm.YtholgdogohmdbaaW
open Go.Proofs
variable {σ : Store} {g : Nat}
/-- What each message is, whatever it says. -/
structure FitI (m : WM) : Prop where
  ok : ∀ e ∈ m.es, e.ok
  ml : (m.mk' = .nil ∧ m.mem = []) ∨ m.mk' = .ro
  mb : m.mem.length ≤ 17592186044416
theorem FitI.toG {m : WM} (h : FitI m) (hm : mayM m.m = true) : FitG m := by
  unfold mayM WM.m at hm
  simp only [Bool.and_eq_true, decide_eq_true_eq, Bool.not_eq_true', decide_eq_false_iff_not] at hm
  obtain ⟨h1, h2, h3, h4, h5, h6, h7, h8, h9, h10, h11, h12, h13, h14, h15, h16, h17, h18, h19, h20⟩ := hm
  exact ⟨⟨⟨h10, h11⟩, h19, h.ok⟩, ⟨h8, h9⟩, ⟨h3, h4⟩, ⟨h14, h15⟩, ⟨h16, h17⟩, h20, h.ml, h.mb⟩
theorem step_of {σ1 : Store} {d d1 : Nd} {lv : V} {q : V × Store} (hR : RelW d d1) (hl : d1.l = d.l) (h : StepQ σ1 g d1 lv q) (hf : ∀ j, j < 1048576 → j ≠ 4608 → σ1 j = σ j) : StepQ σ g d lv q := by
  obtain ⟨d', bc', lv', h1, h2, h3, h4⟩ := h
  exact ⟨d', bc', lv', h1, h2, hR.trans h3 (.inl (by rw [hl]; exact Nat.le_refl _)), fun j a b c => (h4 j a b c).trans (hf j a b)⟩
theorem Step_r {d : Nd} {bc lv : V} (hN : NodeW σ g d bc lv) (hF : FitT d) (hl : d.l.length ≤ 900000) (m : WM) (hm : FitI m) : ∃ v σ', Hf fns 11 [.ptr 4608 g 0, .agg m.m.v] σ = some (v, σ') ∧ StepQ σ g d lv (v, σ') := by
  have hes := elen m.es
  have e := hN.at_
  simp -implicitDefEqProofs (disch := omega) only [go_sem, seval, nw] at e
  have hck := Check_ok m.m
  have hv : m.m.v = [.int .i64 m.k, .int .i64 m.f, .int .i64 m.t, .int .i64 m.term, .int .i64 m.ix, .int .i64 m.lt, .int .i64 m.cm, .bool m.y, .sl m.ek m.es.length (rows Ent.v m.es), .int .i64 m.off, .str m.pc, .bool m.d, .sl m.mk' m.mem.length (m.mem.map iV)] := rfl
  rw [hv] at hck
  have same : ∀ (v : V) (σ' : Store), (∀ j, j / 1048576 ≠ 11 + 1 → σ' j = σ j) → StepQ σ g d lv (v, σ') := by
    intro v σ' h
    refine ⟨d, bc, lv, hN.frame ?_, hF, RelW.rfl, fun j a b c => h j (by omega)⟩
    intro j hj
    simp only [LOGS, BCS, List.cons_append, List.nil_append, List.mem_cons, List.not_mem_nil, or_false] at hj
    rcases hj with rfl | rfl | rfl | rfl | rfl | rfl | rfl <;> exact h _ (by simp)
  refine Hf_start (f := 11) rfl rfl ?_
  simp -implicitDefEqProofs (disch := omega) only [go_sem, seval, WM.m, Msg.v]
  refine wp_draw_E ?_
  by_cases c0 : mayM m.m = true
  rotate_left
  · have c0' : mayM m.m = false := by simpa using c0
    rw [c0'] at hck
    simp -implicitDefEqProofs (disch := omega) only [go_sem, seval, e, hck]
    exact same _ _ (by intro j h1; simp -implicitDefEqProofs (disch := omega) only [go_sem, seval, go_sem])
  rw [c0] at hck
  have hG := hm.toG c0
  have hmt := hG.tm
  have hk : 1 ≤ m.k ∧ m.k ≤ 6 := by
    unfold mayM WM.m at c0
    simp only [Bool.and_eq_true, decide_eq_true_eq, Bool.not_eq_true', decide_eq_false_iff_not] at c0
    exact ⟨c0.1, c0.2.1⟩
  by_cases c1 : m.t = 1
  rotate_left
  · simp -implicitDefEqProofs (disch := omega) only [go_sem, seval, e, hck, c1]
    exact same _ _ (by intro j h1; simp -implicitDefEqProofs (disch := omega) only [go_sem, seval, go_sem])
  rw [c1] at hck hv
  simp -implicitDefEqProofs (disch := omega) only [go_sem, seval, e, hck, c1]
  by_cases k1 : m.k = 1
  · by_cases q1 : d.leader = -1
    · simp -implicitDefEqProofs (disch := omega) only [go_sem, seval, k1, q1, e]
      refine wp_draw_E ?_
      by_cases c2 : d.term < m.term
      · simp -implicitDefEqProofs (disch := omega) only [go_sem, seval, k1, q1, e, c2]
        have hF1 := folW_fit hF m.term (-1) hmt
        have hR1 := folW_rel hF m.term (-1)
        have hl1 := folW_l d m.term (-1)
        refine contC_of (follow_r d bc lv hF.tm m.term (-1) hmt ?_) ?_
        · simp -implicitDefEqProofs (disch := omega) only [go_sem, seval, e, nw]
        · have key := fun σ1 hN1 => vote_r (σ := σ1) (g := g) (d := folW d m.term (-1)) (bc := bc) (lv := lv) hN1 hF1 (by rw [hl1]; exact hl) m hG
          rw [hv, k1] at key
          try simp -implicitDefEqProofs (disch := omega) only [go_sem, seval, k1, q1, k1]
          refine contC_exv (key _ ?_) ?_
          · exact NodeW.put (d := d) (NodeW.scr hN (by simp [LOGS, BCS]) _) hl1
          intro v σ2 h
          simp -implicitDefEqProofs (disch := omega) only [go_sem, seval, go_sem]
          exact step_of hR1 hl1 h (by intro j h1 h2; simp -implicitDefEqProofs (disch := omega) only [go_sem, seval, go_sem])
      · have hF1 := hF
        have hR1 : RelW d d := RelW.rfl
        have hl1 : d.l = d.l := rfl
        simp -implicitDefEqProofs (disch := omega) only [go_sem, seval, k1, q1, e, c2]
        · have key := fun σ1 hN1 => vote_r (σ := σ1) (g := g) (d := d) (bc := bc) (lv := lv) hN1 hF1 (by rw [hl1]; exact hl) m hG
          rw [hv, k1] at key
          try simp -implicitDefEqProofs (disch := omega) only [go_sem, seval, k1, q1, k1]
          refine contC_exv (key _ ?_) ?_
          · exact NodeW.scr hN (by simp [LOGS, BCS]) _
          intro v σ2 h
          simp -implicitDefEqProofs (disch := omega) only [go_sem, seval, go_sem]
          exact step_of hR1 hl1 h (by intro j h1 h2; simp -implicitDefEqProofs (disch := omega) only [go_sem, seval, go_sem])
    · by_cases q2 : d.heard < 10
      · simp -implicitDefEqProofs (disch := omega) only [go_sem, seval, k1, q1, q2, e]
        exact same _ _ (by intro j h1; simp -implicitDefEqProofs (disch := omega) only [go_sem, seval, go_sem])
      · simp -implicitDefEqProofs (disch := omega) only [go_sem, seval, k1, q1, q2, e]
        refine wp_draw_E ?_
        by_cases c2 : d.term < m.term
        · simp -implicitDefEqProofs (disch := omega) only [go_sem, seval, k1, q1, q2, e, c2]
          have hF1 := folW_fit hF m.term (-1) hmt
          have hR1 := folW_rel hF m.term (-1)
          have hl1 := folW_l d m.term (-1)
          refine contC_of (follow_r d bc lv hF.tm m.term (-1) hmt ?_) ?_
          · simp -implicitDefEqProofs (disch := omega) only [go_sem, seval, e, nw]
          · have key := fun σ1 hN1 => vote_r (σ := σ1) (g := g) (d := folW d m.term (-1)) (bc := bc) (lv := lv) hN1 hF1 (by rw [hl1]; exact hl) m hG
            rw [hv, k1] at key
            try simp -implicitDefEqProofs (disch := omega) only [go_sem, seval, k1, q1, q2, k1]
            refine contC_exv (key _ ?_) ?_
            · exact NodeW.put (d := d) (NodeW.scr hN (by simp [LOGS, BCS]) _) hl1
            intro v σ2 h
            simp -implicitDefEqProofs (disch := omega) only [go_sem, seval, go_sem]
            exact step_of hR1 hl1 h (by intro j h1 h2; simp -implicitDefEqProofs (disch := omega) only [go_sem, seval, go_sem])
        · have hF1 := hF
          have hR1 : RelW d d := RelW.rfl
          have hl1 : d.l = d.l := rfl
          simp -implicitDefEqProofs (disch := omega) only [go_sem, seval, k1, q1, q2, e, c2]
          · have key := fun σ1 hN1 => vote_r (σ := σ1) (g := g) (d := d) (bc := bc) (lv := lv) hN1 hF1 (by rw [hl1]; exact hl) m hG
            rw [hv, k1] at key
            try simp -implicitDefEqProofs (disch := omega) only [go_sem, seval, k1, q1, q2, k1]
            refine contC_exv (key _ ?_) ?_
            · exact NodeW.scr hN (by simp [LOGS, BCS]) _
            intro v σ2 h
            simp -implicitDefEqProofs (disch := omega) only [go_sem, seval, go_sem]
            exact step_of hR1 hl1 h (by intro j h1 h2; simp -implicitDefEqProofs (disch := omega) only [go_sem, seval, go_sem])
  · simp -implicitDefEqProofs (disch := omega) only [go_sem, seval, k1, e]
    refine wp_draw_E ?_
    by_cases c2 : d.term < m.term
    · simp -implicitDefEqProofs (disch := omega) only [go_sem, seval, k1, e, c2]
      have hF1 := folW_fit hF m.term (-1) hmt
      have hR1 := folW_rel hF m.term (-1)
      have hl1 := folW_l d m.term (-1)
      refine contC_of (follow_r d bc lv hF.tm m.term (-1) hmt ?_) ?_
      · simp -implicitDefEqProofs (disch := omega) only [go_sem, seval, e, nw]
      by_cases k2 : m.k = 2
      · have key := fun σ1 hN1 => voted_r (σ := σ1) (g := g) (d := folW d m.term (-1)) (bc := bc) (lv := lv) hN1 hF1 m
        rw [hv, k2] at key
        try simp -implicitDefEqProofs (disch := omega) only [go_sem, seval, k1, k2]
        refine contC_exv (key _ ?_) ?_
        · exact NodeW.put (d := d) (NodeW.scr hN (by simp [LOGS, BCS]) _) hl1
        intro v σ2 h
        simp -implicitDefEqProofs (disch := omega) only [go_sem, seval, go_sem]
        exact step_of hR1 hl1 h (by intro j h1 h2; simp -implicitDefEqProofs (disch := omega) only [go_sem, seval, go_sem])
      by_cases k3 : m.k = 3
      · have key := fun σ1 hN1 => hear_r (σ := σ1) (g := g) (d := folW d m.term (-1)) (bc := bc) (lv := lv) hN1 hF1 (by rw [hl1]; exact hl) m hG
        rw [hv, k3] at key
        try simp -implicitDefEqProofs (disch := omega) only [go_sem, seval, k1, k2, k3]
        refine contC_exv (key _ ?_) ?_
        · exact NodeW.put (d := d) (NodeW.scr hN (by simp [LOGS, BCS]) _) hl1
        intro v σ2 h
        simp -implicitDefEqProofs (disch := omega) only [go_sem, seval, go_sem]
        exact step_of hR1 hl1 h (by intro j h1 h2; simp -implicitDefEqProofs (disch := omega) only [go_sem, seval, go_sem])
      by_cases k4 : m.k = 4
      · have key := fun σ1 hN1 => appended_r (σ := σ1) (g := g) (d := folW d m.term (-1)) (bc := bc) (lv := lv) hN1 hF1 m
        rw [hv, k4] at key
        try simp -implicitDefEqProofs (disch := omega) only [go_sem, seval, k1, k2, k3, k4]
        refine contC_exv (key _ ?_) ?_
        · exact NodeW.put (d := d) (NodeW.scr hN (by simp [LOGS, BCS]) _) hl1
        intro v σ2 h
        simp -implicitDefEqProofs (disch := omega) only [go_sem, seval, go_sem]
        exact step_of hR1 hl1 h (by intro j h1 h2; simp -implicitDefEqProofs (disch := omega) only [go_sem, seval, go_sem])
      by_cases k5 : m.k = 5
      · have key := fun σ1 hN1 => snap_r (σ := σ1) (g := g) (d := folW d m.term (-1)) (bc := bc) (lv := lv) hN1 hF1 (by rw [hl1]; exact hl) m hG
        rw [hv, k5] at key
        try simp -implicitDefEqProofs (disch := omega) only [go_sem, seval, k1, k2, k3, k4, k5]
        refine contC_exv (key _ ?_) ?_
        · exact NodeW.put (d := d) (NodeW.scr hN (by simp [LOGS, BCS]) _) hl1
        intro v σ2 h
        simp -implicitDefEqProofs (disch := omega) only [go_sem, seval, go_sem]
        exact step_of hR1 hl1 h (by intro j h1 h2; simp -implicitDefEqProofs (disch := omega) only [go_sem, seval, go_sem])
      by_cases k6 : m.k = 6
      · have key := fun σ1 hN1 => snapped_r (σ := σ1) (g := g) (d := folW d m.term (-1)) (bc := bc) (lv := lv) hN1 hF1 m
        rw [hv, k6] at key
        try simp -implicitDefEqProofs (disch := omega) only [go_sem, seval, k1, k2, k3, k4, k5, k6]
        refine contC_exv (key _ ?_) ?_
        · exact NodeW.put (d := d) (NodeW.scr hN (by simp [LOGS, BCS]) _) hl1
        intro v σ2 h
        simp -implicitDefEqProofs (disch := omega) only [go_sem, seval, go_sem]
        exact step_of hR1 hl1 h (by intro j h1 h2; simp -implicitDefEqProofs (disch := omega) only [go_sem, seval, go_sem])
      exfalso; omega
    · have hF1 := hF
      have hR1 : RelW d d := RelW.rfl
      have hl1 : d.l = d.l := rfl
      simp -implicitDefEqProofs (disch := omega) only [go_sem, seval, k1, e, c2]
      by_cases k2 : m.k = 2
      · have key := fun σ1 hN1 => voted_r (σ := σ1) (g := g) (d := d) (bc := bc) (lv := lv) hN1 hF1 m
        rw [hv, k2] at key
        try simp -implicitDefEqProofs (disch := omega) only [go_sem, seval, k1, k2]
        refine contC_exv (key _ ?_) ?_
        · exact NodeW.scr hN (by simp [LOGS, BCS]) _
        intro v σ2 h
        simp -implicitDefEqProofs (disch := omega) only [go_sem, seval, go_sem]
        exact step_of hR1 hl1 h (by intro j h1 h2; simp -implicitDefEqProofs (disch := omega) only [go_sem, seval, go_sem])
      by_cases k3 : m.k = 3
      · have key := fun σ1 hN1 => hear_r (σ := σ1) (g := g) (d := d) (bc := bc) (lv := lv) hN1 hF1 (by rw [hl1]; exact hl) m hG
        rw [hv, k3] at key
        try simp -implicitDefEqProofs (disch := omega) only [go_sem, seval, k1, k2, k3]
        refine contC_exv (key _ ?_) ?_
        · exact NodeW.scr hN (by simp [LOGS, BCS]) _
        intro v σ2 h
        simp -implicitDefEqProofs (disch := omega) only [go_sem, seval, go_sem]
        exact step_of hR1 hl1 h (by intro j h1 h2; simp -implicitDefEqProofs (disch := omega) only [go_sem, seval, go_sem])
      by_cases k4 : m.k = 4
      · have key := fun σ1 hN1 => appended_r (σ := σ1) (g := g) (d := d) (bc := bc) (lv := lv) hN1 hF1 m
        rw [hv, k4] at key
        try simp -implicitDefEqProofs (disch := omega) only [go_sem, seval, k1, k2, k3, k4]
        refine contC_exv (key _ ?_) ?_
        · exact NodeW.scr hN (by simp [LOGS, BCS]) _
        intro v σ2 h
        simp -implicitDefEqProofs (disch := omega) only [go_sem, seval, go_sem]
        exact step_of hR1 hl1 h (by intro j h1 h2; simp -implicitDefEqProofs (disch := omega) only [go_sem, seval, go_sem])
      by_cases k5 : m.k = 5
      · have key := fun σ1 hN1 => snap_r (σ := σ1) (g := g) (d := d) (bc := bc) (lv := lv) hN1 hF1 (by rw [hl1]; exact hl) m hG
        rw [hv, k5] at key
        try simp -implicitDefEqProofs (disch := omega) only [go_sem, seval, k1, k2, k3, k4, k5]
        refine contC_exv (key _ ?_) ?_
        · exact NodeW.scr hN (by simp [LOGS, BCS]) _
        intro v σ2 h
        simp -implicitDefEqProofs (disch := omega) only [go_sem, seval, go_sem]
        exact step_of hR1 hl1 h (by intro j h1 h2; simp -implicitDefEqProofs (disch := omega) only [go_sem, seval, go_sem])
      by_cases k6 : m.k = 6
      · have key := fun σ1 hN1 => snapped_r (σ := σ1) (g := g) (d := d) (bc := bc) (lv := lv) hN1 hF1 m
        rw [hv, k6] at key
        try simp -implicitDefEqProofs (disch := omega) only [go_sem, seval, k1, k2, k3, k4, k5, k6]
        refine contC_exv (key _ ?_) ?_
        · exact NodeW.scr hN (by simp [LOGS, BCS]) _
        intro v σ2 h
        simp -implicitDefEqProofs (disch := omega) only [go_sem, seval, go_sem]
        exact step_of hR1 hl1 h (by intro j h1 h2; simp -implicitDefEqProofs (disch := omega) only [go_sem, seval, go_sem])
      exfalso; omega
end Go.Vm.YtholgdogohmdbaaW
/- (seval) Raft: a replica that gets whatever messages: time goes on; what it tells of itself. -/
namespace Go.Vm.YtholgdogohmdbaaW
open Go.Proofs
variable {σ : Store} {g : Nat}
theorem Tick_r {d : Nd} {bc lv : V} (hN : NodeW σ g d bc lv) (hF : FitT d) (hs : d.since ≤ 8) (hh : d.heard ≤ 1000) : Hf fns 13 [.ptr 4608 g 0] σ = some (.sl .nil 0 [], upd σ 4608 ⟨g, .rw, false, nw { d with since := d.since + 1, heard := d.heard + 1 } bc lv⟩) := by
  have e := hN.at_
  have h1 := hF.sc
  have h2 := hF.hd
  have h3 := hF.to
  simp -implicitDefEqProofs (disch := omega) only [go_sem, seval, nw] at e
  refine Hf_is (f := 13) rfl rfl ?_
  simp -implicitDefEqProofs (disch := omega) only [go_sem, seval, e]
  refine wp_draw_E ?_
  have c : ¬ d.tmo ≤ d.since + 1 := by omega
  simp -implicitDefEqProofs (disch := omega) only [go_sem, seval, c, nw]
end Go.Vm.YtholgdogohmdbaaW
