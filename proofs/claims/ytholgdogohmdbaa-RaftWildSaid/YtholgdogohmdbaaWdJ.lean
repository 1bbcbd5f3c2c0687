/- (seval) Raft: a replica that gets whatever messages: it is asked for its vote, and told of others' answers. -/
import Derived.Test.YtholgdogohmdbaaWdI
set_option linter.unusedSectionVars false
set_option linter.unusedSimpArgs false
set_option linter.unusedVariables false
set_option maxHeartbeats 1000000
set_option maxRecDepth 10000
namespace Go.Vm.YtholgdogohmdbaaW
open Go.Proofs
variable {σ : Store} {g : Nat}
theorem newer_callV {d : Nd} {bc lv : V} (h : NodeW σ g d bc lv) (hb : 0 ≤ d.bi ∧ d.bi ≤ 4294967296) (hl : d.l.length ≤ 1000000) (m : WM) (hi : 0 ≤ m.ix ∧ m.ix ≤ 2147483647) :
    ∃ (b : Bool) (ids : List Nat), ∀ base, callV (tabW fns) σ base 45 [.ptr 4608 g 0, .agg [.int .i64 m.k, .int .i64 m.f, .int .i64 m.t, .int .i64 m.term, .int .i64 m.ix, .int .i64 m.lt, .int .i64 m.cm, .bool m.y, .sl m.ek m.es.length (rows Ent.v m.es), .int .i64 m.off, .str m.pc, .bool m.d, .sl m.mk' m.mem.length (m.mem.map iV)]] = some ⟨.bool b, [], ids⟩ := by
  obtain ⟨kb, nb, cb, kl, ids, hro, _⟩ := node_ro h
  obtain ⟨b, hG⟩ : ∃ b, Gf fns 45 [.pt (nw d (.sl kb nb cb) (.sl kl d.l.length (rows Ent.v d.l))) 0, .agg m.m.v] = some (.bool b, []) := ⟨_, newer_w d (.sl kb nb cb) kl hb hl m.m hi⟩
  refine ⟨b, ids, fun base => ?_⟩
  rw [call45]
  exact bor2 hro (by simp -implicitDefEqProofs (disch := omega) only [go_sem, seval, go_sem]; rfl) hG rfl rfl
attribute [-go_sem] callr53 callr36 call53 call36 call45 callr45
theorem vote_fit {d : Nd} (h : FitT d) (v : Int) : FitT { d with vote := v, since := 0 } ∧ RelW d { d with vote := v, since := 0 } := by
  obtain ⟨a, b, c, e, f, k, o⟩ := h
  exact ⟨⟨a, b, c, e, Int.le_refl _, k, o⟩, ⟨Int.le_refl _, Int.le_refl _, fun _ _ _ => rfl, by simp, f, Int.le_refl _⟩⟩
theorem vote_r {d : Nd} {bc lv : V} (hN : NodeW σ g d bc lv) (hF : FitT d) (hl : d.l.length ≤ 900000) (m : WM) (hm : FitG m) : ∃ v σ', Hf fns 26 [.ptr 4608 g 0, .agg m.m.v] σ = some (v, σ') ∧ StepQ σ g d lv (v, σ') := by
  have hes := elen m.es
  have hmi := hm.ix
  have hmt := hm.tm
  have hmf := hm.fr
  have e := hN.at_
  simp -implicitDefEqProofs (disch := omega) only [go_sem, seval, nw] at e
  refine Hf_start (f := 26) rfl rfl ?_
  simp -implicitDefEqProofs (disch := omega) only [go_sem, seval, WM.m, Msg.v]
  refine wp_draw_E ?_
  obtain ⟨b, ids, hnew⟩ := newer_callV (NodeW.scr (k := 28311808) hN (by simp [LOGS, BCS]) ⟨(σ 28311808).gen + 1, .rw, false, m.m.v⟩) hF.bi (by omega) m hmi
  have hv : m.m.v = [.int .i64 m.k, .int .i64 m.f, .int .i64 m.t, .int .i64 m.term, .int .i64 m.ix, .int .i64 m.lt, .int .i64 m.cm, .bool m.y, .sl m.ek m.es.length (rows Ent.v m.es), .int .i64 m.off, .str m.pc, .bool m.d, .sl m.mk' m.mem.length (m.mem.map iV)] := rfl
  rw [hv] at hnew
  have done : ∀ (v : V) (σ' : Store), (σ' 4608 = σ 4608 ∨ σ' 4608 = ⟨g, .rw, false, nw { d with vote := m.f, since := 0 } bc lv⟩) → (∀ j, j / 1048576 ≠ 26 + 1 → j ≠ 4608 → σ' j = σ j) → StepQ σ g d lv (v, σ') := by
    intro v σ' h1 h2
    have hfr : ∀ j ∈ LOGS ++ BCS, σ' j = σ j := by
      intro j hj
      simp only [LOGS, BCS, List.cons_append, List.nil_append, List.mem_cons, List.not_mem_nil, or_false] at hj
      rcases hj with rfl | rfl | rfl | rfl | rfl | rfl <;> exact h2 _ (by simp) (by simp)
    rcases h1 with h1 | h1
    · exact ⟨d, bc, lv, hN.frame (by intro j hj; rcases List.mem_cons.1 hj with rfl | hj; exact h1; exact hfr j hj), hF, RelW.rfl, fun j a b _ => h2 j (by omega) b⟩
    · have hT := vote_fit hF m.f
      refine ⟨_, bc, lv, ?_, hT.1, hT.2, fun j a b _ => h2 j (by omega) b⟩
      refine (NodeW.put (d' := { d with vote := m.f, since := 0 }) hN rfl).frame ?_
      intro j hj
      rcases List.mem_cons.1 hj with rfl | hj
      · show σ' 4608 = _
        rw [h1, upd_same]
      · show σ' j = _
        rw [hfr j hj, upd_ne]
        rintro rfl
        simp [LOGS, BCS] at hj
  by_cases c1 : m.term = d.term
  · rw [c1] at hnew
    by_cases c2 : d.vote = -1
    · cases b
      · simp -implicitDefEqProofs (disch := omega) only [go_sem, seval, e, c1, c2, hnew]
        refine wp_draw_E ?_
        simp -implicitDefEqProofs (disch := omega) only [go_sem, seval, e]
        exact done _ _ (.inl (by simp -implicitDefEqProofs (disch := omega) only [go_sem, seval, go_sem])) (by intro j h1 h2; simp -implicitDefEqProofs (disch := omega) only [go_sem, seval, go_sem])
      · simp -implicitDefEqProofs (disch := omega) only [go_sem, seval, e, c1, c2, hnew]
        refine wp_draw_E ?_
        simp -implicitDefEqProofs (disch := omega) only [go_sem, seval, e]
        exact done _ _ (.inr (by simp -implicitDefEqProofs (disch := omega) only [go_sem, seval, nw])) (by intro j h1 h2; simp -implicitDefEqProofs (disch := omega) only [go_sem, seval, go_sem])
    · by_cases c3 : d.vote = m.f
      · cases b
        · simp -implicitDefEqProofs (disch := omega) only [go_sem, seval, e, c1, c2, c3, hnew]
          refine wp_draw_E ?_
          simp -implicitDefEqProofs (disch := omega) only [go_sem, seval, e]
          exact done _ _ (.inl (by simp -implicitDefEqProofs (disch := omega) only [go_sem, seval, go_sem])) (by intro j h1 h2; simp -implicitDefEqProofs (disch := omega) only [go_sem, seval, go_sem])
        · simp -implicitDefEqProofs (disch := omega) only [go_sem, seval, e, c1, c2, c3, hnew]
          refine wp_draw_E ?_
          simp -implicitDefEqProofs (disch := omega) only [go_sem, seval, e]
          exact done _ _ (.inr (by simp -implicitDefEqProofs (disch := omega) only [go_sem, seval, nw])) (by intro j h1 h2; simp -implicitDefEqProofs (disch := omega) only [go_sem, seval, go_sem])
      · simp -implicitDefEqProofs (disch := omega) only [go_sem, seval, e, c1, c2, c3]
        refine wp_draw_E ?_
        simp -implicitDefEqProofs (disch := omega) only [go_sem, seval, e]
        exact done _ _ (.inl (by simp -implicitDefEqProofs (disch := omega) only [go_sem, seval, go_sem])) (by intro j h1 h2; simp -implicitDefEqProofs (disch := omega) only [go_sem, seval, go_sem])
  · simp -implicitDefEqProofs (disch := omega) only [go_sem, seval, e, c1]
    refine wp_draw_E ?_
    simp -implicitDefEqProofs (disch := omega) only [go_sem, seval, e]
    exact done _ _ (.inl (by simp -implicitDefEqProofs (disch := omega) only [go_sem, seval, go_sem])) (by intro j h1 h2; simp -implicitDefEqProofs (disch := omega) only [go_sem, seval, go_sem])
theorem voted_r {d : Nd} {bc lv : V} (hN : NodeW σ g d bc lv) (hF : FitT d) (m : WM) : ∃ v σ', Hf fns 27 [.ptr 4608 g 0, .agg m.m.v] σ = some (v, σ') ∧ StepQ σ g d lv (v, σ') := by
  have e := hN.at_
  simp -implicitDefEqProofs (disch := omega) only [go_sem, seval, nw] at e
  refine Hf_start (f := 27) rfl rfl ?_
  simp -implicitDefEqProofs (disch := omega) only [go_sem, seval, WM.m, Msg.v]
  refine wp_draw_E ?_
  simp -implicitDefEqProofs (disch := omega) only [go_sem, seval, e]
  exact ⟨d, bc, lv, hN.scr (by simp [LOGS, BCS]) _, hF, RelW.rfl, by intro j h1 h2 h3; simp -implicitDefEqProofs (disch := omega) only [go_sem, seval, go_sem]⟩
theorem appended_r {d : Nd} {bc lv : V} (hN : NodeW σ g d bc lv) (hF : FitT d) (m : WM) : ∃ v σ', Hf fns 28 [.ptr 4608 g 0, .agg m.m.v] σ = some (v, σ') ∧ StepQ σ g d lv (v, σ') := by
  have e := hN.at_
  simp -implicitDefEqProofs (disch := omega) only [go_sem, seval, nw] at e
  refine Hf_start (f := 28) rfl rfl ?_
  simp -implicitDefEqProofs (disch := omega) only [go_sem, seval, WM.m, Msg.v]
  refine wp_draw_E ?_
  simp -implicitDefEqProofs (disch := omega) only [go_sem, seval, e]
  exact ⟨d, bc, lv, hN.scr (by simp [LOGS, BCS]) _, hF, RelW.rfl, by intro j h1 h2 h3; simp -implicitDefEqProofs (disch := omega) only [go_sem, seval, go_sem]⟩
theorem snapped_r {d : Nd} {bc lv : V} (hN : NodeW σ g d bc lv) (hF : FitT d) (m : WM) : ∃ v σ', Hf fns 30 [.ptr 4608 g 0, .agg m.m.v] σ = some (v, σ') ∧ StepQ σ g d lv (v, σ') := by
  have e := hN.at_
  simp -implicitDefEqProofs (disch := omega) only [go_sem, seval, nw] at e
  refine Hf_start (f := 30) rfl rfl ?_
  simp -implicitDefEqProofs (disch := omega) only [go_sem, seval, WM.m, Msg.v]
  refine wp_draw_E ?_
  simp -implicitDefEqProofs (disch := omega) only [go_sem, seval, e]
  exact ⟨d, bc, lv, hN.scr (by simp [LOGS, BCS]) _, hF, RelW.rfl, by intro j h1 h2 h3; simp -implicitDefEqProofs (disch := omega) only [go_sem, seval, go_sem]⟩
end Go.Vm.YtholgdogohmdbaaW
