/- (seval) Raft: a replica that gets whatever messages: a snapshot comes. -/
import Derived.Test.YtholgdogohmdbaaWdK
set_option linter.unusedSectionVars false
set_option linter.unusedSimpArgs false
set_option linter.unusedVariables false
set_option maxHeartbeats 1000000
set_option maxRecDepth 10000
namespace Go.Vm.YtholgdogohmdbaaW
open Go.Proofs
variable {σ : Store} {g : Nat}
attribute [-go_sem] callr53 callr36 call53 call36 call45 callr45
def hsW (d : Nd) (hi ht : Int) (hs : List UInt8) : Nd := { d with hi := hi, ht := ht, hs := hs }
theorem hs_fit {d : Nd} (h : FitT d) (a b : Int) (s : List UInt8) : FitT (hsW d a b s) ∧ RelW d (hsW d a b s) := by
  obtain ⟨a, b, c, e, f, k, o⟩ := h
  exact ⟨⟨a, b, c, e, f, k, o⟩, ⟨Int.le_refl _, Int.le_refl _, fun _ _ _ => rfl, by simp [hsW], Int.le_refl _, Int.le_refl _⟩⟩
theorem snap_r {d : Nd} {bc lv : V} (hN : NodeW σ g d bc lv) (hF : FitT d) (hl : d.l.length ≤ 900000) (m : WM) (hm : FitG m) : ∃ v σ', Hf fns 29 [.ptr 4608 g 0, .agg m.m.v] σ = some (v, σ') ∧ StepQ σ g d lv (v, σ') := by
  have hes := elen m.es
  have hmi := hm.ix
  have hmt := hm.tm
  have hmf := hm.fr
  have hmo := hm.of
  have hmp := hm.pc
  have e := hN.at_
  simp -implicitDefEqProofs (disch := omega) only [go_sem, seval, nw] at e
  refine Hf_start (f := 29) rfl rfl ?_
  simp -implicitDefEqProofs (disch := omega) only [go_sem, seval, WM.m, Msg.v]
  refine wp_draw_E ?_
  simp -implicitDefEqProofs (disch := omega) only [go_sem, seval, e]
  refine wp_draw_E ?_
  by_cases c1 : m.term < d.term
  · simp -implicitDefEqProofs (disch := omega) only [go_sem, seval, e, c1]
    refine ⟨d, bc, lv, ?_, hF, RelW.rfl, ?_⟩
    · exact ((hN.scr (by simp [LOGS, BCS]) _).scr (by simp [LOGS, BCS]) _).scr (by simp [LOGS, BCS]) _
    · intro j h1 h2 h3
      simp -implicitDefEqProofs (disch := omega) only [go_sem, seval, go_sem]
  · simp -implicitDefEqProofs (disch := omega) only [go_sem, seval, e, c1]
    refine contC_of (follow_r d bc lv hF.tm m.term m.f hmt ?_) ?_
    · simp -implicitDefEqProofs (disch := omega) only [go_sem, seval, e, nw]
    simp -implicitDefEqProofs (disch := omega) only [go_sem, seval, go_sem]
    have hF1 := folW_fit hF m.term m.f hmt
    have hR1 := folW_rel hF m.term m.f
    have hl1 := folW_l d m.term m.f
    generalize hd1 : folW d m.term m.f = d1 at *
    have hN1 : NodeW (upd σ 4608 ⟨g, .rw, false, nw d1 bc lv⟩) g d1 bc lv := NodeW.put (d := d) hN hl1
    have fin : ∀ (v : V) (σ' : Store) (hi ht : Int) (hs : List UInt8), σ' 4608 = ⟨g, .rw, false, nw (hsW d1 hi ht hs) bc lv⟩ → (∀ j, j / 1048576 ≠ 29 + 1 → j ≠ 4608 → σ' j = σ j) → StepQ σ g d lv (v, σ') := by
      intro v σ' hi ht hs h1 h2
      have hT := hs_fit hF1 hi ht hs
      refine ⟨_, bc, lv, ?_, hT.1, hR1.trans hT.2 (.inl (by rw [hl1]; exact Nat.le_refl _)), fun j a b _ => h2 j (by omega) b⟩
      refine (NodeW.put (d' := hsW d1 hi ht hs) hN1 rfl).frame ?_
      intro j hj
      rcases List.mem_cons.1 hj with rfl | hj
      · show σ' 4608 = _
        rw [h1, upd_same]
      · show σ' j = _
        have hj4 : j ≠ 4608 := by rintro rfl; simp [LOGS, BCS] at hj
        rw [upd_ne _ _ hj4, upd_ne _ _ hj4]
        refine h2 j ?_ hj4
        simp only [LOGS, BCS, List.cons_append, List.nil_append, List.mem_cons, List.not_mem_nil, or_false] at hj
        rcases hj with rfl | rfl | rfl | rfl | rfl | rfl <;> simp
    have fin2 : ∀ (σ1 : Store) (hi ht : Int) (hs : List UInt8), σ1 4608 = ⟨g, .rw, false, nw (hsW d1 hi ht hs) bc lv⟩ → (∀ j, j / 1048576 ≠ 29 + 1 → j ≠ 4608 → σ1 j = σ j) → NodeW σ1 g (hsW d1 hi ht hs) bc lv := by
      intro σ' hi ht hs h1 h2
      refine (NodeW.put (d' := hsW d1 hi ht hs) hN1 rfl).frame ?_
      intro j hj
      rcases List.mem_cons.1 hj with rfl | hj
      · rw [h1, upd_same]
      · have hj4 : j ≠ 4608 := by rintro rfl; simp [LOGS, BCS] at hj
        rw [upd_ne _ _ hj4, upd_ne _ _ hj4]
        refine h2 j ?_ hj4
        simp only [LOGS, BCS, List.cons_append, List.nil_append, List.mem_cons, List.not_mem_nil, or_false] at hj
        rcases hj with rfl | rfl | rfl | rfl | rfl | rfl <;> simp
    refine wp_draw_E ?_
    by_cases c2 : m.ix ≤ d1.commit
    · simp -implicitDefEqProofs (disch := omega) only [go_sem, seval, nw, c2]
      refine fin _ _ d1.hi d1.ht d1.hs ?_ ?_
      · simp -implicitDefEqProofs (disch := omega) only [go_sem, seval, go_sem]
        rfl
      · intro j h1 h2
        simp -implicitDefEqProofs (disch := omega) only [go_sem, seval, go_sem]
    · simp -implicitDefEqProofs (disch := omega) only [go_sem, seval, nw, c2]
      refine wp_draw_E ?_
      by_cases c6 : d1.hi = m.ix
      · by_cases c7 : d1.ht = m.lt
        · simp -implicitDefEqProofs (disch := omega) only [go_sem, seval, nw, c6, c7]
          skip
          refine wpA_gen (fun s => s 4608 = ⟨g, .rw, false, nw (hsW d1 m.ix m.lt d1.hs) bc lv⟩ ∧ (∀ j, j / 1048576 ≠ 29 + 1 → j ≠ 4608 → s j = σ j) ∧ s 31457536 = ⟨(σ 31457536).gen + 1, .rw, false, m.m.v⟩ ∧ s 31457664 = ⟨(σ 31457664).gen + 1, .rw, false, [.int .i64 6, .int .i64 1, .int .i64 m.f, .int .i64 d.term, .int .i64 m.ix, .int .i64 0, .int .i64 0, .bool false, .sl .nil 0 [], .int .i64 0, .str [], .bool false, .sl .nil 0 []]⟩) ⟨?_, ?_, ?_, ?_⟩ ?_
          · simp -implicitDefEqProofs (disch := omega) only [go_sem, seval, go_sem]
            rfl
          · intro j h1 h2
            simp -implicitDefEqProofs (disch := omega) only [go_sem, seval, go_sem]
          · simp -implicitDefEqProofs (disch := omega) only [go_sem, seval, WM.m, Msg.v]
          · simp -implicitDefEqProofs (disch := omega) only [go_sem, seval, go_sem]
          rintro σ2 ⟨e2, hf2, e3, e5⟩
          simp -implicitDefEqProofs (disch := omega) only [go_sem, seval, nw, hsW] at e2
          simp -implicitDefEqProofs (disch := omega) only [go_sem, seval, WM.m, Msg.v] at e3
          refine wp_draw_E ?_
          by_cases c4 : m.off = (d1.hs.length : Int)
          · by_cases c5 : (d1.hs.length : Int) ≤ 1048576
            · simp -implicitDefEqProofs (disch := omega) only [go_sem, seval, e2, e3, e5, c4, c5]
              refine wp_draw_E ?_
              simp -implicitDefEqProofs (disch := omega) only [go_sem, seval, e2, e3, e5]
              cases hd : m.d
              · simp -implicitDefEqProofs (disch := omega) only [go_sem, seval, e2, e3, e5, hd]
                refine wp_draw_E ?_
                simp -implicitDefEqProofs (disch := omega) only [go_sem, seval, e2, e5]
                refine fin _ _ m.ix m.lt (d1.hs ++ m.pc) ?_ ?_
                · simp -implicitDefEqProofs (disch := omega) only [go_sem, seval, e2]
                  rfl
                · intro j h1 h2
                  have h := hf2 j h1 h2
                  simp -implicitDefEqProofs (disch := omega) only [go_sem, seval, h]
              · simp -implicitDefEqProofs (disch := omega) only [go_sem, seval, e2, e3, e5, hd]
                have hT := hs_fit hF1 m.ix m.lt (d1.hs ++ m.pc)
                have key := fun σ1 h => install_r (σ := σ1) (g := g) (d := hsW d1 m.ix m.lt (d1.hs ++ m.pc)) (bc := bc) (lv := lv) h hT.1 (by show d1.l.length ≤ _; rw [hl1]; exact hl) m hm (by show d1.commit < _; omega)
                rw [show m.m.v = [.int .i64 m.k, .int .i64 m.f, .int .i64 m.t, .int .i64 m.term, .int .i64 m.ix, .int .i64 m.lt, .int .i64 m.cm, .bool m.y, .sl m.ek m.es.length (rows Ent.v m.es), .int .i64 m.off, .str m.pc, .bool true, .sl m.mk' m.mem.length (m.mem.map iV)] from by rw [← hd]; rfl] at key
                refine contC_exv (key _ ?_) ?_
                · refine fin2 _ m.ix m.lt (d1.hs ++ m.pc) ?_ ?_
                  · simp -implicitDefEqProofs (disch := omega) only [go_sem, seval, go_sem]
                    rfl
                  · intro j h1 h2
                    have h := hf2 j h1 h2
                    simp -implicitDefEqProofs (disch := omega) only [go_sem, seval, h]
                rintro v σ3 ⟨d3, bc3, lv3, hN3, hF3, hR3, hf3⟩
                simp only at hN3 hf3
                have g3 := hN3.at_
                simp -implicitDefEqProofs (disch := omega) only [go_sem, seval, nw] at g3
                have g5 := hf3 31457664 (by simp) (by simp) (hN.ids (by simp [LOGS]))
                simp -implicitDefEqProofs (disch := omega) only [go_sem, seval, e5] at g5
                simp -implicitDefEqProofs (disch := omega) only [go_sem, seval, g5]
                refine wp_draw_E ?_
                simp -implicitDefEqProofs (disch := omega) only [go_sem, seval, g3, g5]
                refine ⟨d3, bc3, lv3, NodeW.scr (NodeW.scr hN3 (by simp [LOGS, BCS]) _) (by simp [LOGS, BCS]) _, hF3, hR1.trans (hT.2.trans hR3 (.inl (Nat.le_refl _))) (.inl (by rw [hl1]; exact Nat.le_refl _)), ?_⟩
                intro j h1 h2 h3
                have h := hf3 j (by omega) h2 h3
                have h5 := hf2 j (by omega) h2
                simp -implicitDefEqProofs (disch := omega) only [go_sem, seval, h5] at h
                simp -implicitDefEqProofs (disch := omega) only [go_sem, seval, h]
            · simp -implicitDefEqProofs (disch := omega) only [go_sem, seval, e2, e3, e5, c4, c5]
              refine wp_draw_E ?_
              simp -implicitDefEqProofs (disch := omega) only [go_sem, seval, e2, e5]
              refine fin _ _ m.ix m.lt d1.hs ?_ ?_
              · simp -implicitDefEqProofs (disch := omega) only [go_sem, seval, e2]
                rfl
              · intro j h1 h2
                have h := hf2 j h1 h2
                simp -implicitDefEqProofs (disch := omega) only [go_sem, seval, h]
          · simp -implicitDefEqProofs (disch := omega) only [go_sem, seval, e2, e3, e5, c4]
            refine wp_draw_E ?_
            simp -implicitDefEqProofs (disch := omega) only [go_sem, seval, e2, e5]
            refine fin _ _ m.ix m.lt d1.hs ?_ ?_
            · simp -implicitDefEqProofs (disch := omega) only [go_sem, seval, e2]
              rfl
            · intro j h1 h2
              have h := hf2 j h1 h2
              simp -implicitDefEqProofs (disch := omega) only [go_sem, seval, h]
        · simp -implicitDefEqProofs (disch := omega) only [go_sem, seval, nw, c6, c7]
          skip
          refine wpA_gen (fun s => s 4608 = ⟨g, .rw, false, nw (hsW d1 m.ix m.lt []) bc lv⟩ ∧ (∀ j, j / 1048576 ≠ 29 + 1 → j ≠ 4608 → s j = σ j) ∧ s 31457536 = ⟨(σ 31457536).gen + 1, .rw, false, m.m.v⟩ ∧ s 31457664 = ⟨(σ 31457664).gen + 1, .rw, false, [.int .i64 6, .int .i64 1, .int .i64 m.f, .int .i64 d.term, .int .i64 m.ix, .int .i64 0, .int .i64 0, .bool false, .sl .nil 0 [], .int .i64 0, .str [], .bool false, .sl .nil 0 []]⟩) ⟨?_, ?_, ?_, ?_⟩ ?_
          · simp -implicitDefEqProofs (disch := omega) only [go_sem, seval, go_sem]
            rfl
          · intro j h1 h2
            simp -implicitDefEqProofs (disch := omega) only [go_sem, seval, go_sem]
          · simp -implicitDefEqProofs (disch := omega) only [go_sem, seval, WM.m, Msg.v]
          · simp -implicitDefEqProofs (disch := omega) only [go_sem, seval, go_sem]
          rintro σ2 ⟨e2, hf2, e3, e5⟩
          simp -implicitDefEqProofs (disch := omega) only [go_sem, seval, nw, hsW] at e2
          simp -implicitDefEqProofs (disch := omega) only [go_sem, seval, WM.m, Msg.v] at e3
          refine wp_draw_E ?_
          by_cases c4 : m.off = 0
          · simp -implicitDefEqProofs (disch := omega) only [go_sem, seval, e2, e3, e5, c4, List.length_nil, List.nil_append]
            refine wp_draw_E ?_
            simp -implicitDefEqProofs (disch := omega) only [go_sem, seval, e2, e3, e5, List.length_nil, List.nil_append]
            cases hd : m.d
            · simp -implicitDefEqProofs (disch := omega) only [go_sem, seval, e2, e3, e5, hd]
              refine wp_draw_E ?_
              simp -implicitDefEqProofs (disch := omega) only [go_sem, seval, e2, e5, List.length_nil, List.nil_append]
              refine fin _ _ m.ix m.lt m.pc ?_ ?_
              · simp -implicitDefEqProofs (disch := omega) only [go_sem, seval, e2]
                rfl
              · intro j h1 h2
                have h := hf2 j h1 h2
                simp -implicitDefEqProofs (disch := omega) only [go_sem, seval, h]
            · simp -implicitDefEqProofs (disch := omega) only [go_sem, seval, e2, e3, e5, hd]
              have hT := hs_fit hF1 m.ix m.lt m.pc
              have key := fun σ1 h => install_r (σ := σ1) (g := g) (d := hsW d1 m.ix m.lt m.pc) (bc := bc) (lv := lv) h hT.1 (by show d1.l.length ≤ _; rw [hl1]; exact hl) m hm (by show d1.commit < _; omega)
              rw [show m.m.v = [.int .i64 m.k, .int .i64 m.f, .int .i64 m.t, .int .i64 m.term, .int .i64 m.ix, .int .i64 m.lt, .int .i64 m.cm, .bool m.y, .sl m.ek m.es.length (rows Ent.v m.es), .int .i64 m.off, .str m.pc, .bool true, .sl m.mk' m.mem.length (m.mem.map iV)] from by rw [← hd]; rfl] at key
              refine contC_exv (key _ ?_) ?_
              · refine fin2 _ m.ix m.lt m.pc ?_ ?_
                · simp -implicitDefEqProofs (disch := omega) only [go_sem, seval, go_sem]
                  rfl
                · intro j h1 h2
                  have h := hf2 j h1 h2
                  simp -implicitDefEqProofs (disch := omega) only [go_sem, seval, h]
              rintro v σ3 ⟨d3, bc3, lv3, hN3, hF3, hR3, hf3⟩
              simp only at hN3 hf3
              have g3 := hN3.at_
              simp -implicitDefEqProofs (disch := omega) only [go_sem, seval, nw] at g3
              have g5 := hf3 31457664 (by simp) (by simp) (hN.ids (by simp [LOGS]))
              simp -implicitDefEqProofs (disch := omega) only [go_sem, seval, e5] at g5
              simp -implicitDefEqProofs (disch := omega) only [go_sem, seval, g5]
              refine wp_draw_E ?_
              simp -implicitDefEqProofs (disch := omega) only [go_sem, seval, g3, g5]
              refine ⟨d3, bc3, lv3, NodeW.scr (NodeW.scr hN3 (by simp [LOGS, BCS]) _) (by simp [LOGS, BCS]) _, hF3, hR1.trans (hT.2.trans hR3 (.inl (Nat.le_refl _))) (.inl (by rw [hl1]; exact Nat.le_refl _)), ?_⟩
              intro j h1 h2 h3
              have h := hf3 j (by omega) h2 h3
              have h5 := hf2 j (by omega) h2
              simp -implicitDefEqProofs (disch := omega) only [go_sem, seval, h5] at h
              simp -implicitDefEqProofs (disch := omega) only [go_sem, seval, h]
          · simp -implicitDefEqProofs (disch := omega) only [go_sem, seval, e2, e3, e5, c4, List.length_nil, List.nil_append]
            refine wp_draw_E ?_
            simp -implicitDefEqProofs (disch := omega) only [go_sem, seval, e2, e5, List.length_nil, List.nil_append]
            refine fin _ _ m.ix m.lt [] ?_ ?_
            · simp -implicitDefEqProofs (disch := omega) only [go_sem, seval, e2]
              rfl
            · intro j h1 h2
              have h := hf2 j h1 h2
              simp -implicitDefEqProofs (disch := omega) only [go_sem, seval, h]
      · simp -implicitDefEqProofs (disch := omega) only [go_sem, seval, nw, c6]
        skip
        refine wpA_gen (fun s => s 4608 = ⟨g, .rw, false, nw (hsW d1 m.ix m.lt []) bc lv⟩ ∧ (∀ j, j / 1048576 ≠ 29 + 1 → j ≠ 4608 → s j = σ j) ∧ s 31457536 = ⟨(σ 31457536).gen + 1, .rw, false, m.m.v⟩ ∧ s 31457664 = ⟨(σ 31457664).gen + 1, .rw, false, [.int .i64 6, .int .i64 1, .int .i64 m.f, .int .i64 d.term, .int .i64 m.ix, .int .i64 0, .int .i64 0, .bool false, .sl .nil 0 [], .int .i64 0, .str [], .bool false, .sl .nil 0 []]⟩) ⟨?_, ?_, ?_, ?_⟩ ?_
        · simp -implicitDefEqProofs (disch := omega) only [go_sem, seval, go_sem]
          rfl
        · intro j h1 h2
          simp -implicitDefEqProofs (disch := omega) only [go_sem, seval, go_sem]
        · simp -implicitDefEqProofs (disch := omega) only [go_sem, seval, WM.m, Msg.v]
        · simp -implicitDefEqProofs (disch := omega) only [go_sem, seval, go_sem]
        rintro σ2 ⟨e2, hf2, e3, e5⟩
        simp -implicitDefEqProofs (disch := omega) only [go_sem, seval, nw, hsW] at e2
        simp -implicitDefEqProofs (disch := omega) only [go_sem, seval, WM.m, Msg.v] at e3
        refine wp_draw_E ?_
        by_cases c4 : m.off = 0
        · simp -implicitDefEqProofs (disch := omega) only [go_sem, seval, e2, e3, e5, c4, List.length_nil, List.nil_append]
          refine wp_draw_E ?_
          simp -implicitDefEqProofs (disch := omega) only [go_sem, seval, e2, e3, e5, List.length_nil, List.nil_append]
          cases hd : m.d
          · simp -implicitDefEqProofs (disch := omega) only [go_sem, seval, e2, e3, e5, hd]
            refine wp_draw_E ?_
            simp -implicitDefEqProofs (disch := omega) only [go_sem, seval, e2, e5, List.length_nil, List.nil_append]
            refine fin _ _ m.ix m.lt m.pc ?_ ?_
            · simp -implicitDefEqProofs (disch := omega) only [go_sem, seval, e2]
              rfl
            · intro j h1 h2
              have h := hf2 j h1 h2
              simp -implicitDefEqProofs (disch := omega) only [go_sem, seval, h]
          · simp -implicitDefEqProofs (disch := omega) only [go_sem, seval, e2, e3, e5, hd]
            have hT := hs_fit hF1 m.ix m.lt m.pc
            have key := fun σ1 h => install_r (σ := σ1) (g := g) (d := hsW d1 m.ix m.lt m.pc) (bc := bc) (lv := lv) h hT.1 (by show d1.l.length ≤ _; rw [hl1]; exact hl) m hm (by show d1.commit < _; omega)
            rw [show m.m.v = [.int .i64 m.k, .int .i64 m.f, .int .i64 m.t, .int .i64 m.term, .int .i64 m.ix, .int .i64 m.lt, .int .i64 m.cm, .bool m.y, .sl m.ek m.es.length (rows Ent.v m.es), .int .i64 m.off, .str m.pc, .bool true, .sl m.mk' m.mem.length (m.mem.map iV)] from by rw [← hd]; rfl] at key
            refine contC_exv (key _ ?_) ?_
            · refine fin2 _ m.ix m.lt m.pc ?_ ?_
              · simp -implicitDefEqProofs (disch := omega) only [go_sem, seval, go_sem]
                rfl
              · intro j h1 h2
                have h := hf2 j h1 h2
                simp -implicitDefEqProofs (disch := omega) only [go_sem, seval, h]
            rintro v σ3 ⟨d3, bc3, lv3, hN3, hF3, hR3, hf3⟩
            simp only at hN3 hf3
            have g3 := hN3.at_
            simp -implicitDefEqProofs (disch := omega) only [go_sem, seval, nw] at g3
            have g5 := hf3 31457664 (by simp) (by simp) (hN.ids (by simp [LOGS]))
            simp -implicitDefEqProofs (disch := omega) only [go_sem, seval, e5] at g5
            simp -implicitDefEqProofs (disch := omega) only [go_sem, seval, g5]
            refine wp_draw_E ?_
            simp -implicitDefEqProofs (disch := omega) only [go_sem, seval, g3, g5]
            refine ⟨d3, bc3, lv3, NodeW.scr (NodeW.scr hN3 (by simp [LOGS, BCS]) _) (by simp [LOGS, BCS]) _, hF3, hR1.trans (hT.2.trans hR3 (.inl (Nat.le_refl _))) (.inl (by rw [hl1]; exact Nat.le_refl _)), ?_⟩
            intro j h1 h2 h3
            have h := hf3 j (by omega) h2 h3
            have h5 := hf2 j (by omega) h2
            simp -implicitDefEqProofs (disch := omega) only [go_sem, seval, h5] at h
            simp -implicitDefEqProofs (disch := omega) only [go_sem, seval, h]
        · simp -implicitDefEqProofs (disch := omega) only [go_sem, seval, e2, e3, e5, c4, List.length_nil, List.nil_append]
          refine wp_draw_E ?_
          simp -implicitDefEqProofs (disch := omega) only [go_sem, seval, e2, e5, List.length_nil, List.nil_append]
          refine fin _ _ m.ix m.lt [] ?_ ?_
          · simp -implicitDefEqProofs (disch := omega) only [go_sem, seval, e2]
            rfl
          · intro j h1 h2
            have h := hf2 j h1 h2
            simp -implicitDefEqProofs (disch := omega) only [go_sem, seval, h]
end Go.Vm.YtholgdogohmdbaaW
