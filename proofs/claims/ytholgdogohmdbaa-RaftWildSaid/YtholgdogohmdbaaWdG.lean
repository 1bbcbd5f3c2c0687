/- (seval) Raft: a replica that gets whatever messages: entries are taken. -/
import Derived.Test.YtholgdogohmdbaaWdF
set_option linter.unusedSectionVars false
set_option linter.unusedSimpArgs false
set_option linter.unusedVariables false
set_option maxHeartbeats 8000000
set_option maxRecDepth 10000
namespace Go.Vm.YtholgdogohmdbaaW
open Go.Proofs
variable {σ : Store} {g : Nat}
attribute [-go_sem] callr53 callr36
theorem rows_drop (l : List Ent) (k : Nat) (hk : k ≤ l.length) : (rows Ent.v l).drop (k * 4) = rows Ent.v (l.drop k) := by
  have h : rows Ent.v l = rows Ent.v (l.take k) ++ rows Ent.v (l.drop k) := by rw [← rows_append, List.take_append_drop]
  have hl := elen (l.take k)
  rw [List.length_take, Nat.min_eq_left hk] at hl
  rw [h, ← hl, List.drop_left]
theorem taken_r {d : Nd} {bc lv : V} (hN : NodeW σ g d bc lv) (hF : FitW d) (m : WM) (hm : FitM m) : ∃ v σ', Hf fns 44 [.ptr 4608 g 0, .agg m.m.v] σ = some (v, σ') ∧ TakQ σ g d bc lv (v, σ') := by
  obtain ⟨⟨hb1, hb2⟩, hln, ⟨hc1, hc2⟩, hok⟩ := hF
  obtain ⟨⟨hx1, hx2⟩, hen, hmo⟩ := hm
  have hes := elen m.es
  have e := hN.at_
  simp -implicitDefEqProofs (disch := omega) only [go_sem, seval, nw] at e
  refine Hf_start (f := 44) rfl rfl ?_
  simp -implicitDefEqProofs (disch := omega) only [go_sem, seval, WM.m, Msg.v]
  refine wpA_gen (fun s => NodeW s g d bc lv ∧ s 47186176 = ⟨(σ 47186176).gen + 1, .rw, false, m.m.v⟩ ∧ ∀ j, j / 1048576 ≠ 44 + 1 → s j = σ j) ⟨hN.frame ?_, ?_, ?_⟩ ?_
  · intro j hj
    simp only [LOGS, BCS, List.cons_append, List.nil_append, List.mem_cons, List.not_mem_nil, or_false] at hj
    rcases hj with rfl | rfl | rfl | rfl | rfl | rfl | rfl <;> simp -implicitDefEqProofs (disch := omega) only [go_sem, seval, go_sem]
  · simp -implicitDefEqProofs (disch := omega) only [go_sem, seval, WM.m, Msg.v]
  · intro j hj
    simp -implicitDefEqProofs (disch := omega) only [go_sem, seval, go_sem]
  rintro σ1 ⟨hN1, hB1, hf1⟩
  have e1 := hN1.at_
  simp -implicitDefEqProofs (disch := omega) only [go_sem, seval, nw] at e1
  generalize hgb : (σ 47186176).gen + 1 = gb at *
  have hB1' := hB1
  simp -implicitDefEqProofs (disch := omega) only [go_sem, seval, WM.m, Msg.v] at hB1
  have fin : ∀ (ke : SK) (es : List Ent) (A : Int) (k0 : Nat) (l' : List Ent) (lv' : V) (s : St), A = d.bi + k0 → k0 ≤ d.l.length → A + es.length = m.ix + m.es.length → es.length ≤ 16 → takI σ g gb d bc lv m ke es A k0 (es.length, l', lv') s → TakQ σ g d bc lv (.tup [.int .i64 (m.ix + m.es.length), .bool true], s.σ) := by
    intro ke es A k0 l' lv' s hA hk0 hA2 hes' hS
    obtain ⟨hi0, h0, h3, h7, h68, h69, h70, hN', hB', hok0, hpre0, hcr0, hlo0, hup0, hid0, hfr0⟩ := hS
    simp only at hlo0 hup0 hcr0
    unfold crN at hcr0
    exact ⟨_, _, l', lv', rfl, hN', hok0, hpre0, by omega, by omega, fun _ => ⟨by omega, by omega⟩, hfr0⟩
  refine wp_draw_E ?_
  have hdrop : ∀ k, k ≤ m.es.length → (rows Ent.v m.es).drop (k * 4) = rows Ent.v (m.es.drop k) := rows_drop m.es
  have dead : ∀ ke es A k0 x (s : St), es.length ≤ 16 → k0 ≤ d.l.length → takI σ g gb d bc lv m ke es A k0 x s → TakQ σ g d bc lv (.tup [.int .i64 0, .bool false], s.σ) := by
    rintro ke es A k0 ⟨i, l', lv'⟩ s h16 hk0 ⟨hi0, h0, h3, h7, h68, h69, h70, hN', hB', hok0, hpre0, hcr0, hlo0, hup0, hid0, hfr0⟩
    simp only at hi0 hlo0 hup0 hcr0
    unfold crN at hcr0
    exact ⟨_, _, l', lv', rfl, hN', hok0, hpre0, by omega, by omega, fun h => by simp at h, hfr0⟩
  by_cases c1 : m.ix < d.bi
  · by_cases c2 : d.bi - m.ix ≤ m.es.length
    · obtain ⟨K, hK⟩ : ∃ K : Nat, d.bi - m.ix = K := ⟨(d.bi - m.ix).toNat, by omega⟩
      have hmin : min (d.bi - m.ix) (m.es.length : Int) = K := by omega
      have hdk := hdrop K (by omega)
      have hm2 : m.ix + (K : Int) = d.bi := by omega
      simp -implicitDefEqProofs (disch := omega) only [go_sem, seval, hB1, e1, c1, c2, hmin, hdk, hm2]
      refine tak_loop (g := g) (bc := bc) (lv := lv) (lv0 := lv) σ gb m m.ek (m.es.drop K) d.bi 0 (by omega) ⟨hb1, hb2⟩ hln ⟨hc1, hc2⟩ (by omega) (by simp; omega) (fun x hx => hmo x (List.mem_of_mem_drop hx)) _ ?_ ?_ ?_
      · intro l' lv' s hS
        obtain ⟨t', σ'⟩ := s
        have h3 : t' 3 = .ptr 47186176 gb 0 := hS.2.2.1
        have hB : σ' 47186176 = ⟨gb, .rw, false, m.m.v⟩ := hS.2.2.2.2.2.2.2.2.1
        simp -implicitDefEqProofs (disch := omega) only [go_sem, seval, WM.m, Msg.v] at hB
        simp -implicitDefEqProofs (disch := omega) only [go_sem, seval, h3, hB]
        exact fin _ _ d.bi 0 l' lv' _ (by omega) (by omega) (by simp; omega) (by simp; omega) hS
      · intro x s hS t' h4 h5
        simp -implicitDefEqProofs (disch := omega) only [go_sem, seval, h4, h5]
        exact dead _ _ _ _ x s (by first | omega | (simp; omega)) (by omega) hS
      · refine ⟨by simp, ?_, ?_, ?_, ?_, ?_, ?_, hN1, hB1', hok, rfl, by simp only; unfold crN; omega, by simp, by simp only; omega, fun _ h _ => h, fun j h1 _ _ => hf1 j h1⟩
        · simp -implicitDefEqProofs (disch := omega) only [go_sem, seval, go_sem]
        · simp -implicitDefEqProofs (disch := omega) only [go_sem, seval, go_sem]
        · simp -implicitDefEqProofs (disch := omega) only [go_sem, seval, go_sem]
        · simp -implicitDefEqProofs (disch := omega) only [go_sem, seval, List.length_drop]
        · simp -implicitDefEqProofs (disch := omega) only [go_sem, seval, List.length_drop]
        · simp -implicitDefEqProofs (disch := omega) only [go_sem, seval, go_sem]
    · simp -implicitDefEqProofs (disch := omega) only [go_sem, seval, hB1, e1, c1, c2]
      exact ⟨_, _, d.l, lv, rfl, hN1, hok, rfl, hc2, by omega, fun _ => ⟨by omega, by omega⟩, fun j h1 _ _ => hf1 j h1⟩
  · simp -implicitDefEqProofs (disch := omega) only [go_sem, seval, hB1, e1, c1]
    refine contC_of (term_call hN1 ⟨hb1, hb2⟩ (by omega) m.ix ⟨hx1, by omega⟩ _) ?_
    by_cases c2 : (termW d m.ix).2 = true
    · by_cases c3 : (termW d m.ix).1 = m.lt
      · simp -implicitDefEqProofs (disch := omega) only [go_sem, seval, hB1, e1, c1, c2, c3]
        have hle : m.ix ≤ d.bi + d.l.length := by
          unfold termW lastW at c2
          split at c2
          · omega
          · split at c2
            · simp at c2
            · omega
        obtain ⟨K, hK⟩ : ∃ K : Nat, m.ix = d.bi + K := ⟨(m.ix - d.bi).toNat, by omega⟩
        refine tak_loop (g := g) (bc := bc) (lv := lv) (lv0 := lv) σ gb m m.ek m.es m.ix K (by omega) ⟨hb1, hb2⟩ hln ⟨hc1, hc2⟩ (by omega) (by omega) hmo _ ?_ ?_ ?_
        · intro l' lv' s hS
          obtain ⟨t', σ'⟩ := s
          have h3 : t' 3 = .ptr 47186176 gb 0 := hS.2.2.1
          have hB : σ' 47186176 = ⟨gb, .rw, false, m.m.v⟩ := hS.2.2.2.2.2.2.2.2.1
          simp -implicitDefEqProofs (disch := omega) only [go_sem, seval, WM.m, Msg.v] at hB
          simp -implicitDefEqProofs (disch := omega) only [go_sem, seval, h3, hB]
          exact fin _ _ m.ix K l' lv' _ (by omega) (by omega) (by omega) (by omega) hS
        · intro x s hS t' h4 h5
          simp -implicitDefEqProofs (disch := omega) only [go_sem, seval, h4, h5]
          exact dead _ _ _ _ x s (by first | omega | (simp; omega)) (by omega) hS
        · refine ⟨by simp, ?_, ?_, ?_, ?_, ?_, ?_, hN1, hB1', hok, rfl, by simp only; unfold crN; omega, by simp only; omega, by simp only; omega, fun _ h _ => h, fun j h1 _ _ => hf1 j h1⟩
          · simp -implicitDefEqProofs (disch := omega) only [go_sem, seval, go_sem]
          · simp -implicitDefEqProofs (disch := omega) only [go_sem, seval, go_sem]
          · simp -implicitDefEqProofs (disch := omega) only [go_sem, seval, go_sem]
          · simp -implicitDefEqProofs (disch := omega) only [go_sem, seval, go_sem]
          · simp -implicitDefEqProofs (disch := omega) only [go_sem, seval, go_sem]
          · simp -implicitDefEqProofs (disch := omega) only [go_sem, seval, go_sem]
      · simp -implicitDefEqProofs (disch := omega) only [go_sem, seval, hB1, e1, c1, c2, c3]
        exact ⟨_, _, d.l, lv, rfl, hN1, hok, rfl, hc2, by omega, fun h => by simp at h, fun j h1 _ _ => hf1 j h1⟩
    · simp -implicitDefEqProofs (disch := omega) only [go_sem, seval, hB1, e1, c1, c2]
      exact ⟨_, _, d.l, lv, rfl, hN1, hok, rfl, hc2, by omega, fun h => by simp at h, fun j h1 _ _ => hf1 j h1⟩
end Go.Vm.YtholgdogohmdbaaW
