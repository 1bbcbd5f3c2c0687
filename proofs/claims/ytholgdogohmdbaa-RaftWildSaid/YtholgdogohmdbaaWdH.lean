/- (seval) Raft: a replica that gets whatever messages: what a leader says is heard. -/
import Derived.Test.YtholgdogohmdbaaWdG
set_option linter.unusedSectionVars false
set_option linter.unusedSimpArgs false
set_option linter.unusedVariables false
set_option maxHeartbeats 1000000
set_option maxRecDepth 10000
namespace Go.Vm
theorem contC_exv {tbl : Tbl} {r : List IOp} {K : St → Prop} {t : Nat → V} {d : Nat} {o : Option (V × Store)} {P : V × Store → Prop} (h : ∃ v σ', o = some (v, σ') ∧ P (v, σ')) (hk : ∀ v σ', P (v, σ') → regA tbl r K ⟨upd t d v, σ'⟩) : contC tbl r K t d o := by
  obtain ⟨v, σ', h1, h2⟩ := h
  exact contC_of h1 (hk v σ' h2)
end Go.Vm
namespace Go.Vm.YtholgdogohmdbaaW
open Go.Proofs
variable {σ : Store} {g : Nat}
attribute [-go_sem] callr53 callr36 call53 call36
theorem NodeW.scr {d : Nd} {bc lv : V} (h : NodeW σ g d bc lv) {k : Nat} (hk : k ∉ 4608 :: (LOGS ++ BCS)) (b : Blk) : NodeW (upd σ k b) g d bc lv :=
  h.frame fun j hj => upd_ne _ _ (fun e => hk (by rw [← e]; exact hj))
theorem NodeW.ids {d : Nd} {bc lv : V} (h : NodeW σ g d bc lv) {k : Nat} (hk : k ∉ LOGS) : k ∉ idsOf lv := by
  rcases h.logp with ⟨_, _, h1, _⟩ | ⟨q, gq, hq, e1, e2⟩
  · rw [h1]; simp [idsOf]
  · rw [e1]; simp only [idsOf, List.mem_singleton]
    rintro rfl; exact hk hq
theorem NodeW.put {d d' : Nd} {bc lv : V} (h : NodeW σ g d bc lv) (hl : d'.l = d.l) : NodeW (upd σ 4608 ⟨g, .rw, false, nw d' bc lv⟩) g d' bc lv := by
  refine ⟨upd_same _ _ _, ?_, ?_, h.apart⟩
  · rcases h.bcp with h1 | ⟨q, gq, bl, hq, e1, e2, e3⟩
    · exact .inl h1
    · refine .inr ⟨q, gq, bl, hq, e1, (upd_ne _ _ ?_).trans e2, e3⟩
      rintro rfl; simp [BCS] at hq
  · rw [hl]
    rcases h.logp with h1 | ⟨q, gq, hq, e1, e2⟩
    · exact .inl h1
    · refine .inr ⟨q, gq, hq, e1, (upd_ne _ _ ?_).trans e2⟩
      rintro rfl; simp [LOGS] at hq
/-- What is fit, of a node. -/
structure FitT (d : Nd) : Prop where
  bi : 0 ≤ d.bi ∧ d.bi ≤ 4294967296
  cm : d.bi ≤ d.commit ∧ d.commit ≤ d.bi + d.l.length
  ok : ∀ e ∈ d.l, e.ok
  tm : 0 ≤ d.term ∧ d.term ≤ 2147483647
  sc : 0 ≤ d.since
  hd : 0 ≤ d.heard
  to : 10 ≤ d.tmo
/-- What a message may be. -/
structure FitG (m : WM) : Prop extends FitM m where
  tm : 0 ≤ m.term ∧ m.term ≤ 2147483647
  fr : 0 ≤ m.f ∧ m.f < 16
  cm : 0 ≤ m.cm ∧ m.cm ≤ 2147483647
  of : 0 ≤ m.off ∧ m.off ≤ 2147483647
  pc : m.pc.length ≤ 200
  ml : (m.mk' = .nil ∧ m.mem = []) ∨ m.mk' = .ro
  mb : m.mem.length ≤ 17592186044416
/-- What lies at an index. -/
def entW (d : Nd) (i : Int) : Ent := gt d.l (i - d.bi - 1).toNat
/-- What becomes of a node. -/
structure RelW (d d' : Nd) : Prop where
  bi : d.bi ≤ d'.bi
  cm : d.commit ≤ d'.commit
  kp : ∀ i, d'.bi < i → i ≤ d.commit → entW d' i = entW d i
  ln : d'.l.length ≤ d.l.length + 16
  sc : d'.since ≤ d.since
  hd : d'.heard ≤ d.heard
def StepQ (σ : Store) (g : Nat) (d : Nd) (lv : V) (q : V × Store) : Prop :=
  ∃ (d' : Nd) (bc' lv' : V), NodeW q.2 g d' bc' lv' ∧ FitT d' ∧ RelW d d' ∧ ∀ j, j < 1048576 → j ≠ 4608 → j ∉ idsOf lv → q.2 j = σ j
theorem RelW.rfl {d : Nd} : RelW d d := ⟨Int.le_refl _, Int.le_refl _, fun _ _ _ => by rfl, by omega, Int.le_refl _, Int.le_refl _⟩
theorem folW_l (d : Nd) (t l : Int) : (folW d t l).l = d.l := by unfold folW; simp only; split <;> split <;> rfl
theorem folW_bi (d : Nd) (t l : Int) : (folW d t l).bi = d.bi := by unfold folW; simp only; split <;> split <;> rfl
theorem folW_cm (d : Nd) (t l : Int) : (folW d t l).commit = d.commit := by unfold folW; simp only; split <;> split <;> rfl
theorem folW_fit {d : Nd} (h : FitT d) (t l : Int) (ht : 0 ≤ t ∧ t ≤ 2147483647) : FitT (folW d t l) := by
  have h1 := (tmoW_in d.term h.tm.1).1
  have h2 := (tmoW_in t ht.1).1
  obtain ⟨a, b, c, e, f, k, o⟩ := h
  unfold folW
  simp only
  split <;> split <;> constructor <;> simp_all
theorem folW_rel {d : Nd} (h : FitT d) (t l : Int) : RelW d (folW d t l) := by
  obtain ⟨a, b, c, e, f, k, o⟩ := h
  unfold folW
  simp only
  split <;> split <;> constructor <;> (try intro i _ _) <;> first | rfl | (simp; try omega)
theorem RelW.trans {d d' d'' : Nd} (h : RelW d d') (h2 : RelW d' d'') (hl : d'.l.length ≤ d.l.length ∨ d''.l.length ≤ d'.l.length) : RelW d d'' := by
  refine ⟨Int.le_trans h.bi h2.bi, Int.le_trans h.cm h2.cm, fun i h3 h4 => ?_, ?_, Int.le_trans h2.sc h.sc, Int.le_trans h2.hd h.hd⟩
  · have := h2.bi
    have := h.cm
    rw [h2.kp i h3 (by omega), h.kp i (by omega) h4]
  · have := h.ln
    have := h2.ln
    omega
/-- Entries taken, and the commit moved on. -/
theorem tak_rel {d : Nd} (hF : FitT d) {l' : List Ent} (hok : ∀ e ∈ l', e.ok) (hpre : l'.take (crN d) = d.l.take (crN d)) (hc : d.commit ≤ d.bi + l'.length) (hln : l'.length ≤ d.l.length + 16) (c' : Int) (h1 : d.commit ≤ c') (h2 : c' ≤ d.bi + l'.length) :
    FitT { d with l := l', commit := c' } ∧ RelW d { d with l := l', commit := c' } := by
  obtain ⟨a, b, c, e, f, k, o⟩ := hF
  refine ⟨⟨a, ⟨by simp; omega, h2⟩, hok, e, f, k, o⟩, ⟨Int.le_refl _, h1, fun i h3 h4 => ?_, hln, Int.le_refl _, Int.le_refl _⟩⟩
  simp only at h3
  unfold entW
  simp only
  have hk : (i - d.bi - 1).toNat < crN d := by unfold crN; omega
  have hk1 : (i - d.bi - 1).toNat < l'.length := by unfold crN at hk; omega
  have hk2 : (i - d.bi - 1).toNat < d.l.length := by unfold crN at hk; omega
  rw [gt_eq hk1, gt_eq hk2]
  have e1 : (l'.take (crN d))[(i - d.bi - 1).toNat]? = (d.l.take (crN d))[(i - d.bi - 1).toNat]? := by rw [hpre]
  rw [List.getElem?_take_of_lt hk, List.getElem?_take_of_lt hk, List.getElem?_eq_getElem hk1, List.getElem?_eq_getElem hk2] at e1
  exact Option.some.inj e1
theorem hear_r {d : Nd} {bc lv : V} (hN : NodeW σ g d bc lv) (hF : FitT d) (hl : d.l.length ≤ 900000) (m : WM) (hm : FitG m) : ∃ v σ', Hf fns 25 [.ptr 4608 g 0, .agg m.m.v] σ = some (v, σ') ∧ StepQ σ g d lv (v, σ') := by
  have hes := elen m.es
  have hmi := hm.ix
  have hmt := hm.tm
  have hmf := hm.fr
  have hmc := hm.cm
  have hml := hm.en
  have e := hN.at_
  simp -implicitDefEqProofs (disch := omega) only [go_sem, seval, nw] at e
  refine Hf_start (f := 25) rfl rfl ?_
  simp -implicitDefEqProofs (disch := omega) only [go_sem, seval, WM.m, Msg.v]
  refine wp_draw_E ?_
  simp -implicitDefEqProofs (disch := omega) only [go_sem, seval, e]
  refine wp_draw_E ?_
  by_cases c1 : m.term < d.term
  · simp -implicitDefEqProofs (disch := omega) only [go_sem, seval, e, c1]
    refine ⟨d, bc, lv, ?_, hF, RelW.rfl, ?_⟩
    · exact ((hN.scr (by simp [LOGS, BCS]) _).scr (by simp [LOGS, BCS]) _).scr (by simp [LOGS, BCS]) _
    · intro j h1 h2 h3
      simp -implicitDefEqProofs (disch := omega) only [go_sem, seval, go_sem]
  · simp -implicitDefEqProofs (disch := omega) only [go_sem, seval, e, c1]
    refine contC_of (follow_r d bc lv hF.tm m.term m.f hmt ?_) ?_
    · simp -implicitDefEqProofs (disch := omega) only [go_sem, seval, e, nw]
    simp -implicitDefEqProofs (disch := omega) only [go_sem, seval, go_sem]
    have hF1 := folW_fit hF m.term m.f hmt
    have hR1 := folW_rel hF m.term m.f
    have hl1 := folW_l d m.term m.f
    generalize hd1 : folW d m.term m.f = d1 at *
    have hFW : FitW d1 := ⟨hF1.bi, by rw [hl1]; omega, hF1.cm, hF1.ok⟩
    have hv : m.m.v = [.int .i64 m.k, .int .i64 m.f, .int .i64 m.t, .int .i64 m.term, .int .i64 m.ix, .int .i64 m.lt, .int .i64 m.cm, .bool m.y, .sl m.ek m.es.length (rows Ent.v m.es), .int .i64 m.off, .str m.pc, .bool m.d, .sl m.mk' m.mem.length (m.mem.map iV)] := rfl
    have key := fun σ1 h => taken_r (σ := σ1) (g := g) (d := d1) (bc := bc) (lv := lv) h hFW m hm.toFitM
    rw [hv] at key
    refine contC_exv (key _ ?_) ?_
    · refine NodeW.put (d := d) ?_ hl1
      refine NodeW.scr ?_ (by simp [LOGS, BCS]) _
      refine NodeW.scr ?_ (by simp [LOGS, BCS]) _
      exact hN
    rintro v σ2 ⟨a, b, l', lv', rfl, hN2, hok2, hpre2, hc2, hln2, hab, hfr2⟩
    simp only at hN2 hfr2
    have e2 := hN2.at_
    simp -implicitDefEqProofs (disch := omega) only [go_sem, seval, nw] at e2
    have f3 := hfr2 27263232 (by simp) (by simp) ?_
    have f5 := hfr2 27263360 (by simp) (by simp) ?_
    simp -implicitDefEqProofs (disch := omega) only [go_sem, seval, go_sem] at f3
    simp -implicitDefEqProofs (disch := omega) only [go_sem, seval, go_sem] at f5
    rw [hl1] at hln2
    cases b
    · simp -implicitDefEqProofs (disch := omega) only [go_sem, seval, f3, f5]
      refine wp_draw_E ?_
      obtain ⟨ids, hlast⟩ := last_callV hN2 hF1.bi (by simp only; omega)
      have hlw : lastW { d1 with l := l' } = d1.bi + l'.length := rfl
      rw [hlw] at hlast
      simp -implicitDefEqProofs (disch := omega) only [go_sem, seval, f3, f5, hlast]
      have hT := tak_rel hF1 hok2 hpre2 hc2 (by rw [hl1]; exact hln2) d1.commit (Int.le_refl _) hc2
      refine ⟨{ d1 with l := l' }, bc, lv', NodeW.scr (NodeW.scr hN2 (by simp [LOGS, BCS]) _) (by simp [LOGS, BCS]) _, hT.1, hR1.trans hT.2 (.inl (by rw [hl1]; exact Nat.le_refl _)), ?_⟩
      intro j h1 h2 h3
      have h := hfr2 j (by omega) h2 h3
      simp -implicitDefEqProofs (disch := omega) only [go_sem, seval, go_sem] at h
      simp -implicitDefEqProofs (disch := omega) only [go_sem, seval, h]
    · simp -implicitDefEqProofs (disch := omega) only [go_sem, seval, f3, f5]
      refine wp_draw_E ?_
      simp -implicitDefEqProofs (disch := omega) only [go_sem, seval, f3, f5, e2]
      have ha := hab rfl
      have hT := tak_rel hF1 hok2 hpre2 hc2 (by rw [hl1]; exact hln2) (max d1.commit (min m.cm a)) (by omega) (by omega)
      refine ⟨{ d1 with l := l', commit := max d1.commit (min m.cm a) }, bc, lv', NodeW.scr (NodeW.scr (NodeW.put (d' := { d1 with l := l', commit := max d1.commit (min m.cm a) }) hN2 rfl) (by simp [LOGS, BCS]) _) (by simp [LOGS, BCS]) _, hT.1, hR1.trans hT.2 (.inl (by rw [hl1]; exact Nat.le_refl _)), ?_⟩
      intro j h1 h2 h3
      have h := hfr2 j (by omega) h2 h3
      simp -implicitDefEqProofs (disch := omega) only [go_sem, seval, go_sem] at h
      simp -implicitDefEqProofs (disch := omega) only [go_sem, seval, h]
    · exact hN.ids (by simp [LOGS])
    · exact hN.ids (by simp [LOGS])
end Go.Vm.YtholgdogohmdbaaW
