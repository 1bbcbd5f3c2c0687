/- (seval) Raft: a replica that gets whatever messages: the law. -/
import Derived.Test.YtholgdogohmdbaaWdT
set_option linter.unusedSectionVars false
set_option linter.unusedSimpArgs false
set_option linter.unusedVariables false
set_option maxHeartbeats 4000000
set_option maxRecDepth 10000
namespace Go.Vm.YtholgdogohmdbaaW
open Go.Proofs
variable {σ : Store} {g : Nat}
attribute [-go_sem] callr10 callr8 callr7
def msV (m : WM) : List V := m.m.v
def wM1 (h : HW) (km : SK) (ml : List WM) (s : St) : Prop := ∃ l1, l1.length ≤ 20 ∧ (∀ e ∈ l1, e.ok) ∧ s.t 1 = .sl km ml.length (rows msV ml) ∧ s.t 2 = .ptr 192 1 0 ∧ s.σ 192 = ⟨1, .rw, false, { h with l := l1 }.v⟩
def wL0 (h : HW) (km : SK) (ml : List WM) (l1 : List Ent) (i : Nat) (s : St) : Prop := i ≤ l1.length ∧ s.t 1 = .sl km ml.length (rows msV ml) ∧ s.t 2 = .ptr 192 1 0 ∧ s.σ 192 = ⟨1, .rw, false, { h with l := l1 }.v⟩ ∧ s.t 5 = .int .i64 (i : Int)
theorem gcell (l : List Ent) (k j : Nat) (hk : k < l.length) (hj : j < 4) : gt (rows Ent.v l) (k * 4 + j) = gt (gt l k).v j := by
  have h := erow l k hk
  have := elen l
  rw [← h, gt_eq (by omega), gt_eq (by simp; omega)]
  simp
theorem gconf (l : List Ent) (k : Nat) (hk : k < l.length) : gt (rows Ent.v l) (k * 4 + 2) = .bool (gt l k).conf := gcell l k 2 hk (by omega)
theorem gmem (l : List Ent) (k : Nat) (hk : k < l.length) : gt (rows Ent.v l) (k * 4 + 3) = .sl (gt l k).k (gt l k).mem.length ((gt l k).mem.map iV) := gcell l k 3 hk (by omega)
def wL2 (g : Nat) (km : SK) (ml : List WM) (x : Nat × Nd × V × V) (s : St) : Prop := x.1 ≤ ml.length ∧ x.1 ≤ 60 ∧ s.t 1 = .sl km ml.length (rows msV ml) ∧ s.t 6 = .ptr 4608 g 0 ∧ s.t 8 = .int .i64 x.2.1.commit ∧ s.t 9 = .int .i64 (x.1 : Int) ∧ NodeW s.σ g x.2.1 x.2.2.1 x.2.2.2 ∧ FitT x.2.1 ∧ x.2.1.l.length ≤ 20 + 16 * x.1 ∧ x.2.1.since ≤ (x.1 : Int) / 7 ∧ x.2.1.heard ≤ (x.1 : Int) / 7
theorem HW.fit {h : HW} (may : h.may) (ho : h.ok) : FitT h.d := by
  obtain ⟨a, b, c, e, f, k⟩ := may
  exact ⟨⟨c, by simp only [HW.d]; omega⟩, ⟨by simp [HW.d], by simp only [HW.d]; omega⟩, ho.ol, ⟨a, b⟩, by simp [HW.d], by simp [HW.d], (tmoW_in h.term a).1⟩
instance : Inhabited WM := ⟨⟨0, 0, 0, 0, 0, 0, 0, false, .nil, [], 0, [], false, .nil, []⟩⟩
theorem msV_len (m : WM) : (msV m).length = 13 := rfl
theorem mrow (l : List WM) (i : Nat) (h : i < l.length) : ((rows msV l).drop (i * 13)).take 13 = msV (gt l i) := rows_row msV_len h
theorem mlen (l : List WM) : (rows msV l).length = l.length * 13 := rows_length msV_len l
/-- What is kept, so far. -/
def KeptAt (σ : Store) (v : V) (l : List Ent) : Prop := (l = [] ∧ ∃ g0, v = .sli 6336 g0 0 0 4 ∧ σ 6336 = ⟨g0, .rw, true, []⟩) ∨ (l ≠ [] ∧ ∃ gk, v = .sli 8256 gk 0 l.length 4 ∧ σ 8256 = ⟨gk, .rw, true, rows Ent.v l⟩)
def wL4 (g gm : Nat) (d : Nd) (bc lv : V) (t0 : Nat → V) (mv : List V) (c : Nat) (s : St) : Prop := (c : Int) ≤ d.commit - d.bi ∧ c ≤ 59 ∧ s.t 1 = t0 1 ∧ s.t 6 = .ptr 4608 g 0 ∧ s.t 8 = t0 8 ∧ s.t 9 = t0 9 ∧ s.t 10 = .ptr 704 gm 0 ∧ s.t 12 = .int .i64 (d.bi + 1 + c) ∧ s.σ 704 = ⟨gm, .rw, false, mv⟩ ∧ NodeW s.σ g d bc lv ∧ KeptAt s.σ (s.t 11) (d.l.take c)
theorem kept_loop (g gm : Nat) (d : Nd) (bc lv : V) (t0 : Nat → V) (mv : List V) (hF : FitT d) (hl : d.l.length ≤ 900000) (Q : Ex → St → Prop) (hQ : ∀ c s, wL4 g gm d bc lv t0 mv c s → Q (.exit 4) s) (c : Nat) (s : St) (hS : wL4 g gm d bc lv t0 mv c s) : wpA (tabW fns) lp3_2 (nextQ (wL4 g gm d bc lv t0 mv) (fun c => 60 - c) c Q) s := by
  obtain ⟨t, σ⟩ := s
  obtain ⟨hc1, hc2, t1, t6, t8, t9, t10, t12, u10, hN, hK⟩ := id hS
  simp only at hc1 hc2 t1 t6 t8 t9 t10 t12 u10 hN hK
  have cc := fun base => commit_call hN base
  have hb := hF.bi
  have hcm := hF.cm
  simp -implicitDefEqProofs (disch := omega) only [go_sem, seval, lp3_2, t6, t12, cc]
  by_cases c1 : d.bi + 1 + (c : Int) ≤ d.commit
  · simp -implicitDefEqProofs (disch := omega) only [go_sem, seval, c1, t6, t12]
    refine contC_exv (Hard_r hN hF.ok hl) ?_
    rintro v σ1 ⟨⟨xa, xb, xc, xe, xx, xy, rfl⟩, hN1, hf1⟩
    simp only at hN1 hf1
    have f10 := hf1 704 (by simp)
    have f128 := hf1 8256 (by simp)
    have f98 := hf1 6336 (by simp)
    by_cases c2 : d.bi + 1 + (c : Int) - d.bi < 60
    · simp -implicitDefEqProofs (disch := omega) only [go_sem, seval, c1, c2, t6, t12]
      refine contC_exv (entry_call hN1 hF (by omega) _ ⟨by omega, by omega⟩ _) ?_
      have hce : entW d (d.bi + 1 + (c : Int)) = gt d.l c := by
        unfold entW
        rw [show (d.bi + 1 + (c : Int) - d.bi - 1).toNat = c by omega]
      have hcl : c < d.l.length := by omega
      have htk := take_gt hcl
      rintro v σ2 hE
      unfold EntQ at hE
      rw [hce] at hE
      obtain ⟨k1, k2, k3, k4⟩ := hF.ok (gt d.l c) (by rw [gt_eq hcl]; exact List.getElem_mem hcl)
      have hlt : (d.l.take c).length = c := by rw [List.length_take]; omega
      have hrt := elen (d.l.take c)
      unfold KeptAt at hK
      rw [hlt] at hrt hK
      generalize gt d.l c = e at *
      obtain ⟨et, es, ec, ek, em⟩ := e
      simp only at k1 k2 k3 k4 hE
      have hl2 : (d.l.take (c + 1)).length = c + 1 := by rw [List.length_take]; omega
      have hne : d.l.take (c + 1) ≠ [] := fun h => by rw [h] at hl2; simp at hl2
      have h12 : d.bi + 1 + ((c + 1 : Nat) : Int) = d.bi + 1 + (c : Int) + 1 := by omega
      have r7 := iV_ro 6 em
      have r6 := iV_ro 5 em
      have r5 := iV_ro 4 em
      have r4 := iV_ro 3 em
      rcases hE with ⟨_, _, rfl, hq⟩ | ⟨_, _, rfl, hq⟩ | ⟨hq, _⟩
      · obtain ⟨rfl, rfl⟩ := Prod.mk.inj hq
        obtain rfl := k2 rfl
        have hX : rows Ent.v (d.l.take (c + 1)) = rows Ent.v (d.l.take c) ++ Ent.v ⟨et, es, ec, .nil, []⟩ := by rw [htk, rows_append]; simp [rows]
        simp -implicitDefEqProofs (disch := omega) only [go_sem, seval, Ent.v, List.map_nil, List.length_nil] at hX
        rcases hK with ⟨h1, g0, h2, h3⟩ | ⟨h1, gk, h2, h3⟩
        · obtain rfl : c = 0 := by rw [h1] at hlt; simpa using hlt.symm
          simp only [List.take_zero, rows_nil, List.nil_append] at hX
          have h3' := f98.trans h3
          simp -implicitDefEqProofs (disch := omega) only [go_sem, seval, t6, t12, h2, h3']
          refine ⟨1, by omega, by omega, by omega, by simp -implicitDefEqProofs (disch := omega) only [go_sem, seval, t1], by simp -implicitDefEqProofs (disch := omega) only [go_sem, seval, t6], by simp -implicitDefEqProofs (disch := omega) only [go_sem, seval, t8], by simp -implicitDefEqProofs (disch := omega) only [go_sem, seval, t9], by simp -implicitDefEqProofs (disch := omega) only [go_sem, seval, t10], by rw [h12]; simp -implicitDefEqProofs (disch := omega) only [go_sem, seval, go_sem], by simp -implicitDefEqProofs (disch := omega) only [go_sem, seval, f10, u10], ?_, .inr ⟨hne, ((σ2 8256).gen + 1), by rw [hl2]; simp -implicitDefEqProofs (disch := omega) only [go_sem, seval, go_sem], by simp -implicitDefEqProofs (disch := omega) only [go_sem, seval, hX]⟩⟩
          repeat (refine NodeW.scr ?_ (by simp [LOGS, BCS]) _)
          exact hN1
        · have h3' := f128.trans h3
          simp -implicitDefEqProofs (disch := omega) only [go_sem, seval, t6, t12, h2, h3', hlt]
          refine ⟨c + 1, by omega, by omega, by omega, by simp -implicitDefEqProofs (disch := omega) only [go_sem, seval, t1], by simp -implicitDefEqProofs (disch := omega) only [go_sem, seval, t6], by simp -implicitDefEqProofs (disch := omega) only [go_sem, seval, t8], by simp -implicitDefEqProofs (disch := omega) only [go_sem, seval, t9], by simp -implicitDefEqProofs (disch := omega) only [go_sem, seval, t10], by rw [h12]; simp -implicitDefEqProofs (disch := omega) only [go_sem, seval, go_sem], by simp -implicitDefEqProofs (disch := omega) only [go_sem, seval, f10, u10], ?_, .inr ⟨hne, (gk + 1), by rw [hl2]; simp -implicitDefEqProofs (disch := omega) only [go_sem, seval, go_sem], by simp -implicitDefEqProofs (disch := omega) only [go_sem, seval, hX]⟩⟩
          repeat (refine NodeW.scr ?_ (by simp [LOGS, BCS]) _)
          exact hN1
      · obtain ⟨rfl, rfl⟩ := Prod.mk.inj hq
        have hX : rows Ent.v (d.l.take (c + 1)) = rows Ent.v (d.l.take c) ++ Ent.v ⟨et, es, ec, .ro, em⟩ := by rw [htk, rows_append]; simp [rows]
        simp -implicitDefEqProofs (disch := omega) only [go_sem, seval, Ent.v, List.map_nil, List.length_nil] at hX
        rcases hK with ⟨h1, g0, h2, h3⟩ | ⟨h1, gk, h2, h3⟩
        · obtain rfl : c = 0 := by rw [h1] at hlt; simpa using hlt.symm
          simp only [List.take_zero, rows_nil, List.nil_append] at hX
          have h3' := f98.trans h3
          simp -implicitDefEqProofs (disch := omega) only [go_sem, seval, t6, t12, h2, h3', r7, r6, r5, r4]
          refine ⟨1, by omega, by omega, by omega, by simp -implicitDefEqProofs (disch := omega) only [go_sem, seval, t1], by simp -implicitDefEqProofs (disch := omega) only [go_sem, seval, t6], by simp -implicitDefEqProofs (disch := omega) only [go_sem, seval, t8], by simp -implicitDefEqProofs (disch := omega) only [go_sem, seval, t9], by simp -implicitDefEqProofs (disch := omega) only [go_sem, seval, t10], by rw [h12]; simp -implicitDefEqProofs (disch := omega) only [go_sem, seval, go_sem], by simp -implicitDefEqProofs (disch := omega) only [go_sem, seval, f10, u10], ?_, .inr ⟨hne, ((σ1 8256).gen + 1), by rw [hl2]; simp -implicitDefEqProofs (disch := omega) only [go_sem, seval, go_sem], by simp -implicitDefEqProofs (disch := omega) only [go_sem, seval, hX]⟩⟩
          repeat (refine NodeW.scr ?_ (by simp [LOGS, BCS]) _)
          exact hN1
        · have h3' := f128.trans h3
          simp -implicitDefEqProofs (disch := omega) only [go_sem, seval, t6, t12, h2, h3', hlt, r7, r6, r5, r4]
          refine ⟨c + 1, by omega, by omega, by omega, by simp -implicitDefEqProofs (disch := omega) only [go_sem, seval, t1], by simp -implicitDefEqProofs (disch := omega) only [go_sem, seval, t6], by simp -implicitDefEqProofs (disch := omega) only [go_sem, seval, t8], by simp -implicitDefEqProofs (disch := omega) only [go_sem, seval, t9], by simp -implicitDefEqProofs (disch := omega) only [go_sem, seval, t10], by rw [h12]; simp -implicitDefEqProofs (disch := omega) only [go_sem, seval, go_sem], by simp -implicitDefEqProofs (disch := omega) only [go_sem, seval, f10, u10], ?_, .inr ⟨hne, (gk + 1), by rw [hl2]; simp -implicitDefEqProofs (disch := omega) only [go_sem, seval, go_sem], by simp -implicitDefEqProofs (disch := omega) only [go_sem, seval, hX]⟩⟩
          repeat (refine NodeW.scr ?_ (by simp [LOGS, BCS]) _)
          exact hN1
      · exfalso; omega
    · simp -implicitDefEqProofs (disch := omega) only [go_sem, seval, c1, c2, t6, t12]
      refine hQ c _ ⟨hc1, hc2, by simp -implicitDefEqProofs (disch := omega) only [go_sem, seval, t1], by simp -implicitDefEqProofs (disch := omega) only [go_sem, seval, t6], by simp -implicitDefEqProofs (disch := omega) only [go_sem, seval, t8], by simp -implicitDefEqProofs (disch := omega) only [go_sem, seval, t9], by simp -implicitDefEqProofs (disch := omega) only [go_sem, seval, t10], by simp -implicitDefEqProofs (disch := omega) only [go_sem, seval, t12], f10.trans u10, hN1, ?_⟩
      simp -implicitDefEqProofs (disch := omega) only [go_sem, seval, go_sem]
      rcases hK with ⟨h1, g0, h2, h3⟩ | ⟨h1, gk, h2, h3⟩
      · exact .inl ⟨h1, g0, h2, f98.trans h3⟩
      · exact .inr ⟨h1, gk, h2, f128.trans h3⟩
  · simp -implicitDefEqProofs (disch := omega) only [go_sem, seval, c1]
    exact hQ c _ ⟨hc1, hc2, by simp -implicitDefEqProofs (disch := omega) only [go_sem, seval, t1], by simp -implicitDefEqProofs (disch := omega) only [go_sem, seval, t6], by simp -implicitDefEqProofs (disch := omega) only [go_sem, seval, t8], by simp -implicitDefEqProofs (disch := omega) only [go_sem, seval, t9], by simp -implicitDefEqProofs (disch := omega) only [go_sem, seval, t10], by simp -implicitDefEqProofs (disch := omega) only [go_sem, seval, t12], u10, hN, by simp -implicitDefEqProofs (disch := omega) only [go_sem, seval, go_sem]; exact hK⟩
end Go.Vm.YtholgdogohmdbaaW
/- (seval) Raft: a replica that gets whatever messages: the law. -/
namespace Go.Vm.YtholgdogohmdbaaW
open Go.Proofs
variable {σ : Store} {g : Nat}
attribute [-go_sem] callr10 callr8 callr7
theorem KeptAt.same {σ' : Store} {v : V} {l : List Ent} (h : KeptAt σ v l) (hf : σ' 8256 = σ 8256) (hf2 : σ' 6336 = σ 6336) : KeptAt σ' v l := by
  rcases h with ⟨h1, gk, h2, h3⟩ | ⟨h1, gk, h2, h3⟩
  · exact .inl ⟨h1, gk, h2, hf2.trans h3⟩
  · exact .inr ⟨h1, gk, h2, hf.trans h3⟩
def wL6 (g : Nat) (d : Nd) (bc lv : V) (t0 : Nat → V) (B : Int) (v : V) (L : List Ent) (k : Nat) (s : St) : Prop := k ≤ L.length ∧ s.t 1 = t0 1 ∧ s.t 6 = .ptr 4608 g 0 ∧ s.t 8 = t0 8 ∧ s.t 9 = t0 9 ∧ s.t 11 = v ∧ s.t 15 = .int .i64 B ∧ s.t 16 = .int .i64 (k : Int) ∧ NodeW s.σ g d bc lv ∧ KeptAt s.σ v L
theorem check_loop (g : Nat) (d : Nd) (bc lv : V) (t0 : Nat → V) (B : Int) (v : V) (L : List Ent) (hF : FitT d) (hl : d.l.length ≤ 900000) (hB : 0 ≤ B ∧ B ≤ 4294967296) (hL : L.length ≤ 59)
    (hkp : ∀ k : Nat, k < L.length → d.bi < B + 1 + k → B + 1 + k ≤ d.commit → entW d (B + 1 + k) = gt L k) (Q : Ex → St → Prop) (hQ : ∀ s, wL6 g d bc lv t0 B v L L.length s → Q (.exit 6) s) (k : Nat) (s : St) (hS : wL6 g d bc lv t0 B v L k s) : wpA (tabW fns) lp3_3 (nextQ (wL6 g d bc lv t0 B v L) (fun k => L.length - k) k Q) s := by
  obtain ⟨t, σ⟩ := s
  obtain ⟨hk, t1, t6, t8, t9, t11, t15, t16, hN, hK⟩ := id hS
  simp only at hk t1 t6 t8 t9 t11 t15 t16 hN hK
  by_cases hc : k < L.length
  · rcases id hK with ⟨rfl, _⟩ | ⟨hne, gk, rfl, u128⟩
    · simp at hc
    have hrl := elen L
    have hrow := erow L k hc
    simp -implicitDefEqProofs (disch := omega) only [go_sem, seval, lp3_3, t6, t11, t15, t16, hc]
    have hle : ∀ j, j ∈ ([] : List Nat) → True := fun _ _ => trivial
    refine contC_exv (entry_call hN hF (by omega) _ ⟨by omega, by omega⟩ _) ?_
    rintro w σ2 hE
    unfold EntQ at hE
    rcases hE with ⟨i1, i2, i3, hq⟩ | ⟨i1, i2, i3, hq⟩ | ⟨i1, hq⟩
    · obtain ⟨rfl, rfl⟩ := Prod.mk.inj hq
      have hen := hF.ok _ (entW_in (d := d) (i := B + 1 + (k : Int)) ⟨i1, by have := hF.cm; omega⟩)
      obtain ⟨r, hr⟩ := said_ok _ hen
      have hgt := hkp k hc i1 i2
      rw [← hgt] at hrow
      generalize entW d (B + 1 + (k : Int)) = e at *
      obtain ⟨et, es, ec, ek, em⟩ := e
      obtain ⟨k1, k2, k3, k4⟩ := hen
      simp only at i3 k1 k2 k3 k4
      subst i3
      obtain rfl := k2 rfl
      simp -implicitDefEqProofs (disch := omega) only [go_sem, seval, Ent.v, List.length_nil, List.map_nil] at hr hrow
      simp -implicitDefEqProofs (disch := omega) only [go_sem, seval, go_sem]
      refine wp_draw_E ?_
      simp -implicitDefEqProofs (disch := omega) only [go_sem, seval, t11, t16, u128, hrow, hr]
      refine ⟨k + 1, by omega, by omega, by simp -implicitDefEqProofs (disch := omega) only [go_sem, seval, t1], by simp -implicitDefEqProofs (disch := omega) only [go_sem, seval, t6], by simp -implicitDefEqProofs (disch := omega) only [go_sem, seval, t8], by simp -implicitDefEqProofs (disch := omega) only [go_sem, seval, t9], by simp -implicitDefEqProofs (disch := omega) only [go_sem, seval, t11], by simp -implicitDefEqProofs (disch := omega) only [go_sem, seval, t15], by simp -implicitDefEqProofs (disch := omega) only [go_sem, seval, go_sem], ?_, hK.same (by simp -implicitDefEqProofs (disch := omega) only [go_sem, seval, go_sem]) (by simp -implicitDefEqProofs (disch := omega) only [go_sem, seval, go_sem])⟩
      repeat (refine NodeW.scr ?_ (by simp [LOGS, BCS]) _)
      exact hN
    · obtain ⟨rfl, rfl⟩ := Prod.mk.inj hq
      have hen := hF.ok _ (entW_in (d := d) (i := B + 1 + (k : Int)) ⟨i1, by have := hF.cm; omega⟩)
      obtain ⟨r, hr⟩ := said_ok _ hen
      have hgt := hkp k hc i1 i2
      rw [← hgt] at hrow
      generalize entW d (B + 1 + (k : Int)) = e at *
      obtain ⟨et, es, ec, ek, em⟩ := e
      obtain ⟨k1, k2, k3, k4⟩ := hen
      simp only at i3 k1 k2 k3 k4
      subst i3
      have r7 := iV_ro 6 em
      have r6 := iV_ro 5 em
      have r5 := iV_ro 4 em
      simp -implicitDefEqProofs (disch := omega) only [go_sem, seval, Ent.v] at hr hrow
      simp -implicitDefEqProofs (disch := omega) only [go_sem, seval, r7, r6, r5]
      refine wp_draw_E ?_
      simp -implicitDefEqProofs (disch := omega) only [go_sem, seval, t11, t16, u128, hrow, hr, r7, r6, r5, List.length_map]
      refine ⟨k + 1, by omega, by omega, by simp -implicitDefEqProofs (disch := omega) only [go_sem, seval, t1], by simp -implicitDefEqProofs (disch := omega) only [go_sem, seval, t6], by simp -implicitDefEqProofs (disch := omega) only [go_sem, seval, t8], by simp -implicitDefEqProofs (disch := omega) only [go_sem, seval, t9], by simp -implicitDefEqProofs (disch := omega) only [go_sem, seval, t11], by simp -implicitDefEqProofs (disch := omega) only [go_sem, seval, t15], by simp -implicitDefEqProofs (disch := omega) only [go_sem, seval, go_sem], ?_, hK.same (by simp -implicitDefEqProofs (disch := omega) only [go_sem, seval, go_sem]) (by simp -implicitDefEqProofs (disch := omega) only [go_sem, seval, go_sem])⟩
      repeat (refine NodeW.scr ?_ (by simp [LOGS, BCS]) _)
      exact hN
    · obtain ⟨rfl, rfl⟩ := Prod.mk.inj hq
      simp -implicitDefEqProofs (disch := omega) only [go_sem, seval, go_sem]
      refine wp_draw_E ?_
      simp -implicitDefEqProofs (disch := omega) only [go_sem, seval, t11, t16]
      refine ⟨k + 1, by omega, by omega, by simp -implicitDefEqProofs (disch := omega) only [go_sem, seval, t1], by simp -implicitDefEqProofs (disch := omega) only [go_sem, seval, t6], by simp -implicitDefEqProofs (disch := omega) only [go_sem, seval, t8], by simp -implicitDefEqProofs (disch := omega) only [go_sem, seval, t9], by simp -implicitDefEqProofs (disch := omega) only [go_sem, seval, t11], by simp -implicitDefEqProofs (disch := omega) only [go_sem, seval, t15], by simp -implicitDefEqProofs (disch := omega) only [go_sem, seval, go_sem], ?_, hK.same (by simp -implicitDefEqProofs (disch := omega) only [go_sem, seval, go_sem]) (by simp -implicitDefEqProofs (disch := omega) only [go_sem, seval, go_sem])⟩
      repeat (refine NodeW.scr ?_ (by simp [LOGS, BCS]) _)
      exact hN
  · obtain rfl : k = L.length := by omega
    rcases id hK with ⟨rfl, g0, rfl, u0⟩ | ⟨hne, gk, rfl, u128⟩
    · simp -implicitDefEqProofs (disch := omega) only [go_sem, seval, lp3_3, t11, t16, List.length_nil]
      exact hQ _ ⟨Nat.le_refl _, by simp -implicitDefEqProofs (disch := omega) only [go_sem, seval, t1], by simp -implicitDefEqProofs (disch := omega) only [go_sem, seval, t6], by simp -implicitDefEqProofs (disch := omega) only [go_sem, seval, t8], by simp -implicitDefEqProofs (disch := omega) only [go_sem, seval, t9], by simp -implicitDefEqProofs (disch := omega) only [go_sem, seval, t11], by simp -implicitDefEqProofs (disch := omega) only [go_sem, seval, t15], by simp -implicitDefEqProofs (disch := omega) only [go_sem, seval, t16], hN, hK⟩
    · simp -implicitDefEqProofs (disch := omega) only [go_sem, seval, lp3_3, t11, t16]
      exact hQ _ ⟨Nat.le_refl _, by simp -implicitDefEqProofs (disch := omega) only [go_sem, seval, t1], by simp -implicitDefEqProofs (disch := omega) only [go_sem, seval, t6], by simp -implicitDefEqProofs (disch := omega) only [go_sem, seval, t8], by simp -implicitDefEqProofs (disch := omega) only [go_sem, seval, t9], by simp -implicitDefEqProofs (disch := omega) only [go_sem, seval, t11], by simp -implicitDefEqProofs (disch := omega) only [go_sem, seval, t15], by simp -implicitDefEqProofs (disch := omega) only [go_sem, seval, t16], hN, hK⟩
end Go.Vm.YtholgdogohmdbaaW
/- (seval) Raft: a replica that gets whatever messages: the law. -/
namespace Go.Vm.YtholgdogohmdbaaW
open Go.Proofs
variable {σ : Store} {g : Nat}
attribute [-go_sem] callr10 callr8 callr7
theorem wild_round (g : Nat) (km : SK) (ml : List WM) (hm : ∀ m ∈ ml, FitI m) (hlen : ml.length ≤ 1000000000000) (Q : Ex → St → Prop) (hQ : ∀ s, Q (.exit 2) s) (x : Nat × Nd × V × V) (s : St) (hS : wL2 g km ml x s) : wpA (tabW fns) lp3_1 (nextQ (wL2 g km ml) (fun x => ml.length - x.1) x Q) s := by
  obtain ⟨i, d, bc, lv⟩ := x
  obtain ⟨t, σ⟩ := s
  obtain ⟨hi1, hi2, t1, t6, t8, t9, hN, hF, hl, hsc, hhd⟩ := id hS
  simp only at hi1 hi2 t1 t6 t8 t9 hN hF hl hsc hhd
  have hml := mlen ml
  by_cases c1 : i < ml.length
  rotate_left
  · simp -implicitDefEqProofs (disch := omega) only [go_sem, seval, lp3_1, t1, t9, c1]
    exact hQ _
  by_cases c2 : (i : Int) < 60
  rotate_left
  · simp -implicitDefEqProofs (disch := omega) only [go_sem, seval, lp3_1, t1, t9, c1, c2]
    exact hQ _
  have hrow := mrow ml i c1
  have hmi := hm (gt ml i) (by rw [gt_eq c1]; exact List.getElem_mem c1)
  generalize gt ml i = m at *
  have hes := elen m.es
  simp -implicitDefEqProofs (disch := omega) only [go_sem, seval, msV, WM.m, Msg.v] at hrow
  simp -implicitDefEqProofs (disch := omega) only [go_sem, seval, lp3_1, t1, t6, t9, c1, c2, hrow]
  have hbi := hF.bi
  have hcm := hF.cm
  have hN10 := NodeW.scr (k := 704) hN (by simp [LOGS, BCS])
  have key := fun σ1 (h : NodeW σ1 g d bc lv) => Hard_r h hF.ok (by omega)
  refine contC_exv (key _ ?_) ?_
  · refine NodeW.scr ?_ (by simp [LOGS, BCS]) _
    exact hN10 _
  rintro v σ1 ⟨⟨xa, xb, xc, xe, xx, xy, rfl⟩, hN1, hf1⟩
  simp only at hN1 hf1
  have f10 := hf1 704 (by simp)
  have f98 := hf1 6336 (by simp)
  simp -implicitDefEqProofs (disch := omega) only [go_sem, seval, go_sem] at f10
  simp -implicitDefEqProofs (disch := omega) only [go_sem, seval, go_sem] at f98
  simp -implicitDefEqProofs (disch := omega) only [go_sem, seval, go_sem]
  have hmk : m.mk' = m.mk' := rfl
  refine wp_loopS (wL4 g ((σ 704).gen + 1) d bc lv t (msV { m with t := 1 })) (fun c => 60 - c) 0 ⟨by omega, by omega, by simp -implicitDefEqProofs (disch := omega) only [go_sem, seval, go_sem], by simp -implicitDefEqProofs (disch := omega) only [go_sem, seval, t6], by simp -implicitDefEqProofs (disch := omega) only [go_sem, seval, go_sem], by simp -implicitDefEqProofs (disch := omega) only [go_sem, seval, go_sem], by simp -implicitDefEqProofs (disch := omega) only [go_sem, seval, go_sem], by rw [show d.bi + 1 + ((0 : Nat) : Int) = d.bi + 1 by omega]; simp -implicitDefEqProofs (disch := omega) only [go_sem, seval, go_sem], by simp -implicitDefEqProofs (disch := omega) only [go_sem, seval, f10, msV, WM.m, Msg.v], hN1, by simp -implicitDefEqProofs (disch := omega) only [go_sem, seval, go_sem]; exact .inl ⟨rfl, _, rfl, f98⟩⟩ (fun c s h => kept_loop g _ d bc lv t _ hF (by omega) _ ?_ c s h)
  rintro c ⟨tt, σ2⟩ ⟨hc1, hc2, u1, u6, u8, u9, u10, u12, w10, hN2, hK⟩
  simp only at hc1 hc2 u1 u6 u8 u9 u10 u12 w10 hN2 hK
  simp -implicitDefEqProofs (disch := omega) only [go_sem, seval, msV, WM.m, Msg.v] at w10
  simp -implicitDefEqProofs (disch := omega) only [go_sem, seval, u6]
  refine contC_exv (Hard_r hN2 hF.ok (by omega)) ?_
  rintro v σ3 ⟨⟨ya, yb, yc, ye, yx, yy, rfl⟩, hN3, hf3⟩
  simp only at hN3 hf3
  have g10 := (hf3 704 (by simp)).trans w10
  have hK3 := hK.same (hf3 8256 (by simp)) (hf3 6336 (by simp))
  have hv : ({ m with t := 1 } : WM).m.v = [.int .i64 m.k, .int .i64 m.f, .int .i64 1, .int .i64 m.term, .int .i64 m.ix, .int .i64 m.lt, .int .i64 m.cm, .bool m.y, .sl m.ek m.es.length (rows Ent.v m.es), .int .i64 m.off, .str m.pc, .bool m.d, .sl m.mk' m.mem.length (m.mem.map iV)] := rfl
  have key2 := fun σ1 (h : NodeW σ1 g d bc lv) => Step_r h hF (by omega) { m with t := 1 } ⟨hmi.ok, hmi.ml, hmi.mb⟩
  rw [hv] at key2
  simp -implicitDefEqProofs (disch := omega) only [go_sem, seval, u6, u10, g10]
  refine contC_exv (key2 _ hN3) ?_
  rintro w σ4 ⟨d', bc', lv', hN4, hF4, hR, hf4⟩
  simp only at hN4 hf4
  have hK4 := hK3.same (hf4 8256 (by simp) (by simp) (hN3.ids (by simp [LOGS]))) (hf4 6336 (by simp) (by simp) (hN3.ids (by simp [LOGS])))
  have cc := fun base => commit_call hN4 base
  rw [t8] at u8
  rw [t1] at u1
  rw [t9] at u9
  have hrc := hR.cm
  have hrl := hR.ln
  have hrs := hR.sc
  have hrh := hR.hd
  have n8 : ¬ d'.commit < d.commit := by omega
  simp -implicitDefEqProofs (disch := omega) only [go_sem, seval, u6, u8, cc, n8]
  have hcl : (d.l.take c).length = c := by rw [List.length_take]; omega
  refine wp_loopS (wL6 g d' bc' lv' (upd tt 8 (.int .i64 d'.commit)) d.bi (tt 11) (d.l.take c)) (fun k => (d.l.take c).length - k) 0 ⟨by omega, by simp -implicitDefEqProofs (disch := omega) only [go_sem, seval, go_sem], by simp -implicitDefEqProofs (disch := omega) only [go_sem, seval, u6], by simp -implicitDefEqProofs (disch := omega) only [go_sem, seval, go_sem], by simp -implicitDefEqProofs (disch := omega) only [go_sem, seval, go_sem], by simp -implicitDefEqProofs (disch := omega) only [go_sem, seval, go_sem], by simp -implicitDefEqProofs (disch := omega) only [go_sem, seval, go_sem], by simp -implicitDefEqProofs (disch := omega) only [go_sem, seval, go_sem], hN4, hK4⟩ (fun k s h => check_loop g d' bc' lv' _ d.bi _ _ hF4 (by omega) (by omega) (by omega) ?_ _ ?_ k s h)
  · intro k hk h1 h2
    rw [hcl] at hk
    rw [hR.kp _ h1 (by omega)]
    unfold entW
    rw [show (d.bi + 1 + (k : Int) - d.bi - 1).toNat = k by omega, gt_eq (by omega), gt_eq (by omega)]
    simp
  rintro ⟨t5, σ5⟩ ⟨_, v1, v6, v8, v9, _, _, _, hN5, _⟩
  simp only at v1 v6 v8 v9 hN5
  simp -implicitDefEqProofs (disch := omega) only [go_sem, seval, u1, u9] at v1
  simp -implicitDefEqProofs (disch := omega) only [go_sem, seval, u1, u9] at v8
  simp -implicitDefEqProofs (disch := omega) only [go_sem, seval, u1, u9] at v9
  have htm : Int.tmod (i : Int) 7 = (i : Int) % 7 := Int.tmod_eq_emod_of_nonneg (by omega)
  by_cases c7 : (i : Int) % 7 = 6
  · simp -implicitDefEqProofs (disch := omega) only [go_sem, seval, v6, v9, htm, c7]
    refine contC_of (Tick_r hN5 hF4 (by omega) (by omega)) ?_
    simp -implicitDefEqProofs (disch := omega) only [go_sem, seval, v9]
    obtain ⟨fa, fb, fc, fe, ff, fk, fo⟩ := hF4
    exact ⟨(i + 1, { d' with since := d'.since + 1, heard := d'.heard + 1 }, bc', lv'), by simp only; omega, by simp only; omega, by simp only; omega, by simp -implicitDefEqProofs (disch := omega) only [go_sem, seval, v1], by simp -implicitDefEqProofs (disch := omega) only [go_sem, seval, v6], by simp -implicitDefEqProofs (disch := omega) only [go_sem, seval, v8], by simp -implicitDefEqProofs (disch := omega) only [go_sem, seval, go_sem], hN5.put rfl, ⟨fa, fb, fc, fe, by simp only; omega, by simp only; omega, fo⟩, by simp only; omega, by simp only; omega, by simp only; omega⟩
  · simp -implicitDefEqProofs (disch := omega) only [go_sem, seval, v6, v9, htm, c7]
    exact ⟨(i + 1, d', bc', lv'), by simp only; omega, by simp only; omega, by simp only; omega, by simp -implicitDefEqProofs (disch := omega) only [go_sem, seval, v1], by simp -implicitDefEqProofs (disch := omega) only [go_sem, seval, v6], by simp -implicitDefEqProofs (disch := omega) only [go_sem, seval, v8], by simp -implicitDefEqProofs (disch := omega) only [go_sem, seval, go_sem], hN5, hF4, by simp only; omega, by simp only; omega, by simp only; omega⟩
end Go.Vm.YtholgdogohmdbaaW
/- (seval) Raft: a replica that gets whatever messages: the law. -/
namespace Go.Vm.YtholgdogohmdbaaW
open Go.Proofs
variable {σ : Store} {g : Nat}
attribute [-go_sem] callr10 callr8 callr7
theorem wild_law (h : HW) (ho : ({ h with l := [] } : HW).ok) (hol : ∀ e ∈ h.l, e.ok) (hll : h.l.length ≤ 140737488355328) (km : SK) (ml : List WM) (hm : ∀ m ∈ ml, FitI m) (hl : ml.length ≤ 1000000000000) : fnA (tabW fns) ([25, 26].map fun _ => Mode.bor) ir3 [.agg h.v, .sl km ml.length (rows msV ml)] (fun p => p = (.bool true, [])) := by
  have aw := awW
  refine fnA_start rfl ?_
  have e : inV [.agg h.v, .sl km ml.length (rows msV ml)] = some ([.agg h.v, .sl km ml.length (rows msV ml)], [], 0) := by simp -implicitDefEqProofs (disch := omega) only [go_sem, seval, HW.v]
  rw [e, startA_some]
  refine wp_cutR (fun s => s.t 1 = .sl km ml.length (rows msV ml) ∧ s.t 2 = .ptr 192 1 0 ∧ s.σ 192 = ⟨1, .rw, false, h.v⟩) ?_ ?_
  · simp -implicitDefEqProofs (disch := omega) only [go_sem, seval, HW.v]
  rintro ⟨t, σ⟩ ⟨t1, t2, u2⟩
  simp only at t1 t2 u2
  have hrl := elen h.l
  refine wp_cutR (wM1 h km ml) ?_ ?_
  · simp -implicitDefEqProofs (disch := omega) only [go_sem, seval, HW.v] at u2
    by_cases c : 20 < (h.l.length : Int)
    · have htk : List.take 80 (rows Ent.v h.l) = rows Ent.v (h.l.take 20) := rows_take h.l 20 (by omega)
      have hln : (h.l.take 20).length = 20 := by rw [List.length_take]; omega
      simp -implicitDefEqProofs (disch := omega) only [go_sem, seval, c, t2, u2, htk]
      exact ⟨h.l.take 20, by omega, fun x hx => hol x (List.mem_of_mem_take hx), by simp -implicitDefEqProofs (disch := omega) only [go_sem, seval, t1], by simp -implicitDefEqProofs (disch := omega) only [go_sem, seval, t2], by simp -implicitDefEqProofs (disch := omega) only [go_sem, seval, HW.v, hln]⟩
    · simp -implicitDefEqProofs (disch := omega) only [go_sem, seval, c, t2, u2]
      exact ⟨h.l, by omega, hol, by simp -implicitDefEqProofs (disch := omega) only [go_sem, seval, t1], by simp -implicitDefEqProofs (disch := omega) only [go_sem, seval, t2], by simp -implicitDefEqProofs (disch := omega) only [go_sem, seval, u2, HW.v]⟩
  rintro ⟨t, σ⟩ ⟨l1, hl1, ho1, t1, t2, u2⟩
  simp only at t1 t2 u2
  have hr1 := elen l1
  have hok1 : ({ h with l := l1 } : HW).ok := ⟨ho.kb, ho.b0, ho.bl, ho1, by simp only; omega⟩
  simp -implicitDefEqProofs (disch := omega) only [go_sem, seval, go_sem]
  refine wp_loopS (wL0 h km ml l1) (fun i => l1.length - i) 0 ⟨by omega, by simp -implicitDefEqProofs (disch := omega) only [go_sem, seval, t1], by simp -implicitDefEqProofs (disch := omega) only [go_sem, seval, t2], by simp -implicitDefEqProofs (disch := omega) only [go_sem, seval, u2], by simp -implicitDefEqProofs (disch := omega) only [go_sem, seval, go_sem]⟩ ?_
  rintro i ⟨t, σ⟩ ⟨hi, t1, t2, u2, t5⟩
  simp only at hi t1 t2 u2 t5
  have u2' := u2
  simp -implicitDefEqProofs (disch := omega) only [go_sem, seval, HW.v] at u2
  simp -implicitDefEqProofs (disch := omega) only [go_sem, seval, lp3_0, t2, t5, u2]
  refine condC_dec (fun hc => ?_) (fun hc => ?_)
  · have hx := erow l1 i hc
    have ht := gterm l1 i hc
    have hcf : gt (rows Ent.v l1) (i * 4 + 2) = .bool (gt l1 i).conf := gconf l1 i hc
    have hmm : gt (rows Ent.v l1) (i * 4 + 3) = .sl (gt l1 i).k (gt l1 i).mem.length ((gt l1 i).mem.map iV) := gmem l1 i hc
    obtain ⟨k1, k2, k3, k4⟩ := ho1 (gt l1 i) (by rw [gt_eq hc]; exact List.getElem_mem hc)
    obtain ⟨mb, hmb⟩ := Memb_ex (gt l1 i).k (gt l1 i).mem (by omega)
    by_cases c1 : (gt l1 i).term < 0
    · simp -implicitDefEqProofs (disch := omega) only [go_sem, seval, t2, t5, u2, hr1, ht, c1, aw]
    · by_cases c2 : 2147483648 ≤ (gt l1 i).term
      · simp -implicitDefEqProofs (disch := omega) only [go_sem, seval, t2, t5, u2, hr1, ht, c1, c2, aw]
      · cases c3 : (gt l1 i).conf
        · rw [c3] at hcf
          simp -implicitDefEqProofs (disch := omega) only [go_sem, seval, t2, t5, u2, hr1, ht, c1, c2, hcf, c3]
          exact ⟨i + 1, by omega, by omega, by simp -implicitDefEqProofs (disch := omega) only [go_sem, seval, t1], by simp -implicitDefEqProofs (disch := omega) only [go_sem, seval, t2], by simp -implicitDefEqProofs (disch := omega) only [go_sem, seval, u2'], by simp -implicitDefEqProofs (disch := omega) only [go_sem, seval, go_sem]⟩
        · rw [c3] at hcf
          cases mb
          · simp -implicitDefEqProofs (disch := omega) only [go_sem, seval, t2, t5, u2, hr1, ht, c1, c2, hcf, c3, hmm, hmb, aw]
          · simp -implicitDefEqProofs (disch := omega) only [go_sem, seval, t2, t5, u2, hr1, ht, c1, c2, hcf, c3, hmm, hmb, aw]
            exact ⟨i + 1, by omega, by omega, by simp -implicitDefEqProofs (disch := omega) only [go_sem, seval, t1], by simp -implicitDefEqProofs (disch := omega) only [go_sem, seval, t2], by simp -implicitDefEqProofs (disch := omega) only [go_sem, seval, u2'], by simp -implicitDefEqProofs (disch := omega) only [go_sem, seval, go_sem]⟩
  · simp -implicitDefEqProofs (disch := omega) only [go_sem, seval, t2, u2]
    by_cases may : ({ h with l := l1 } : HW).may
    rotate_left
    · have nn := New_no _ may
      simp -implicitDefEqProofs (disch := omega) only [go_sem, seval, HW.v] at nn
      simp -implicitDefEqProofs (disch := omega) only [go_sem, seval, callr7, nn, aw]
    have nn := New_ok _ may hok1
    simp -implicitDefEqProofs (disch := omega) only [go_sem, seval, HW.v] at nn
    have key := new_call (σ := σ) { h with l := l1 } may hok1
    simp only at key
    refine contC_exv key ?_
    rintro v σ1 ⟨g, bc, lv, rfl, hN, hfr⟩
    simp only at hN hfr
    have cc := fun base => commit_call hN base
    have hFd := HW.fit may hok1
    have ht1 := t1
    simp -implicitDefEqProofs (disch := omega) only [go_sem, seval, cc]
    refine wp_loopS (wL2 g km ml) (fun x => ml.length - x.1) (0, { h with l := l1 }.d, bc, lv) ⟨by simp, by simp, by simp -implicitDefEqProofs (disch := omega) only [go_sem, seval, t1], by simp -implicitDefEqProofs (disch := omega) only [go_sem, seval, go_sem], by simp -implicitDefEqProofs (disch := omega) only [go_sem, seval, go_sem], by simp -implicitDefEqProofs (disch := omega) only [go_sem, seval, go_sem], hN, hFd, by simp only [HW.d]; omega, by simp [HW.d], by simp [HW.d]⟩ ?_
    rintro ⟨i, d, bc, lv⟩ ⟨t, σ⟩ hS
    exact wild_round g km ml hm hl _ (fun s => by obtain ⟨t2, σ2⟩ := s; simp -implicitDefEqProofs (disch := omega) only [go_sem, seval, aw]) _ _ hS
theorem tHard : tysOf Try.prog 25 = some [3, 3, 3, 3, 9, 22, 23] := by kernel_rfl
theorem tLE : tysOf Try.prog 28 = some [3, 9, 4, 22] := by kernel_rfl
theorem tMsg : tysOf Try.prog 37 = some [3, 3, 3, 3, 3, 3, 3, 4, 23, 3, 9, 4, 22] := by kernel_rfl
theorem uInt : Try.prog.underlying 3 = some (.int .i64) := by kernel_rfl
theorem uBool : Try.prog.underlying 4 = some .bool := by kernel_rfl
theorem uStr : Try.prog.underlying 9 = some .string := by kernel_rfl
theorem uLog : Try.prog.underlying 23 = some (.slice 28) := by kernel_rfl
theorem uInts : Try.prog.underlying 22 = some (.slice 3) := by kernel_rfl
theorem uMsgs : Try.prog.underlying 26 = some (.slice 37) := by kernel_rfl
theorem bInt : Try.prog.bytesOf 3 = 8 := by kernel_rfl
theorem bLE : Try.prog.bytesOf 28 = 56 := by kernel_rfl
theorem bMsg : Try.prog.bytesOf 37 = 144 := by kernel_rfl
theorem fit_ints {d : Nat} {r : List V} (h : Fits Try.prog (d + 2) 22 r) : ∃ (k : SK) (l : List Int), r = [.sl k l.length (l.map iV)] ∧ (k = .nil → l = []) ∧ (k = .nil ∨ k = .ro) ∧ l.length ≤ 17592186044416 := by
  obtain ⟨k, m, rfl, hk, hk2, hb, _⟩ := fits_slice iV (fun _ => True) uInts (fun r hr => by obtain ⟨n, rfl, _⟩ := fits_int uInt hr; exact ⟨n, rfl, trivial⟩) h
  rw [bInt] at hb
  have := reach_lt
  exact ⟨k, m, rfl, hk, hk2, by omega⟩
theorem fit_ent {d : Nat} {r : List V} (h : Fits Try.prog (d + 3) 28 r) : ∃ e : Ent, r = e.v ∧ e.ok := by
  obtain ⟨a1, b1, rfl, h1, a2, b2, rfl, h2, a3, b3, rfl, h3, a4, b4, rfl, h4, rfl⟩ := fits_struct tLE h
  obtain ⟨x1, rfl, _⟩ := fits_int uInt h1
  obtain ⟨x2, rfl, hx2⟩ := fits_str uStr h2
  obtain ⟨x3, rfl⟩ := fits_bool uBool h3
  obtain ⟨k, m, rfl, hk, hk2, hl⟩ := fit_ints h4
  exact ⟨⟨x1, x2, x3, k, m⟩, rfl, hk2, hk, hl, hx2⟩
theorem fit_msg {d : Nat} {vs : List V} (h : Fits Try.prog (d + 5) 37 vs) : ∃ m : WM, vs = msV m ∧ FitI m := by
  obtain ⟨a1, b1, rfl, h1, a2, b2, rfl, h2, a3, b3, rfl, h3, a4, b4, rfl, h4, a5, b5, rfl, h5, a6, b6, rfl, h6, a7, b7, rfl, h7, a8, b8, rfl, h8, a9, b9, rfl, h9, a10, b10, rfl, h10, a11, b11, rfl, h11, a12, b12, rfl, h12, a13, b13, rfl, h13, rfl⟩ := fits_struct tMsg h
  obtain ⟨x1, rfl, _⟩ := fits_int uInt h1
  obtain ⟨x2, rfl, _⟩ := fits_int uInt h2
  obtain ⟨x3, rfl, _⟩ := fits_int uInt h3
  obtain ⟨x4, rfl, _⟩ := fits_int uInt h4
  obtain ⟨x5, rfl, _⟩ := fits_int uInt h5
  obtain ⟨x6, rfl, _⟩ := fits_int uInt h6
  obtain ⟨x7, rfl, _⟩ := fits_int uInt h7
  obtain ⟨x8, rfl⟩ := fits_bool uBool h8
  obtain ⟨k9, l9, rfl, _, _, _, ho9⟩ := fits_slice_rows Ent.v Ent.ok uLog (fun r hr => fit_ent hr) h9
  obtain ⟨x10, rfl, _⟩ := fits_int uInt h10
  obtain ⟨x11, rfl, _⟩ := fits_str uStr h11
  obtain ⟨x12, rfl⟩ := fits_bool uBool h12
  obtain ⟨k13, l13, rfl, hn, hk, hbl⟩ := fit_ints h13
  refine ⟨⟨x1, x2, x3, x4, x5, x6, x7, x8, k9, l9, x10, x11, x12, k13, l13⟩, rfl, ⟨ho9, ?_, hbl⟩⟩
  rcases hk with rfl | rfl
  · exact .inl ⟨rfl, hn rfl⟩
  · exact .inr rfl
theorem raftWild_main (xs : List V) (h : FitsA Try.prog 8 [25, 26] xs) : fnA (tabW fns) ([25, 26].map fun _ => Mode.bor) ir3 xs (fun p => p = (.bool true, [])) := by
  have := reach_lt
  obtain ⟨x, ys, rfl, h1, h⟩ := fitsA_s h
  obtain ⟨y, zs, rfl, h2, h⟩ := fitsA_s h
  obtain rfl := fitsA_0 h
  obtain ⟨v1, rfl, g1⟩ := fit_struct (d := 7) tHard h1
  obtain ⟨a1, b1, rfl, f1, a2, b2, rfl, f2, a3, b3, rfl, f3, a4, b4, rfl, f4, a5, b5, rfl, f5, a6, b6, rfl, f6, a7, b7, rfl, f7, rfl⟩ := g1
  obtain ⟨T0, rfl, _⟩ := fits_int uInt f1
  obtain ⟨vote0, rfl, _⟩ := fits_int uInt f2
  obtain ⟨bi, rfl, _⟩ := fits_int uInt f3
  obtain ⟨bt, rfl, _⟩ := fits_int uInt f4
  obtain ⟨bs, rfl, _⟩ := fits_str uStr f5
  obtain ⟨kb, bl, rfl, hn, hk, hbl⟩ := fit_ints f6
  obtain ⟨kl, l, rfl, _, _, hb, ho⟩ := fits_slice_rows Ent.v Ent.ok uLog (fun r hr => fit_ent hr) f7
  rw [bLE] at hb
  obtain ⟨km, ml, rfl, _, _, hm, hmo⟩ := fit_slice_rows (d := 7) msV FitI uMsgs (fun r hr => fit_msg hr) h2
  rw [bMsg] at hm
  exact wild_law ⟨T0, vote0, bi, bt, bs, kb, bl, kl, l⟩ ⟨hk, hn, hbl, by simp, by simp⟩ ho (by simp only; omega) km ml hmo (by omega)
end Go.Vm.YtholgdogohmdbaaW
