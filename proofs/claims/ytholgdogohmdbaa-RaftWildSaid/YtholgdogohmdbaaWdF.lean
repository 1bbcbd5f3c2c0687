/- (seval) Raft: a replica that gets whatever messages: entries are taken. -/
import Derived.Test.YtholgdogohmdbaaWdE
set_option linter.unusedSectionVars false
set_option linter.unusedSimpArgs false
set_option linter.unusedVariables false
set_option maxHeartbeats 8000000
set_option maxRecDepth 10000
namespace Go.Vm
/-- The store by what is known of it. -/
theorem wpA_gen {tbl : Tbl} {c : IC} {Q : Ex → St → Prop} {t : Nat → V} {σ : Store} (P : Store → Prop) (h : P σ) (k : ∀ σ', P σ' → wpA tbl c Q ⟨t, σ'⟩) : wpA tbl c Q ⟨t, σ⟩ := k σ h
end Go.Vm
namespace Go.Vm.YtholgdogohmdbaaW
open Go.Proofs
variable {σ : Store} {g : Nat}
theorem NodeW.frame {d : Nd} {bc lv : V} {σ' : Store} (h : NodeW σ g d bc lv) (hf : ∀ j ∈ 4608 :: (LOGS ++ BCS), σ' j = σ j) : NodeW σ' g d bc lv := by
  refine ⟨(hf 4608 (by simp)).trans h.at_, ?_, ?_, h.apart⟩
  · rcases h.bcp with h1 | ⟨q, gq, bl, hq, e1, e2, e3⟩
    · exact .inl h1
    · exact .inr ⟨q, gq, bl, hq, e1, (hf q (by simp; exact .inr (.inr hq))).trans e2, e3⟩
  · rcases h.logp with h1 | ⟨q, gq, hq, e1, e2⟩
    · exact .inl h1
    · exact .inr ⟨q, gq, hq, e1, (hf q (by simp; exact .inr (.inl hq))).trans e2⟩
theorem gterm (l : List Ent) (k : Nat) (hk : k < l.length) : gt (rows Ent.v l) (k * 4) = .int .i64 (gt l k).term := by
  have h := erow l k hk
  have := elen l
  have h2 : gt (rows Ent.v l) (k * 4) = gt (List.take 4 (List.drop (k * 4) (rows Ent.v l))) 0 := by
    rw [gt_eq (by omega), gt_eq (by simp; omega)]
    simp
  rw [h2, h]
  rfl
def crN (d : Nd) : Nat := (d.commit - d.bi).toNat
/-- What is fit. -/
structure FitW (d : Nd) : Prop where
  bi : 0 ≤ d.bi ∧ d.bi ≤ 4294967296
  ln : d.l.length ≤ 900000
  cm : d.bi ≤ d.commit ∧ d.commit ≤ d.bi + d.l.length
  ok : ∀ e ∈ d.l, e.ok
structure FitM (m : WM) : Prop where
  ix : 0 ≤ m.ix ∧ m.ix ≤ 2147483647
  en : m.es.length ≤ 16
  ok : ∀ e ∈ m.es, e.ok
def TakQ (σ : Store) (g : Nat) (d : Nd) (bc lv : V) (q : V × Store) : Prop :=
  ∃ (a : Int) (b : Bool) (l' : List Ent) (lv' : V), q.1 = .tup [.int .i64 a, .bool b] ∧ NodeW q.2 g { d with l := l' } bc lv' ∧ (∀ e ∈ l', e.ok) ∧ l'.take (crN d) = d.l.take (crN d) ∧ d.commit ≤ d.bi + l'.length ∧ l'.length ≤ d.l.length + 16 ∧ (b = true → 0 ≤ a ∧ a ≤ d.bi + l'.length) ∧
    ∀ j, j / 1048576 ≠ 44 + 1 → j ≠ 4608 → j ∉ idsOf lv → q.2 j = σ j
/-- The rounds. -/
def takI (σ0 : Store) (g gb : Nat) (d : Nd) (bc lv : V) (m : WM) (ke : SK) (es : List Ent) (A : Int) (k0 : Nat) (x : Nat × List Ent × V) (s : St) : Prop :=
  x.1 ≤ es.length ∧ s.t 0 = .ptr 4608 g 0 ∧ s.t 3 = .ptr 47186176 gb 0 ∧ s.t 7 = .int .i64 A ∧ s.t 68 = .sl ke es.length (rows Ent.v es) ∧ s.t 69 = .int .i64 (es.length : Int) ∧ s.t 70 = .int .i64 (x.1 : Int) ∧
  NodeW s.σ g { d with l := x.2.1 } bc x.2.2 ∧ s.σ 47186176 = ⟨gb, .rw, false, m.m.v⟩ ∧ (∀ e ∈ x.2.1, e.ok) ∧ x.2.1.take (crN d) = d.l.take (crN d) ∧ crN d ≤ x.2.1.length ∧ k0 + x.1 ≤ x.2.1.length ∧ x.2.1.length ≤ max d.l.length (k0 + x.1) ∧ (∀ j ∈ idsOf x.2.2, j / 1048576 ≠ 44 + 1 → j ∈ idsOf lv) ∧
  ∀ j, j / 1048576 ≠ 44 + 1 → j ≠ 4608 → j ∉ idsOf lv → s.σ j = σ0 j
theorem rows_take (l : List Ent) (k : Nat) (hk : k ≤ l.length) : (rows Ent.v l).take (k * 4) = rows Ent.v (l.take k) := by
  have h : rows Ent.v l = rows Ent.v (l.take k) ++ rows Ent.v (l.drop k) := by rw [← rows_append, List.take_append_drop]
  have hl := elen (l.take k)
  rw [List.length_take, Nat.min_eq_left hk] at hl
  rw [h, ← hl, List.take_left]
theorem rows_snoc (l : List Ent) (e : Ent) : rows Ent.v (l ++ [e]) = rows Ent.v l ++ e.v := by rw [rows_append]; simp [rows]
theorem tak_next {σ0 : Store} {gb : Nat} {d : Nd} {bc lv : V} {m : WM} {ke : SK} {es : List Ent} {A : Int} {k0 i : Nat} {l' : List Ent} {lv' : V} {t : Nat → V} (hS : takI σ0 g gb d bc lv m ke es A k0 (i, l', lv') ⟨t, σ⟩) (hi : i < es.length)
    (l'' : List Ent) (lv'' : V) (t' : Nat → V) (σ' : Store) (ht0 : t' 0 = t 0) (ht3 : t' 3 = t 3) (ht7 : t' 7 = t 7) (ht68 : t' 68 = t 68) (ht69 : t' 69 = t 69) (ht70 : t' 70 = .int .i64 ((i : Int) + 1))
    (hat : σ' 4608 = ⟨g, .rw, false, nw { d with l := l'' } bc lv''⟩) (hlog : LogAt σ' lv'' l'') (hbc : ∀ j ∈ BCS, j ∉ idsOf lv' → σ' j = σ j) (hap : ∀ j ∈ idsOf bc, j ∉ idsOf lv'') (hB' : σ' 47186176 = σ 47186176)
    (hok : ∀ e ∈ l'', e.ok) (hpre : l''.take (crN d) = l'.take (crN d)) (hcr : crN d ≤ l''.length) (hlo : k0 + i + 1 ≤ l''.length) (hup : l''.length ≤ max l'.length (k0 + i + 1)) (hid : ∀ j ∈ idsOf lv'', j / 1048576 ≠ 44 + 1 → j ∈ idsOf lv') (hfr : ∀ j, j / 1048576 ≠ 44 + 1 → j ≠ 4608 → j ∉ idsOf lv' → σ' j = σ j) :
    takI σ0 g gb d bc lv m ke es A k0 (i + 1, l'', lv'') ⟨t', σ'⟩ := by
  obtain ⟨hi0, h0, h3, h7, h68, h69, h70, hN, hB, hok0, hpre0, hcr0, hlo0, hup0, hid0, hfr0⟩ := hS
  simp only at hi0 h0 h3 h7 h68 h69 h70 hN hB hok0 hpre0 hcr0 hlo0 hup0 hid0 hfr0
  refine ⟨hi, ht0.trans h0, ht3.trans h3, ht7.trans h7, ht68.trans h68, ht69.trans h69, ?_, ⟨hat, ?_, hlog, hap⟩, hB'.trans hB, hok, hpre.trans hpre0, hcr, by simp only; omega, by simp only; omega, ?_, ?_⟩
  · show t' 70 = _
    rw [ht70]; simp
  · rcases hN.bcp with h1 | ⟨q, gq, bl, hq, e1, e2, e3⟩
    · exact .inl h1
    · refine .inr ⟨q, gq, bl, hq, e1, (hbc q hq ?_).trans e2, e3⟩
      exact hN.apart q (by rw [e1]; simp [idsOf])
  · intro j hj hj2
    exact hid0 j (hid j hj hj2) hj2
  · intro j hj1 hj2 hj3
    exact (hfr j hj1 hj2 (fun h => hj3 (hid0 j h hj1))).trans (hfr0 j hj1 hj2 hj3)
theorem tak_scr {σ0 : Store} {gb : Nat} {d : Nd} {bc lv : V} {m : WM} {ke : SK} {es : List Ent} {A : Int} {k0 : Nat} {x : Nat × List Ent × V} {t : Nat → V} (hS : takI σ0 g gb d bc lv m ke es A k0 x ⟨t, σ⟩) (b : Blk) :
    takI σ0 g gb d bc lv m ke es A k0 x ⟨t, upd σ 47186752 b⟩ := by
  obtain ⟨hi0, h0, h3, h7, h68, h69, h70, hN, hB, hok0, hpre0, hcr0, hlo0, hup0, hid0, hfr0⟩ := hS
  refine ⟨hi0, h0, h3, h7, h68, h69, h70, hN.frame ?_, ?_, hok0, hpre0, hcr0, hlo0, hup0, hid0, ?_⟩
  · intro j hj
    simp only [LOGS, BCS, List.cons_append, List.nil_append, List.mem_cons, List.not_mem_nil, or_false] at hj
    rcases hj with rfl | rfl | rfl | rfl | rfl | rfl | rfl <;> simp -implicitDefEqProofs (disch := omega) only [go_sem, seval, go_sem]
  · simp -implicitDefEqProofs (disch := omega) only [go_sem, seval, go_sem]
    exact hB
  · intro j h1 h2 h3
    simp -implicitDefEqProofs (disch := omega) only [go_sem, seval, go_sem]
    exact hfr0 j h1 h2 h3
theorem tak_loop (σ0 : Store) (gb : Nat) {d : Nd} {bc lv : V} (m : WM) (ke : SK) (es : List Ent) (A : Int) (k0 : Nat) (hA : A = d.bi + k0) (hbi : 0 ≤ d.bi ∧ d.bi ≤ 4294967296) (hln : d.l.length ≤ 900000) (hcm : d.bi ≤ d.commit ∧ d.commit ≤ d.bi + d.l.length)
    (hk0 : k0 ≤ d.l.length) (hes : es.length ≤ 16) (hmok : ∀ e ∈ es, e.ok) (Q : Ex → St → Prop)
    (hdone : ∀ l' lv' s, takI σ0 g gb d bc lv m ke es A k0 (es.length, l', lv') s → Q (.exit 0) s)
    (hret : ∀ x s, takI σ0 g gb d bc lv m ke es A k0 x s → ∀ t', t' 4 = .int .i64 0 → t' 5 = .bool false → Q .ret ⟨t', s.σ⟩) {t : Nat → V} {lv0 : V} (hst0 : takI σ0 g gb d bc lv m ke es A k0 (0, d.l, lv0) ⟨t, σ⟩) : wpA (tabW fns) lp44_0.loop Q ⟨t, σ⟩ := by
  have hen := elen es
  refine wp_loopS (takI σ0 g gb d bc lv m ke es A k0) (fun x => es.length - x.1) (0, d.l, lv0) hst0 ?_
  rintro ⟨i, l', lv'⟩ ⟨t, σ⟩ hS
  obtain ⟨hi, h0, h3, h7, h68, h69, h70, hN, hB, hok, hpre, hcr, hlo, hup, hid, hfr⟩ := id hS
  simp only at hi h0 h3 h7 h68 h69 h70 hN hB hok hpre hcr hlo hup hid hfr
  simp -implicitDefEqProofs (disch := omega) only [go_sem, seval, lp44_0, h69, h70]
  refine condC_dec (fun hc => ?_) (fun hc => ?_)
  · have hr := erow es i hc
    have hem : (gt es i).ok := hmok _ (by rw [gt_eq hc]; exact List.getElem_mem hc)
    have hk : A + (i : Int) - d.bi = ((k0 + i : Nat) : Int) := by omega
    have e := hN.at_
    simp -implicitDefEqProofs (disch := omega) only [go_sem, seval, nw] at e
    have hln' := elen l'
    simp -implicitDefEqProofs (disch := omega) only [go_sem, seval, h0, h3, h7, h68, h70, hr, e, Ent.v, hk]
    have hcl := CloneE_ok (gt es i) hem
    generalize gt es i = ent at *
    obtain ⟨eterm, etxt, econf, ek, emem⟩ := ent
    obtain ⟨ek1, ek2, ek3⟩ := hem
    simp only at ek1 ek2 ek3
    unfold intsC at hcl
    rcases hN.logp with ⟨kl, hkl, rfl, hl0⟩ | ⟨q, gq, hq, rfl, eq⟩
    · simp only at hl0
      subst hl0
      simp only [List.length_nil] at hlo hcr
      obtain ⟨rfl, rfl⟩ : k0 = 0 ∧ i = 0 := by omega
      have c1 : ¬ (((0 + 0 : Nat) : Int) < d.commit - d.bi) := by unfold crN at hcr; omega
      have c0 : ¬ (0 : Int) < d.commit - d.bi := by unfold crN at hcr; omega
      refine wp_draw_E ?_
      simp -implicitDefEqProofs (disch := omega) only [go_sem, seval, e, c1, c0, h0, h3]
      refine wp_draw_E ?_
      simp -implicitDefEqProofs (disch := omega) only [go_sem, seval, e, h0, h3]
      refine wp_draw_E ?_
      have hkr : ¬ kl = .ro := by rcases hkl with rfl | rfl <;> simp
      rcases ek1 with rfl | rfl
      · obtain rfl := ek2 rfl
        simp -implicitDefEqProofs (disch := omega) only [go_sem, seval, Ent.v, List.map_nil, List.length_nil] at hcl
        simp -implicitDefEqProofs (disch := omega) only [go_sem, seval, e, h0, h3, h70, hcl, hkr, List.map_nil, List.length_nil]
        refine ⟨(1, [⟨eterm, etxt, econf, .nil, []⟩], .sli 47196288 ((σ 47196288).gen + 1) 0 1 4), by simp only; omega, ?_⟩
        refine tak_next hS hc _ _ _ _ ?_ ?_ ?_ ?_ ?_ ?_ ?_ ?_ ?_ ?_ ?_ ?_ ?_ ?_ ?_ ?_ ?_ ?_
        · simp -implicitDefEqProofs (disch := omega) only [go_sem, seval, go_sem]
        · simp -implicitDefEqProofs (disch := omega) only [go_sem, seval, go_sem]
        · simp -implicitDefEqProofs (disch := omega) only [go_sem, seval, go_sem]
        · simp -implicitDefEqProofs (disch := omega) only [go_sem, seval, go_sem]
        · simp -implicitDefEqProofs (disch := omega) only [go_sem, seval, go_sem]
        · simp -implicitDefEqProofs (disch := omega) only [go_sem, seval, go_sem]
        · simp -implicitDefEqProofs (disch := omega) only [go_sem, seval, nw, List.length_cons, List.length_nil]
        · refine .inr ⟨47196288, (σ 47196288).gen + 1, by simp [LOGS], ?_, ?_⟩
          · simp
          · simp -implicitDefEqProofs (disch := omega) only [go_sem, seval, rows, Ent.v, List.map_nil, List.length_nil, List.append_nil]
            rfl
        · intro j hj _
          simp only [BCS, List.mem_cons, List.not_mem_nil, or_false] at hj
          rcases hj with rfl | rfl <;> simp -implicitDefEqProofs (disch := omega) only [go_sem, seval, go_sem]
        · intro j hj hj2
          simp only [idsOf, List.mem_singleton] at hj2
          rcases hN.bcp with ⟨_, _, h1⟩ | ⟨q, gq, bl, hq, h1, _⟩
          · rw [h1] at hj; simp [idsOf] at hj
          · rw [h1] at hj; simp only [idsOf, List.mem_singleton] at hj
            rw [hj] at hj2; rw [hj2] at hq; simp [BCS] at hq
        · simp -implicitDefEqProofs (disch := omega) only [go_sem, seval, go_sem]
        · intro x hx
          rcases List.mem_singleton.1 hx with rfl
          exact ⟨by simp, ek2, ek3⟩
        · rw [show crN d = 0 by omega]; simp
        · simp; omega
        · simp
        · simp
        · intro j hj hj2
          simp only [idsOf, List.mem_singleton] at hj; omega
        · intro j hj1 hj2 hj3
          simp -implicitDefEqProofs (disch := omega) only [go_sem, seval, go_sem]
      · have e3 : ¬ SK.ro = SK.nil := by simp
        simp -implicitDefEqProofs (disch := omega) only [go_sem, seval, Ent.v, e3] at hcl
        have r7 := iV_ro 6 emem
        have r6 := iV_ro 5 emem
        have r5 := iV_ro 4 emem
        simp -implicitDefEqProofs (disch := omega) only [go_sem, seval, e, h0, h3, h70, hcl, hkr, r7, r6, r5]
        refine ⟨(1, [⟨eterm, etxt, econf, .ro, emem⟩], .sli 47196288 ((σ 47196288).gen + 1) 0 1 4), by simp only; omega, ?_⟩
        refine tak_next hS hc _ _ _ _ ?_ ?_ ?_ ?_ ?_ ?_ ?_ ?_ ?_ ?_ ?_ ?_ ?_ ?_ ?_ ?_ ?_ ?_
        · simp -implicitDefEqProofs (disch := omega) only [go_sem, seval, go_sem]
        · simp -implicitDefEqProofs (disch := omega) only [go_sem, seval, go_sem]
        · simp -implicitDefEqProofs (disch := omega) only [go_sem, seval, go_sem]
        · simp -implicitDefEqProofs (disch := omega) only [go_sem, seval, go_sem]
        · simp -implicitDefEqProofs (disch := omega) only [go_sem, seval, go_sem]
        · simp -implicitDefEqProofs (disch := omega) only [go_sem, seval, go_sem]
        · simp -implicitDefEqProofs (disch := omega) only [go_sem, seval, nw, List.length_cons, List.length_nil]
        · refine .inr ⟨47196288, (σ 47196288).gen + 1, by simp [LOGS], ?_, ?_⟩
          · simp
          · simp -implicitDefEqProofs (disch := omega) only [go_sem, seval, rows, Ent.v, List.map_nil, List.length_nil, List.append_nil]
            rfl
        · intro j hj _
          simp only [BCS, List.mem_cons, List.not_mem_nil, or_false] at hj
          rcases hj with rfl | rfl <;> simp -implicitDefEqProofs (disch := omega) only [go_sem, seval, go_sem]
        · intro j hj hj2
          simp only [idsOf, List.mem_singleton] at hj2
          rcases hN.bcp with ⟨_, _, h1⟩ | ⟨q, gq, bl, hq, h1, _⟩
          · rw [h1] at hj; simp [idsOf] at hj
          · rw [h1] at hj; simp only [idsOf, List.mem_singleton] at hj
            rw [hj] at hj2; rw [hj2] at hq; simp [BCS] at hq
        · simp -implicitDefEqProofs (disch := omega) only [go_sem, seval, go_sem]
        · intro x hx
          rcases List.mem_singleton.1 hx with rfl
          exact ⟨by simp, ek2, ek3⟩
        · rw [show crN d = 0 by omega]; simp
        · simp; omega
        · simp
        · simp
        · intro j hj hj2
          simp only [idsOf, List.mem_singleton] at hj; omega
        · intro j hj1 hj2 hj3
          simp -implicitDefEqProofs (disch := omega) only [go_sem, seval, go_sem]
    · have n12 := nlog hq (k := 47186752) (by simp [LOGS])
      have n3 := nlog hq (k := 47186176) (by simp [LOGS])
      have n0 := nlog hq (k := 4608) (by simp [LOGS])
      have n159 := nlog hq (k := 47196160) (by simp [LOGS])
      have n160 := nlog hq (k := 47196224) (by simp [LOGS])
      have n12' : (47186752 == q) = false := by rw [Bool.beq_comm]; exact n12
      have n3' : (47186176 == q) = false := by rw [Bool.beq_comm]; exact n3
      have n159' : (47196160 == q) = false := by rw [Bool.beq_comm]; exact n159
      have n160' : (47196224 == q) = false := by rw [Bool.beq_comm]; exact n160
      have n0' : (4608 == q) = false := beq_no fun e => by rw [← e] at hq; simp [LOGS] at hq
      refine wp_draw_E ?_
      by_cases c1 : ((k0 + i : Nat) : Int) < d.commit - d.bi
      · have hlt : k0 + i < l'.length := by unfold crN at hcr; omega
        have hr2 := gterm l' (k0 + i) hlt
        by_cases c2 : (gt l' (k0 + i)).term = eterm
        · simp -implicitDefEqProofs (disch := omega) only [go_sem, seval, e, c1, h0, h3, eq, n12, n3, n0, hr2, c2]
          refine wp_draw_E ?_
          simp -implicitDefEqProofs (disch := omega) only [go_sem, seval, e, h0, h3, h70, eq, n12, n3, n0, hr2, c2, hlt]
          refine ⟨(i + 1, l', .sli q gq 0 l'.length 4), by simp only; omega, ?_⟩
          refine tak_next hS hc _ _ _ _ ?_ ?_ ?_ ?_ ?_ ?_ ?_ (.inr ⟨q, gq, hq, rfl, ?_⟩) ?_ hN.apart ?_ hok rfl hcr (by omega) (by omega) (fun _ h _ => h) ?_
          · simp -implicitDefEqProofs (disch := omega) only [go_sem, seval, go_sem]
          · simp -implicitDefEqProofs (disch := omega) only [go_sem, seval, go_sem]
          · simp -implicitDefEqProofs (disch := omega) only [go_sem, seval, go_sem]
          · simp -implicitDefEqProofs (disch := omega) only [go_sem, seval, go_sem]
          · simp -implicitDefEqProofs (disch := omega) only [go_sem, seval, go_sem]
          · simp -implicitDefEqProofs (disch := omega) only [go_sem, seval, go_sem]
          · simp -implicitDefEqProofs (disch := omega) only [go_sem, seval, nw, e]
          · simp -implicitDefEqProofs (disch := omega) only [go_sem, seval, n12, eq]
          · intro j hj _
            simp only [BCS, List.mem_cons, List.not_mem_nil, or_false] at hj
            rcases hj with rfl | rfl <;> simp -implicitDefEqProofs (disch := omega) only [go_sem, seval, go_sem]
          · simp -implicitDefEqProofs (disch := omega) only [go_sem, seval, go_sem]
          · intro j hj1 hj2 hj3
            simp -implicitDefEqProofs (disch := omega) only [go_sem, seval, go_sem]
        · simp -implicitDefEqProofs (disch := omega) only [go_sem, seval, e, c1, h0, h3, eq, n12, n3, n0, hr2, c2]
          exact hret _ _ (tak_scr hS _) _ (by simp -implicitDefEqProofs (disch := omega) only [go_sem, seval, go_sem]) (by simp -implicitDefEqProofs (disch := omega) only [go_sem, seval, go_sem])
      · simp -implicitDefEqProofs (disch := omega) only [go_sem, seval, e, c1, h0, h3, eq, n12, n3, n0]
        refine wp_draw_E ?_
        by_cases hlt : k0 + i < l'.length
        · have hr2 := gterm l' (k0 + i) hlt
          by_cases c2 : (gt l' (k0 + i)).term = eterm
          · simp -implicitDefEqProofs (disch := omega) only [go_sem, seval, e, h0, h3, h70, eq, n12, n3, n0, hr2, c2, hlt]
            refine ⟨(i + 1, l', .sli q gq 0 l'.length 4), by simp only; omega, ?_⟩
            refine tak_next hS hc _ _ _ _ ?_ ?_ ?_ ?_ ?_ ?_ ?_ (.inr ⟨q, gq, hq, rfl, ?_⟩) ?_ hN.apart ?_ hok rfl hcr (by omega) (by omega) (fun _ h _ => h) ?_
            · simp -implicitDefEqProofs (disch := omega) only [go_sem, seval, go_sem]
            · simp -implicitDefEqProofs (disch := omega) only [go_sem, seval, go_sem]
            · simp -implicitDefEqProofs (disch := omega) only [go_sem, seval, go_sem]
            · simp -implicitDefEqProofs (disch := omega) only [go_sem, seval, go_sem]
            · simp -implicitDefEqProofs (disch := omega) only [go_sem, seval, go_sem]
            · simp -implicitDefEqProofs (disch := omega) only [go_sem, seval, go_sem]
            · simp -implicitDefEqProofs (disch := omega) only [go_sem, seval, nw, e]
            · simp -implicitDefEqProofs (disch := omega) only [go_sem, seval, n12, eq]
            · intro j hj _
              simp only [BCS, List.mem_cons, List.not_mem_nil, or_false] at hj
              rcases hj with rfl | rfl <;> simp -implicitDefEqProofs (disch := omega) only [go_sem, seval, go_sem]
            · simp -implicitDefEqProofs (disch := omega) only [go_sem, seval, go_sem]
            · intro j hj1 hj2 hj3
              simp -implicitDefEqProofs (disch := omega) only [go_sem, seval, go_sem]
          · by_cases c3 : k0 + i = 0
            · rw [c3] at hr2 hlt c2
              rw [Nat.zero_mul] at hr2
              simp -implicitDefEqProofs (disch := omega) only [go_sem, seval, e, h0, h3, eq, n12, n3, n0, n0', hr2, c2, hlt, c3]
              refine wp_draw_E ?_
              have e3 : ¬ SK.ro = SK.nil := by simp
              rcases ek1 with rfl | rfl
              · obtain rfl := ek2 rfl
                simp -implicitDefEqProofs (disch := omega) only [go_sem, seval, Ent.v, List.map_nil, List.length_nil] at hcl
                simp -implicitDefEqProofs (disch := omega) only [go_sem, seval, e, h0, h3, h70, hcl, List.map_nil, List.length_nil, eq, n12, n3, n0, n0', n159, n160, n12', n3', n159', n160']
                refine ⟨(i + 1, [⟨eterm, etxt, econf, .nil, []⟩], .sli 47196288 ((σ 47196288).gen + 1) 0 1 4), by simp only; omega, ?_⟩
                refine tak_next hS hc _ _ _ _ ?_ ?_ ?_ ?_ ?_ ?_ ?_ ?_ ?_ ?_ ?_ ?_ ?_ ?_ ?_ ?_ ?_ ?_
                · simp -implicitDefEqProofs (disch := omega) only [go_sem, seval, go_sem]
                · simp -implicitDefEqProofs (disch := omega) only [go_sem, seval, go_sem]
                · simp -implicitDefEqProofs (disch := omega) only [go_sem, seval, go_sem]
                · simp -implicitDefEqProofs (disch := omega) only [go_sem, seval, go_sem]
                · simp -implicitDefEqProofs (disch := omega) only [go_sem, seval, go_sem]
                · simp -implicitDefEqProofs (disch := omega) only [go_sem, seval, go_sem]
                · simp -implicitDefEqProofs (disch := omega) only [go_sem, seval, nw, List.length_cons, List.length_nil]
                · refine .inr ⟨47196288, ((σ 47196288).gen + 1), by simp [LOGS], ?_, ?_⟩
                  · simp
                  · rw [show rows Ent.v [⟨eterm, etxt, econf, .nil, []⟩] = Ent.v ⟨eterm, etxt, econf, .nil, []⟩ from List.append_nil _]
                    simp -implicitDefEqProofs (disch := omega) only [go_sem, seval, Ent.v, List.map_nil, List.length_nil, List.append_nil]
                · intro j hj hj2
                  have hjq : (j == q) = false := beq_no fun h => hj2 (by simp [idsOf, h])
                  simp only [BCS, List.mem_cons, List.not_mem_nil, or_false] at hj
                  rcases hj with rfl | rfl <;> simp -implicitDefEqProofs (disch := omega) only [go_sem, seval, hjq]
                · intro j hj hj2
                  simp only [idsOf, List.mem_singleton] at hj2
                  rcases hN.bcp with ⟨_, _, h1⟩ | ⟨r, gr, bl, hr, h1, _⟩
                  · rw [h1] at hj; simp [idsOf] at hj
                  · rw [h1] at hj; simp only [idsOf, List.mem_singleton] at hj
                    rw [hj] at hj2; rw [hj2] at hr; simp [BCS] at hr
                · simp -implicitDefEqProofs (disch := omega) only [go_sem, seval, n3']
                · intro x hx
                  rcases List.mem_singleton.1 hx with rfl
                  exact ⟨by simp, ek2, ek3⟩
                · rw [show crN d = 0 by unfold crN; omega]; simp
                · simp; unfold crN; omega
                · simp; omega
                · simp; omega
                · intro j hj hj2
                  simp only [idsOf, List.mem_singleton] at hj; omega
                · intro j hj1 hj2 hj3
                  have hjq : (j == q) = false := beq_no fun h => hj3 (by simp [idsOf, h])
                  simp -implicitDefEqProofs (disch := omega) only [go_sem, seval, hjq]
              · simp -implicitDefEqProofs (disch := omega) only [go_sem, seval, Ent.v, e3] at hcl
                have r7 := iV_ro 6 emem
                have r6 := iV_ro 5 emem
                have r5 := iV_ro 4 emem
                simp -implicitDefEqProofs (disch := omega) only [go_sem, seval, e, h0, h3, h70, hcl, r7, r6, r5, eq, n12, n3, n0, n0', n159, n160, n12', n3', n159', n160']
                refine ⟨(i + 1, [⟨eterm, etxt, econf, .ro, emem⟩], .sli 47196288 ((σ 47196288).gen + 1) 0 1 4), by simp only; omega, ?_⟩
                refine tak_next hS hc _ _ _ _ ?_ ?_ ?_ ?_ ?_ ?_ ?_ ?_ ?_ ?_ ?_ ?_ ?_ ?_ ?_ ?_ ?_ ?_
                · simp -implicitDefEqProofs (disch := omega) only [go_sem, seval, go_sem]
                · simp -implicitDefEqProofs (disch := omega) only [go_sem, seval, go_sem]
                · simp -implicitDefEqProofs (disch := omega) only [go_sem, seval, go_sem]
                · simp -implicitDefEqProofs (disch := omega) only [go_sem, seval, go_sem]
                · simp -implicitDefEqProofs (disch := omega) only [go_sem, seval, go_sem]
                · simp -implicitDefEqProofs (disch := omega) only [go_sem, seval, go_sem]
                · simp -implicitDefEqProofs (disch := omega) only [go_sem, seval, nw, List.length_cons, List.length_nil]
                · refine .inr ⟨47196288, ((σ 47196288).gen + 1), by simp [LOGS], ?_, ?_⟩
                  · simp
                  · rw [show rows Ent.v [⟨eterm, etxt, econf, .ro, emem⟩] = Ent.v ⟨eterm, etxt, econf, .ro, emem⟩ from List.append_nil _]
                    simp -implicitDefEqProofs (disch := omega) only [go_sem, seval, Ent.v, List.map_nil, List.length_nil, List.append_nil]
                · intro j hj hj2
                  have hjq : (j == q) = false := beq_no fun h => hj2 (by simp [idsOf, h])
                  simp only [BCS, List.mem_cons, List.not_mem_nil, or_false] at hj
                  rcases hj with rfl | rfl <;> simp -implicitDefEqProofs (disch := omega) only [go_sem, seval, hjq]
                · intro j hj hj2
                  simp only [idsOf, List.mem_singleton] at hj2
                  rcases hN.bcp with ⟨_, _, h1⟩ | ⟨r, gr, bl, hr, h1, _⟩
                  · rw [h1] at hj; simp [idsOf] at hj
                  · rw [h1] at hj; simp only [idsOf, List.mem_singleton] at hj
                    rw [hj] at hj2; rw [hj2] at hr; simp [BCS] at hr
                · simp -implicitDefEqProofs (disch := omega) only [go_sem, seval, n3']
                · intro x hx
                  rcases List.mem_singleton.1 hx with rfl
                  exact ⟨by simp, ek2, ek3⟩
                · rw [show crN d = 0 by unfold crN; omega]; simp
                · simp; unfold crN; omega
                · simp; omega
                · simp; omega
                · intro j hj hj2
                  simp only [idsOf, List.mem_singleton] at hj; omega
                · intro j hj1 hj2 hj3
                  have hjq : (j == q) = false := beq_no fun h => hj3 (by simp [idsOf, h])
                  simp -implicitDefEqProofs (disch := omega) only [go_sem, seval, hjq]
            · have hkp : 0 < k0 + i := by omega
              simp -implicitDefEqProofs (disch := omega) only [go_sem, seval, e, h0, h3, eq, n12, n3, n0, n0', hr2, c2, hlt, c3]
              refine wp_draw_E ?_
              have e3 : ¬ SK.ro = SK.nil := by simp
              rcases ek1 with rfl | rfl
              · obtain rfl := ek2 rfl
                simp -implicitDefEqProofs (disch := omega) only [go_sem, seval, Ent.v, List.map_nil, List.length_nil] at hcl
                simp -implicitDefEqProofs (disch := omega) only [go_sem, seval, e, h0, h3, h70, hcl, List.map_nil, List.length_nil, eq, n12, n3, n0, n0', n159, n160, n12', n3', n159', n160']
                refine ⟨(i + 1, l'.take (k0 + i) ++ [⟨eterm, etxt, econf, .nil, []⟩], .sli 47196288 ((selB (47196288 == q) (⟨gq + 1, .rw, true, List.take ((k0 + i) * 4) (rows Ent.v l')⟩ : Blk) (σ 47196288)).gen + 1) 0 (k0 + i + 1) 4), by simp only; omega, ?_⟩
                refine tak_next hS hc _ _ _ _ ?_ ?_ ?_ ?_ ?_ ?_ ?_ ?_ ?_ ?_ ?_ ?_ ?_ ?_ ?_ ?_ ?_ ?_
                · simp -implicitDefEqProofs (disch := omega) only [go_sem, seval, go_sem]
                · simp -implicitDefEqProofs (disch := omega) only [go_sem, seval, go_sem]
                · simp -implicitDefEqProofs (disch := omega) only [go_sem, seval, go_sem]
                · simp -implicitDefEqProofs (disch := omega) only [go_sem, seval, go_sem]
                · simp -implicitDefEqProofs (disch := omega) only [go_sem, seval, go_sem]
                · simp -implicitDefEqProofs (disch := omega) only [go_sem, seval, go_sem]
                · simp -implicitDefEqProofs (disch := omega) only [go_sem, seval, nw, List.length_cons, List.length_nil]
                · refine .inr ⟨47196288, ((selB (47196288 == q) (⟨gq + 1, .rw, true, List.take ((k0 + i) * 4) (rows Ent.v l')⟩ : Blk) (σ 47196288)).gen + 1), by simp [LOGS], ?_, ?_⟩
                  · simp; omega
                  · rw [rows_snoc, ← rows_take l' (k0 + i) (by omega)]
                    simp -implicitDefEqProofs (disch := omega) only [go_sem, seval, Ent.v, List.map_nil, List.length_nil, List.append_nil]
                    rw [List.take_take, Nat.min_self]
                · intro j hj hj2
                  have hjq : (j == q) = false := beq_no fun h => hj2 (by simp [idsOf, h])
                  simp only [BCS, List.mem_cons, List.not_mem_nil, or_false] at hj
                  rcases hj with rfl | rfl <;> simp -implicitDefEqProofs (disch := omega) only [go_sem, seval, hjq]
                · intro j hj hj2
                  simp only [idsOf, List.mem_singleton] at hj2
                  rcases hN.bcp with ⟨_, _, h1⟩ | ⟨r, gr, bl, hr, h1, _⟩
                  · rw [h1] at hj; simp [idsOf] at hj
                  · rw [h1] at hj; simp only [idsOf, List.mem_singleton] at hj
                    rw [hj] at hj2; rw [hj2] at hr; simp [BCS] at hr
                · simp -implicitDefEqProofs (disch := omega) only [go_sem, seval, n3']
                · intro x hx
                  rcases List.mem_append.1 hx with hx | hx
                  · exact hok x (List.mem_of_mem_take hx)
                  · rcases List.mem_singleton.1 hx with rfl
                    exact ⟨by simp, ek2, ek3⟩
                · rw [List.take_append_of_le_length (by rw [List.length_take]; unfold crN; omega), List.take_take, Nat.min_eq_left (by unfold crN; omega)]
                · rw [List.length_append, List.length_take, List.length_singleton]; unfold crN; omega
                · rw [List.length_append, List.length_take, List.length_singleton]; omega
                · rw [List.length_append, List.length_take, List.length_singleton]; omega
                · intro j hj hj2
                  simp only [idsOf, List.mem_singleton] at hj; omega
                · intro j hj1 hj2 hj3
                  have hjq : (j == q) = false := beq_no fun h => hj3 (by simp [idsOf, h])
                  simp -implicitDefEqProofs (disch := omega) only [go_sem, seval, hjq]
              · simp -implicitDefEqProofs (disch := omega) only [go_sem, seval, Ent.v, e3] at hcl
                have r7 := iV_ro 6 emem
                have r6 := iV_ro 5 emem
                have r5 := iV_ro 4 emem
                simp -implicitDefEqProofs (disch := omega) only [go_sem, seval, e, h0, h3, h70, hcl, r7, r6, r5, eq, n12, n3, n0, n0', n159, n160, n12', n3', n159', n160']
                refine ⟨(i + 1, l'.take (k0 + i) ++ [⟨eterm, etxt, econf, .ro, emem⟩], .sli 47196288 ((selB (47196288 == q) (⟨gq + 1, .rw, true, List.take ((k0 + i) * 4) (rows Ent.v l')⟩ : Blk) (σ 47196288)).gen + 1) 0 (k0 + i + 1) 4), by simp only; omega, ?_⟩
                refine tak_next hS hc _ _ _ _ ?_ ?_ ?_ ?_ ?_ ?_ ?_ ?_ ?_ ?_ ?_ ?_ ?_ ?_ ?_ ?_ ?_ ?_
                · simp -implicitDefEqProofs (disch := omega) only [go_sem, seval, go_sem]
                · simp -implicitDefEqProofs (disch := omega) only [go_sem, seval, go_sem]
                · simp -implicitDefEqProofs (disch := omega) only [go_sem, seval, go_sem]
                · simp -implicitDefEqProofs (disch := omega) only [go_sem, seval, go_sem]
                · simp -implicitDefEqProofs (disch := omega) only [go_sem, seval, go_sem]
                · simp -implicitDefEqProofs (disch := omega) only [go_sem, seval, go_sem]
                · simp -implicitDefEqProofs (disch := omega) only [go_sem, seval, nw, List.length_cons, List.length_nil]
                · refine .inr ⟨47196288, ((selB (47196288 == q) (⟨gq + 1, .rw, true, List.take ((k0 + i) * 4) (rows Ent.v l')⟩ : Blk) (σ 47196288)).gen + 1), by simp [LOGS], ?_, ?_⟩
                  · simp; omega
                  · rw [rows_snoc, ← rows_take l' (k0 + i) (by omega)]
                    simp -implicitDefEqProofs (disch := omega) only [go_sem, seval, Ent.v, List.map_nil, List.length_nil, List.append_nil]
                    rw [List.take_take, Nat.min_self]
                · intro j hj hj2
                  have hjq : (j == q) = false := beq_no fun h => hj2 (by simp [idsOf, h])
                  simp only [BCS, List.mem_cons, List.not_mem_nil, or_false] at hj
                  rcases hj with rfl | rfl <;> simp -implicitDefEqProofs (disch := omega) only [go_sem, seval, hjq]
                · intro j hj hj2
                  simp only [idsOf, List.mem_singleton] at hj2
                  rcases hN.bcp with ⟨_, _, h1⟩ | ⟨r, gr, bl, hr, h1, _⟩
                  · rw [h1] at hj; simp [idsOf] at hj
                  · rw [h1] at hj; simp only [idsOf, List.mem_singleton] at hj
                    rw [hj] at hj2; rw [hj2] at hr; simp [BCS] at hr
                · simp -implicitDefEqProofs (disch := omega) only [go_sem, seval, n3']
                · intro x hx
                  rcases List.mem_append.1 hx with hx | hx
                  · exact hok x (List.mem_of_mem_take hx)
                  · rcases List.mem_singleton.1 hx with rfl
                    exact ⟨by simp, ek2, ek3⟩
                · rw [List.take_append_of_le_length (by rw [List.length_take]; unfold crN; omega), List.take_take, Nat.min_eq_left (by unfold crN; omega)]
                · rw [List.length_append, List.length_take, List.length_singleton]; unfold crN; omega
                · rw [List.length_append, List.length_take, List.length_singleton]; omega
                · rw [List.length_append, List.length_take, List.length_singleton]; omega
                · intro j hj hj2
                  simp only [idsOf, List.mem_singleton] at hj; omega
                · intro j hj1 hj2 hj3
                  have hjq : (j == q) = false := beq_no fun h => hj3 (by simp [idsOf, h])
                  simp -implicitDefEqProofs (disch := omega) only [go_sem, seval, hjq]
        · simp -implicitDefEqProofs (disch := omega) only [go_sem, seval, e, h0, h3, eq, n12, n3, n0, hlt]
          refine wp_draw_E ?_
          have e3 : ¬ SK.ro = SK.nil := by simp
          rcases ek1 with rfl | rfl
          · obtain rfl := ek2 rfl
            simp -implicitDefEqProofs (disch := omega) only [go_sem, seval, Ent.v, List.map_nil, List.length_nil] at hcl
            simp -implicitDefEqProofs (disch := omega) only [go_sem, seval, e, h0, h3, h70, hcl, List.map_nil, List.length_nil, eq, n12, n3, n0, n0', n159, n160, n12', n3', n159', n160']
            refine ⟨(i + 1, l' ++ [⟨eterm, etxt, econf, .nil, []⟩], .sli 47196288 ((σ 47196288).gen + 1) 0 (l'.length + 1) 4), by simp only; omega, ?_⟩
            refine tak_next hS hc _ _ _ _ ?_ ?_ ?_ ?_ ?_ ?_ ?_ ?_ ?_ ?_ ?_ ?_ ?_ ?_ ?_ ?_ ?_ ?_
            · simp -implicitDefEqProofs (disch := omega) only [go_sem, seval, go_sem]
            · simp -implicitDefEqProofs (disch := omega) only [go_sem, seval, go_sem]
            · simp -implicitDefEqProofs (disch := omega) only [go_sem, seval, go_sem]
            · simp -implicitDefEqProofs (disch := omega) only [go_sem, seval, go_sem]
            · simp -implicitDefEqProofs (disch := omega) only [go_sem, seval, go_sem]
            · simp -implicitDefEqProofs (disch := omega) only [go_sem, seval, go_sem]
            · simp -implicitDefEqProofs (disch := omega) only [go_sem, seval, nw, List.length_cons, List.length_nil]
            · refine .inr ⟨47196288, ((σ 47196288).gen + 1), by simp [LOGS], ?_, ?_⟩
              · simp
              · rw [rows_snoc]
                simp -implicitDefEqProofs (disch := omega) only [go_sem, seval, Ent.v, List.map_nil, List.length_nil, List.append_nil]
            · intro j hj hj2
              have hjq : (j == q) = false := beq_no fun h => hj2 (by simp [idsOf, h])
              simp only [BCS, List.mem_cons, List.not_mem_nil, or_false] at hj
              rcases hj with rfl | rfl <;> simp -implicitDefEqProofs (disch := omega) only [go_sem, seval, hjq]
            · intro j hj hj2
              simp only [idsOf, List.mem_singleton] at hj2
              rcases hN.bcp with ⟨_, _, h1⟩ | ⟨r, gr, bl, hr, h1, _⟩
              · rw [h1] at hj; simp [idsOf] at hj
              · rw [h1] at hj; simp only [idsOf, List.mem_singleton] at hj
                rw [hj] at hj2; rw [hj2] at hr; simp [BCS] at hr
            · simp -implicitDefEqProofs (disch := omega) only [go_sem, seval, n3']
            · intro x hx
              rcases List.mem_append.1 hx with hx | hx
              · exact hok x hx
              · rcases List.mem_singleton.1 hx with rfl
                exact ⟨by simp, ek2, ek3⟩
            · rw [List.take_append_of_le_length hcr]
            · rw [List.length_append, List.length_singleton]; omega
            · rw [List.length_append, List.length_singleton]; omega
            · rw [List.length_append, List.length_singleton]; omega
            · intro j hj hj2
              simp only [idsOf, List.mem_singleton] at hj; omega
            · intro j hj1 hj2 hj3
              have hjq : (j == q) = false := beq_no fun h => hj3 (by simp [idsOf, h])
              simp -implicitDefEqProofs (disch := omega) only [go_sem, seval, hjq]
          · simp -implicitDefEqProofs (disch := omega) only [go_sem, seval, Ent.v, e3] at hcl
            have r7 := iV_ro 6 emem
            have r6 := iV_ro 5 emem
            have r5 := iV_ro 4 emem
            simp -implicitDefEqProofs (disch := omega) only [go_sem, seval, e, h0, h3, h70, hcl, r7, r6, r5, eq, n12, n3, n0, n0', n159, n160, n12', n3', n159', n160']
            refine ⟨(i + 1, l' ++ [⟨eterm, etxt, econf, .ro, emem⟩], .sli 47196288 ((σ 47196288).gen + 1) 0 (l'.length + 1) 4), by simp only; omega, ?_⟩
            refine tak_next hS hc _ _ _ _ ?_ ?_ ?_ ?_ ?_ ?_ ?_ ?_ ?_ ?_ ?_ ?_ ?_ ?_ ?_ ?_ ?_ ?_
            · simp -implicitDefEqProofs (disch := omega) only [go_sem, seval, go_sem]
            · simp -implicitDefEqProofs (disch := omega) only [go_sem, seval, go_sem]
            · simp -implicitDefEqProofs (disch := omega) only [go_sem, seval, go_sem]
            · simp -implicitDefEqProofs (disch := omega) only [go_sem, seval, go_sem]
            · simp -implicitDefEqProofs (disch := omega) only [go_sem, seval, go_sem]
            · simp -implicitDefEqProofs (disch := omega) only [go_sem, seval, go_sem]
            · simp -implicitDefEqProofs (disch := omega) only [go_sem, seval, nw, List.length_cons, List.length_nil]
            · refine .inr ⟨47196288, ((σ 47196288).gen + 1), by simp [LOGS], ?_, ?_⟩
              · simp
              · rw [rows_snoc]
                simp -implicitDefEqProofs (disch := omega) only [go_sem, seval, Ent.v, List.map_nil, List.length_nil, List.append_nil]
            · intro j hj hj2
              have hjq : (j == q) = false := beq_no fun h => hj2 (by simp [idsOf, h])
              simp only [BCS, List.mem_cons, List.not_mem_nil, or_false] at hj
              rcases hj with rfl | rfl <;> simp -implicitDefEqProofs (disch := omega) only [go_sem, seval, hjq]
            · intro j hj hj2
              simp only [idsOf, List.mem_singleton] at hj2
              rcases hN.bcp with ⟨_, _, h1⟩ | ⟨r, gr, bl, hr, h1, _⟩
              · rw [h1] at hj; simp [idsOf] at hj
              · rw [h1] at hj; simp only [idsOf, List.mem_singleton] at hj
                rw [hj] at hj2; rw [hj2] at hr; simp [BCS] at hr
            · simp -implicitDefEqProofs (disch := omega) only [go_sem, seval, n3']
            · intro x hx
              rcases List.mem_append.1 hx with hx | hx
              · exact hok x hx
              · rcases List.mem_singleton.1 hx with rfl
                exact ⟨by simp, ek2, ek3⟩
            · rw [List.take_append_of_le_length hcr]
            · rw [List.length_append, List.length_singleton]; omega
            · rw [List.length_append, List.length_singleton]; omega
            · rw [List.length_append, List.length_singleton]; omega
            · intro j hj hj2
              simp only [idsOf, List.mem_singleton] at hj; omega
            · intro j hj1 hj2 hj3
              have hjq : (j == q) = false := beq_no fun h => hj3 (by simp [idsOf, h])
              simp -implicitDefEqProofs (disch := omega) only [go_sem, seval, hjq]
  · obtain rfl : i = es.length := by omega
    simp -implicitDefEqProofs (disch := omega) only [go_sem, seval, go_sem]
    exact hdone l' lv' _ hS
end Go.Vm.YtholgdogohmdbaaW
