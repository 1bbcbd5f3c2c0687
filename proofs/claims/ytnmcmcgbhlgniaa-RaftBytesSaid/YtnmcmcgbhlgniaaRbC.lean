/- (seval) Messages of replicas as bytes, in the machine: whole messages are taken. -/
import Derived.Test.YtnmcmcgbhlgniaaRbB
set_option linter.unusedSectionVars false
set_option linter.unusedSimpArgs false
set_option linter.unusedVariables false
set_option maxHeartbeats 8000000
set_option maxRecDepth 10000
namespace Go.Vm.Ytnmcmcgbhlgniaa
open Go.Proofs
def evk (e : En) : En × SK := (e, if e.mem = [] then .nil else .ro)
def erows (l : List En) : List V := rows pk (l.map evk)
theorem elen4 (l : List En) : (erows l).length = l.length * 4 := by rw [erows, rows_length pk_len, List.length_map]
theorem erows_snoc (l : List En) (e : En) : erows (l ++ [e]) = erows l ++ pk (evk e) := by rw [erows, List.map_append, rows_append]; simp [rows, erows]
def entO (l : List En) : V := if l = [] then .sl .nil 0 [] else .osl 4 l.length (erows l)
def outM (m : Ms) : List V := [.int .i64 m.k, .int .i64 m.f, .int .i64 m.t, .int .i64 m.term, .int .i64 m.ix, .int .i64 m.lt, .int .i64 m.cm, .bool m.y, entO m.es, .int .i64 m.off, .str m.pc, .bool m.d, memO m.mem]
def cel (v : Nat → Int) (y d : Bool) (X : V) : List V := [.int .i64 (v 0), .int .i64 (v 1), .int .i64 (v 2), .int .i64 (v 3), .int .i64 (v 4), .int .i64 (v 5), .int .i64 (v 6), .bool y, X, .int .i64 (v 7), .str [], .bool d, .sl .nil 0 []]
def zeroC : List V := [.int .i64 0, .int .i64 0, .int .i64 0, .int .i64 0, .int .i64 0, .int .i64 0, .int .i64 0, .bool false, .sl .nil 0 [], .int .i64 0, .str [], .bool false, .sl .nil 0 []]
def tkS (v : Nat → Int) (y d : Bool) (n i : Nat) (r : Rd) (acc : List En) (s : St) : Prop := s.t 0 = .ptr 0 1 0 ∧ s.σ 0 = ⟨1, .rw, false, r.v⟩ ∧ s.t 2 = .ptr 192 1 0 ∧ s.σ 192 = ⟨1, .rw, false, zeroC⟩ ∧ s.t 3 = .ptr 256 1 0 ∧ s.t 6 = .int .i64 ((n - i : Nat) : Int) ∧ ((acc = [] ∧ s.σ 256 = ⟨1, .rw, false, cel v y d (.sl .nil 0 [])⟩) ∨ (acc ≠ [] ∧ ∃ g, s.σ 256 = ⟨1, .rw, false, cel v y d (.sli 3136 g 0 i 4)⟩ ∧ s.σ 3136 = ⟨g, .rw, true, erows acc⟩))
def tkI (v : Nat → Int) (y d : Bool) (n : Nat) (r0 : Rd) (a : Nat × Rd × List En) (s : St) : Prop := a.1 ≤ n ∧ a.2.1.ok ∧ a.2.2.length = a.1 ∧ takeEns (n - a.1) a.2.1 a.2.2 = takeEns n r0 [] ∧ tkS v y d n a.1 a.2.1 a.2.2 s
theorem tk_step (v : Nat → Int) (y d : Bool) (n : Nat) (hn16 : n ≤ 16) (r0 : Rd) (Q : Ex → St → Prop) (hQ : ∀ (i : Nat) (s : St), i ≤ n → (takeEns n r0 []).1.ok → (takeEns n r0 []).2.length = i → tkS v y d n i (takeEns n r0 []).1 (takeEns n r0 []).2 s → Q (.exit 2) s) (a : Nat × Rd × List En) (s : St) (h : tkI v y d n r0 a s) : wpA (tabW fns) lp9_1 (nextQ (tkI v y d n r0) (fun a => n - a.1) a Q) s := by
  obtain ⟨i, r, acc⟩ := a
  obtain ⟨t, σ⟩ := s
  obtain ⟨hi, hr, hl, hto, t0, u0, t2, u2, t3, t6, ho⟩ := h
  simp only at hi hr hl hto t0 u0 t2 u2 t3 t6 ho
  have er := Err_ok r
  by_cases hc : i < n ∧ r.err = 0
  · obtain ⟨hc, he⟩ := hc
    have m1 := TakeE_g r hr
    have g1 := takeEn_ok hr
    have htn : takeEns (n - i) r acc = takeEns (n - (i + 1)) (takeEn r).1 (acc ++ [(takeEn r).2]) := by
      rw [show n - i = (n - (i + 1)) + 1 by omega, takeEns, if_pos he]
    rw [hto] at htn
    generalize takeEn r = q at *
    obtain ⟨⟨z1, b1, f1⟩, e⟩ := q
    obtain ⟨et, es, ec, em⟩ := e
    obtain ⟨rs, ra, re⟩ := r
    simp only at he m1 g1 htn
    subst he
    have hrt := elen4 acc
    rw [hl] at hrt
    have hX := erows_snoc acc ⟨et, es, ec, em⟩
    have hX0 := erows_snoc [] ⟨et, es, ec, em⟩
    have hne : acc ++ [(⟨et, es, ec, em⟩ : En)] ≠ [] := by simp
    have hln : (acc ++ [(⟨et, es, ec, em⟩ : En)]).length = i + 1 := by simp [hl]
    have hmi : 0 < n - i := by omega
    have e4 : ((n - i : Nat) : Int) - 1 = ((n - (i + 1) : Nat) : Int) := by omega
    have en0 : erows [] = [] := rfl
    simp -implicitDefEqProofs (disch := omega) only [go_sem, seval, Rd.v] at m1 u0 er
    by_cases hm : em = []
    · subst hm
      simp -implicitDefEqProofs (disch := omega) only [go_sem, seval, memO] at m1
      simp -implicitDefEqProofs (disch := omega) only [go_sem, seval, pk, evk, En.vk, List.map_nil, List.length_nil] at hX
      simp -implicitDefEqProofs (disch := omega) only [go_sem, seval, pk, evk, En.vk, List.map_nil, List.length_nil, en0] at hX0
      rcases ho with ⟨hn, sb⟩ | ⟨hn, gq, sb, sq⟩
      · have hi0 : i = 0 := by rw [hn] at hl; simpa using hl.symm
        subst hi0
        subst hn
        simp -implicitDefEqProofs (disch := omega) only [go_sem, seval, cel] at sb
        simp -implicitDefEqProofs (disch := omega) only [go_sem, seval, lp9_1, t0, u0, t6, hmi, er]
        refine wp_draw_E ?_
        simp -implicitDefEqProofs (disch := omega) only [go_sem, seval, t0, u0, t3, t6, sb, callV_T at25, m1, e4, ite_self]
        refine ⟨(1, ⟨z1, b1, f1⟩, [⟨et, es, ec, []⟩]), by omega, by omega, g1.1, rfl, htn.symm, by simp -implicitDefEqProofs (disch := omega) only [go_sem, seval, t0], by simp -implicitDefEqProofs (disch := omega) only [go_sem, seval, Rd.v], by simp -implicitDefEqProofs (disch := omega) only [go_sem, seval, t2], by simp -implicitDefEqProofs (disch := omega) only [go_sem, seval, u2], by simp -implicitDefEqProofs (disch := omega) only [go_sem, seval, t3], by simp -implicitDefEqProofs (disch := omega) only [go_sem, seval, e4], .inr ⟨by simp, (σ 3136).gen + 1, by simp -implicitDefEqProofs (disch := omega) only [go_sem, seval, cel], by simp -implicitDefEqProofs (disch := omega) only [go_sem, seval, hX0]⟩⟩
      · simp -implicitDefEqProofs (disch := omega) only [go_sem, seval, cel] at sb
        simp -implicitDefEqProofs (disch := omega) only [go_sem, seval, lp9_1, t0, u0, t6, hmi, er]
        refine wp_draw_E ?_
        simp -implicitDefEqProofs (disch := omega) only [go_sem, seval, t0, u0, t3, t6, sb, sq, callV_T at25, m1, e4, ite_self]
        refine ⟨(i + 1, ⟨z1, b1, f1⟩, acc ++ [⟨et, es, ec, []⟩]), by omega, by omega, g1.1, hln, htn.symm, by simp -implicitDefEqProofs (disch := omega) only [go_sem, seval, t0], by simp -implicitDefEqProofs (disch := omega) only [go_sem, seval, Rd.v], by simp -implicitDefEqProofs (disch := omega) only [go_sem, seval, t2], by simp -implicitDefEqProofs (disch := omega) only [go_sem, seval, u2], by simp -implicitDefEqProofs (disch := omega) only [go_sem, seval, t3], by simp -implicitDefEqProofs (disch := omega) only [go_sem, seval, e4], .inr ⟨hne, gq + 1, by simp -implicitDefEqProofs (disch := omega) only [go_sem, seval, cel], by simp -implicitDefEqProofs (disch := omega) only [go_sem, seval, hX]⟩⟩
    · simp -implicitDefEqProofs (disch := omega) only [go_sem, seval, memO, hm] at m1
      simp -implicitDefEqProofs (disch := omega) only [go_sem, seval, pk, evk, En.vk, hm] at hX
      simp -implicitDefEqProofs (disch := omega) only [go_sem, seval, pk, evk, En.vk, hm, en0] at hX0
      have r7 := iI_ro 6 em
      have r6 := iI_ro 5 em
      have r5 := iI_ro 4 em
      rcases ho with ⟨hn, sb⟩ | ⟨hn, gq, sb, sq⟩
      · have hi0 : i = 0 := by rw [hn] at hl; simpa using hl.symm
        subst hi0
        subst hn
        simp -implicitDefEqProofs (disch := omega) only [go_sem, seval, cel] at sb
        simp -implicitDefEqProofs (disch := omega) only [go_sem, seval, lp9_1, t0, u0, t6, hmi, er]
        refine wp_draw_E ?_
        simp -implicitDefEqProofs (disch := omega) only [go_sem, seval, t0, u0, t3, t6, sb, callV_T at25, m1, e4, ite_self, r7, r6, r5, List.length_map]
        refine ⟨(1, ⟨z1, b1, f1⟩, [⟨et, es, ec, em⟩]), by omega, by omega, g1.1, rfl, htn.symm, by simp -implicitDefEqProofs (disch := omega) only [go_sem, seval, t0], by simp -implicitDefEqProofs (disch := omega) only [go_sem, seval, Rd.v], by simp -implicitDefEqProofs (disch := omega) only [go_sem, seval, t2], by simp -implicitDefEqProofs (disch := omega) only [go_sem, seval, u2], by simp -implicitDefEqProofs (disch := omega) only [go_sem, seval, t3], by simp -implicitDefEqProofs (disch := omega) only [go_sem, seval, e4], .inr ⟨by simp, (σ 3136).gen + 1, by simp -implicitDefEqProofs (disch := omega) only [go_sem, seval, cel], by simp -implicitDefEqProofs (disch := omega) only [go_sem, seval, hX0]⟩⟩
      · simp -implicitDefEqProofs (disch := omega) only [go_sem, seval, cel] at sb
        simp -implicitDefEqProofs (disch := omega) only [go_sem, seval, lp9_1, t0, u0, t6, hmi, er]
        refine wp_draw_E ?_
        simp -implicitDefEqProofs (disch := omega) only [go_sem, seval, t0, u0, t3, t6, sb, sq, callV_T at25, m1, e4, ite_self, r7, r6, r5, List.length_map]
        refine ⟨(i + 1, ⟨z1, b1, f1⟩, acc ++ [⟨et, es, ec, em⟩]), by omega, by omega, g1.1, hln, htn.symm, by simp -implicitDefEqProofs (disch := omega) only [go_sem, seval, t0], by simp -implicitDefEqProofs (disch := omega) only [go_sem, seval, Rd.v], by simp -implicitDefEqProofs (disch := omega) only [go_sem, seval, t2], by simp -implicitDefEqProofs (disch := omega) only [go_sem, seval, u2], by simp -implicitDefEqProofs (disch := omega) only [go_sem, seval, t3], by simp -implicitDefEqProofs (disch := omega) only [go_sem, seval, e4], .inr ⟨hne, gq + 1, by simp -implicitDefEqProofs (disch := omega) only [go_sem, seval, cel], by simp -implicitDefEqProofs (disch := omega) only [go_sem, seval, hX]⟩⟩
  · have hfin : takeEns n r0 [] = (r, acc) := by
      rw [← hto]
      by_cases h1 : i < n
      · have h2 : ¬ r.err = 0 := fun c => hc ⟨h1, c⟩
        rw [show n - i = (n - (i + 1)) + 1 by omega, takeEns, if_neg h2]
      · rw [show n - i = 0 by omega, takeEns]
    rw [hfin] at hQ
    simp only at hQ
    have fin : ∀ s' : St, s'.t 0 = t 0 → s'.t 2 = t 2 → s'.t 3 = t 3 → s'.t 6 = t 6 → s'.σ = σ → Q (.exit 2) s' := fun s' e0 e2 e3 e6 eσ => hQ i s' hi hr hl ⟨e0.trans t0, by rw [eσ]; exact u0, e2.trans t2, by rw [eσ]; exact u2, e3.trans t3, e6.trans t6, by rw [eσ]; exact ho⟩
    obtain ⟨rs, ra, re⟩ := r
    simp only at hc
    simp -implicitDefEqProofs (disch := omega) only [go_sem, seval, Rd.v] at u0 er
    by_cases him : i < n
    · have h2 : ¬ re = 0 := fun c => hc ⟨him, c⟩
      have him2 : 0 < n - i := by omega
      simp -implicitDefEqProofs (disch := omega) only [go_sem, seval, lp9_1, t0, u0, t6, him2, er, h2]
      exact fin _ (by simp -implicitDefEqProofs (disch := omega) only [go_sem, seval, go_sem]) (by simp -implicitDefEqProofs (disch := omega) only [go_sem, seval, go_sem]) (by simp -implicitDefEqProofs (disch := omega) only [go_sem, seval, go_sem]) (by simp -implicitDefEqProofs (disch := omega) only [go_sem, seval, go_sem]) rfl
    · have him2 : ¬ 0 < n - i := by omega
      simp -implicitDefEqProofs (disch := omega) only [go_sem, seval, lp9_1, t0, u0, t6, him2]
      exact fin _ (by simp -implicitDefEqProofs (disch := omega) only [go_sem, seval, go_sem]) (by simp -implicitDefEqProofs (disch := omega) only [go_sem, seval, go_sem]) (by simp -implicitDefEqProofs (disch := omega) only [go_sem, seval, go_sem]) (by simp -implicitDefEqProofs (disch := omega) only [go_sem, seval, go_sem]) rfl
theorem isP (i g o : Nat) : (V.ptr i g o).isPtr = true := rfl
theorem Take_g (r : Rd) (h : r.ok) : Gf fns 9 [.opt r.v] = some (.agg (outM (takeMs r).2), [.opt (takeMs r).1.v]) := by
  obtain ⟨⟨o1, o2, o3, o4, o5, o6, o7⟩, _⟩ := q_ok h
  have c0 : Gf fns 29 [.opt r.v, .int .i64 2147483647] = some (.int .i64 (cv 0 r), [.opt (cn 1 r).v]) := RCount_ok r h 2147483647 (by omega)
  have c1 : Gf fns 29 [.opt (cn 1 r).v, .int .i64 2147483647] = some (.int .i64 (cv 1 r), [.opt (cn 2 r).v]) := RCount_ok (cn 1 r) (cn_ok h 1).1 2147483647 (by omega)
  have c2 : Gf fns 29 [.opt (cn 2 r).v, .int .i64 2147483647] = some (.int .i64 (cv 2 r), [.opt (cn 3 r).v]) := RCount_ok (cn 2 r) (cn_ok h 2).1 2147483647 (by omega)
  have c3 : Gf fns 29 [.opt (cn 3 r).v, .int .i64 2147483647] = some (.int .i64 (cv 3 r), [.opt (cn 4 r).v]) := RCount_ok (cn 3 r) (cn_ok h 3).1 2147483647 (by omega)
  have c4 : Gf fns 29 [.opt (cn 4 r).v, .int .i64 2147483647] = some (.int .i64 (cv 4 r), [.opt (cn 5 r).v]) := RCount_ok (cn 4 r) (cn_ok h 4).1 2147483647 (by omega)
  have c5 : Gf fns 29 [.opt (cn 5 r).v, .int .i64 2147483647] = some (.int .i64 (cv 5 r), [.opt (cn 6 r).v]) := RCount_ok (cn 5 r) (cn_ok h 5).1 2147483647 (by omega)
  have c6 : Gf fns 29 [.opt (cn 6 r).v, .int .i64 2147483647] = some (.int .i64 (cv 6 r), [.opt (cn 7 r).v]) := RCount_ok (cn 6 r) (cn_ok h 6).1 2147483647 (by omega)
  have c7 : Gf fns 29 [.opt (cn 7 r).v, .int .i64 2147483647] = some (.int .i64 (cv 7 r), [.opt (cn 8 r).v]) := RCount_ok (cn 7 r) (cn_ok h 7).1 2147483647 (by omega)
  have b1 : Gf fns 30 [.opt (cn 8 r).v] = some (.bool (q1 r).2, [.opt (q1 r).1.v]) := RBool_ok (cn 8 r) (cn_ok h 8).1
  have b2 : Gf fns 30 [.opt (q1 r).1.v] = some (.bool (q2 r).2, [.opt (q2 r).1.v]) := RBool_ok _ o1
  have b3 : Gf fns 29 [.opt (q2 r).1.v, .int .i64 16] = some (.int .i64 ((q3 r).2 : Int), [.opt (q3 r).1.v]) := RCount_ok _ o2 16 (by omega)
  have hn16 : (q3 r).2 ≤ 16 := by have := count_lt (q2 r).1 16; show ((q2 r).1.count 16).2 ≤ 16; omega
  have b5 : Gf fns 31 [.opt (q4 r).1.v, .int .i64 200] = some (.str (q5 r).2, [.opt (q5 r).1.v]) := RText_ok _ o4 200 (by omega)
  have b6 : Gf fns 30 [.opt (q5 r).1.v] = some (.bool (q6 r).2, [.opt (q6 r).1.v]) := RBool_ok _ o5
  have b7 := TakeM_g (q6 r).1 o6
  have er7 := Err_ok (q7 r).1
  have hq7 : q7 r = if (q6 r).2 = true then takeMem (q6 r).1 else ((q6 r).1, []) := rfl
  have hq4 : takeEns (q3 r).2 (q3 r).1 [] = q4 r := rfl
  unfold takeMs rawMs
  obtain ⟨v, hv⟩ : ∃ v : Nat → Int, ∀ i, cv i r = v i := ⟨fun i => cv i r, fun _ => rfl⟩
  rw [hv] at c0 c1 c2 c3 c4 c5 c6 c7
  simp only [hv]
  generalize cn 1 r = r1 at *
  generalize cn 2 r = r2 at *
  generalize cn 3 r = r3 at *
  generalize cn 4 r = r4 at *
  generalize cn 5 r = r5 at *
  generalize cn 6 r = r6 at *
  generalize cn 7 r = r7 at *
  generalize cn 8 r = r8 at *
  generalize q1 r = p1 at *
  generalize q2 r = p2 at *
  generalize q3 r = p3 at *
  generalize q5 r = p5 at *
  generalize q6 r = p6 at *
  generalize q7 r = p7 at *
  simp -implicitDefEqProofs (disch := omega) only [go_sem, seval, Rd.v] at c0 c1 c2 c3 c4 c5 c6 c7 b1 b2 b3
  refine Gf_start rfl rfl ?_
  simp -implicitDefEqProofs (disch := omega) only [go_sem, seval, Rd.v, isP, ↓wp_unroll, lp9_0, callr29, c0, c1]
  simp -implicitDefEqProofs (disch := omega) only [go_sem, seval, ↓wp_unroll, lp9_0, callr29, c2, c3]
  simp -implicitDefEqProofs (disch := omega) only [go_sem, seval, ↓wp_unroll, lp9_0, callr29, c4, c5]
  simp -implicitDefEqProofs (disch := omega) only [go_sem, seval, ↓wp_unroll, lp9_0, callr29, c6]
  simp -implicitDefEqProofs (disch := omega) only [go_sem, seval, ↓wp_unroll, lp9_0, callr29, c7]
  simp -implicitDefEqProofs (disch := omega) only [go_sem, seval, callr30, b1, b2, callr29, b3]
  refine wp_loopS (tkI v p1.2 p2.2 p3.2 p3.1) (fun a => p3.2 - a.1) (0, p3.1, []) ⟨by omega, o3, rfl, by simp, by simp -implicitDefEqProofs (disch := omega) only [go_sem, seval, go_sem], by simp -implicitDefEqProofs (disch := omega) only [go_sem, seval, Rd.v], by simp -implicitDefEqProofs (disch := omega) only [go_sem, seval, go_sem], by simp -implicitDefEqProofs (disch := omega) only [go_sem, seval, zeroC], by simp -implicitDefEqProofs (disch := omega) only [go_sem, seval, go_sem], by simp -implicitDefEqProofs (disch := omega) only [go_sem, seval, go_sem], .inl ⟨rfl, by simp -implicitDefEqProofs (disch := omega) only [go_sem, seval, cel]⟩⟩ (tk_step v p1.2 p2.2 p3.2 hn16 p3.1 _ ?_)
  rintro i ⟨t, σ⟩ hi _ hl ⟨t0, u0, t2, u2, t3, _, ho⟩
  rw [hq4] at hl u0 ho
  simp only at hl t0 u0 t2 u2 t3 ho
  generalize q4 r = p4 at *
  obtain ⟨⟨s4, a4, e4⟩, acc⟩ := p4
  obtain ⟨⟨s5, a5, e5⟩, tx⟩ := p5
  obtain ⟨⟨s6, a6, e6⟩, bb⟩ := p6
  simp only at hl ho u0 b5 b6 b7 hq7 ⊢
  have hel := elen4 acc
  simp -implicitDefEqProofs (disch := omega) only [go_sem, seval, Rd.v] at u0 b5 b6
  simp -implicitDefEqProofs (disch := omega) only [go_sem, seval, zeroC] at u2
  cases bb with
  | false =>
    simp only [Bool.false_eq_true, if_false] at hq7
    subst hq7
    simp only at er7 ⊢
    simp -implicitDefEqProofs (disch := omega) only [go_sem, seval, Rd.v] at er7
    by_cases he : e6 = 0
    · subst he
      rcases ho with ⟨hn, sb⟩ | ⟨hn, gq, sb, sq⟩
      · subst hn
        simp -implicitDefEqProofs (disch := omega) only [go_sem, seval, cel] at sb
        simp -implicitDefEqProofs (disch := omega) only [go_sem, seval, t0, u0, t2, u2, t3, sb, callr31, b5, callr30, b6, er7, outM, entO, memO, Rd.v]
      · simp -implicitDefEqProofs (disch := omega) only [go_sem, seval, cel] at sb
        simp -implicitDefEqProofs (disch := omega) only [go_sem, seval, t0, u0, t2, u2, t3, sb, sq, callr31, b5, callr30, b6, er7, outM, entO, memO, Rd.v, hn, hl]
    · rcases ho with ⟨hn, sb⟩ | ⟨hn, gq, sb, sq⟩
      · simp -implicitDefEqProofs (disch := omega) only [go_sem, seval, cel] at sb
        simp -implicitDefEqProofs (disch := omega) only [go_sem, seval, t0, u0, t2, u2, t3, sb, callr31, b5, callr30, b6, er7, he, outM, zeroM, entO, memO, Rd.v]
      · simp -implicitDefEqProofs (disch := omega) only [go_sem, seval, cel] at sb
        simp -implicitDefEqProofs (disch := omega) only [go_sem, seval, t0, u0, t2, u2, t3, sb, sq, callr31, b5, callr30, b6, er7, he, outM, zeroM, entO, memO, Rd.v]
  | true =>
    simp only [if_true] at hq7
    rw [← hq7] at b7
    clear hq7
    obtain ⟨⟨s7, a7, e7⟩, mem⟩ := p7
    simp only at er7 b7 ⊢
    simp -implicitDefEqProofs (disch := omega) only [go_sem, seval, Rd.v] at er7 b7
    by_cases he : e7 = 0
    · subst he
      by_cases hm : mem = []
      · simp -implicitDefEqProofs (disch := omega) only [go_sem, seval, memO, hm] at b7
        rcases ho with ⟨hn, sb⟩ | ⟨hn, gq, sb, sq⟩
        · subst hn
          simp -implicitDefEqProofs (disch := omega) only [go_sem, seval, cel] at sb
          simp -implicitDefEqProofs (disch := omega) only [go_sem, seval, t0, u0, t2, u2, t3, sb, callr31, b5, callr30, b6, callr32, b7, er7, outM, entO, memO, Rd.v, hm]
        · simp -implicitDefEqProofs (disch := omega) only [go_sem, seval, cel] at sb
          simp -implicitDefEqProofs (disch := omega) only [go_sem, seval, t0, u0, t2, u2, t3, sb, sq, callr31, b5, callr30, b6, callr32, b7, er7, outM, entO, memO, Rd.v, hn, hl, hm]
      · have hml : (mem.map iI).length = mem.length := List.length_map _
        simp -implicitDefEqProofs (disch := omega) only [go_sem, seval, memO, hm] at b7
        rcases ho with ⟨hn, sb⟩ | ⟨hn, gq, sb, sq⟩
        · subst hn
          simp -implicitDefEqProofs (disch := omega) only [go_sem, seval, cel] at sb
          simp -implicitDefEqProofs (disch := omega) only [go_sem, seval, t0, u0, t2, u2, t3, sb, callr31, b5, callr30, b6, callr32, b7, er7, outM, entO, memO, Rd.v, hm, ite_self]
        · simp -implicitDefEqProofs (disch := omega) only [go_sem, seval, cel] at sb
          simp -implicitDefEqProofs (disch := omega) only [go_sem, seval, t0, u0, t2, u2, t3, sb, sq, callr31, b5, callr30, b6, callr32, b7, er7, outM, entO, memO, Rd.v, hn, hl, hm, ite_self]
    · by_cases hm : mem = []
      · simp -implicitDefEqProofs (disch := omega) only [go_sem, seval, memO, hm] at b7
        rcases ho with ⟨hn, sb⟩ | ⟨hn, gq, sb, sq⟩
        · simp -implicitDefEqProofs (disch := omega) only [go_sem, seval, cel] at sb
          simp -implicitDefEqProofs (disch := omega) only [go_sem, seval, t0, u0, t2, u2, t3, sb, callr31, b5, callr30, b6, callr32, b7, er7, he, outM, zeroM, entO, memO, Rd.v]
        · simp -implicitDefEqProofs (disch := omega) only [go_sem, seval, cel] at sb
          simp -implicitDefEqProofs (disch := omega) only [go_sem, seval, t0, u0, t2, u2, t3, sb, sq, callr31, b5, callr30, b6, callr32, b7, er7, he, outM, zeroM, entO, memO, Rd.v]
      · have hml : (mem.map iI).length = mem.length := List.length_map _
        simp -implicitDefEqProofs (disch := omega) only [go_sem, seval, memO, hm] at b7
        rcases ho with ⟨hn, sb⟩ | ⟨hn, gq, sb, sq⟩
        · simp -implicitDefEqProofs (disch := omega) only [go_sem, seval, cel] at sb
          simp -implicitDefEqProofs (disch := omega) only [go_sem, seval, t0, u0, t2, u2, t3, sb, callr31, b5, callr30, b6, callr32, b7, er7, he, outM, zeroM, entO, memO, Rd.v, ite_self]
        · simp -implicitDefEqProofs (disch := omega) only [go_sem, seval, cel] at sb
          simp -implicitDefEqProofs (disch := omega) only [go_sem, seval, t0, u0, t2, u2, t3, sb, sq, callr31, b5, callr30, b6, callr32, b7, er7, he, outM, zeroM, entO, memO, Rd.v, ite_self]
end Go.Vm.Ytnmcmcgbhlgniaa
/- Messages of replicas as bytes, in the machine: entries as the law has them. -/
namespace Go.Vm.Ytnmcmcgbhlgniaa
open Go.Proofs
theorem yes_ok (b : Bool) : Gf fns 21 [.bool b] = some (.str (boolB b), []) := by
  refine Gf_start rfl rfl ?_
  cases b
  · simp -implicitDefEqProofs (disch := omega) only [go_sem, seval, boolB, Bool.false_eq_true]
  · simp -implicitDefEqProofs (disch := omega) only [go_sem, seval, boolB]
theorem num4 {n : Int} (h : 0 ≤ n ∧ n ≤ 2147483647) : Gf fns 20 [.int .u64 n, .int .i64 4] = some (.str (cntB n), []) := by
  have a := RefNumberAny_ok (UInt64.ofNat n.toNat) 4
  rw [show bytes8 4 = 4 from rfl, UInt64.toNat_ofNat_of_lt' (show n.toNat < 18446744073709551616 by omega), show ((n.toNat : Nat) : Int) = n by omega] at a
  exact a
theorem entry_ok (k : SK) (e : En) (h : e.okE) : Gf fns 22 [.agg (e.vk k)] = some (.str (enB e), []) := by
  obtain ⟨h1, h2, h3, h4⟩ := h
  obtain ⟨term, s, conf, mem⟩ := e
  simp only at h1 h2 h3 h4
  have n4 := num4 (n := term) ⟨h1, h2⟩
  have y := yes_ok conf
  have hcl := cntB_len term
  have hbl : (boolB conf).length = 1 := rfl
  have hu : term < 18446744073709551616 := by omega
  unfold enB
  refine Gf_start rfl rfl ?_
  cases conf with
  | true =>
    have hm := h3 rfl
    have hr := (memb_range hm).1
    have hl16 := memb_len hm
    have mb := MembersBytes_ok k mem (fun x hx => by have := hr x hx; omega) (by omega)
    have hml := membB_len mem
    simp -implicitDefEqProofs (disch := omega) only [go_sem, seval, En.vk]
    refine wp_draw_E ?_
    simp -implicitDefEqProofs (disch := omega) only [go_sem, seval, n4, y, mb]
  | false =>
    have tx := RefText_ok s (by omega)
    have hn4 := numB_len 4 (UInt64.ofNat s.length)
    simp -implicitDefEqProofs (disch := omega) only [go_sem, seval, En.vk]
    refine wp_draw_E ?_
    simp -implicitDefEqProofs (disch := omega) only [go_sem, seval, n4, y, tx, textB, Bool.false_eq_true]
theorem enB_ne (e : En) : ¬ enB e = [] := by
  intro h
  have : (enB e).length = 0 := by rw [h]; rfl
  unfold enB at this
  simp only [List.length_append, cntB_len] at this
  omega
theorem said_ok (k : SK) (e : En) (h : e.okE) : Gf fns 24 [.agg (e.vk k)] = some (.str (enB e), []) := by
  have p := PutE_g [] (by simp) k e h
  have a := All_ok (enB e) (by have := enB_len_le h; omega)
  have nw := NewWriter_ok
  have hne := enB_ne e
  rw [List.nil_append] at p
  have hul : ((enB e).map u8).length = (enB e).length := List.length_map _
  simp -implicitDefEqProofs (disch := omega) only [go_sem, seval, wrV, hne] at p a
  simp -implicitDefEqProofs (disch := omega) only [go_sem, seval, wrV] at nw
  simp -implicitDefEqProofs (disch := omega) only [go_sem, seval, En.vk] at p
  refine Gf_start rfl rfl ?_
  simp -implicitDefEqProofs (disch := omega) only [go_sem, seval, En.vk, nw, callr23, p]
  simp -implicitDefEqProofs (disch := omega) only [go_sem, seval, a]
end Go.Vm.Ytnmcmcgbhlgniaa
