/- (seval) Raft: a replica that is asked for its vote: one asking of the law, case a. -/
import Derived.Test.YtjakgbhlnndhiaaRaftVI
set_option linter.unusedSectionVars false
set_option linter.unusedSimpArgs false
set_option linter.unusedVariables false
set_option maxHeartbeats 16000000
set_option maxRecDepth 10000
namespace Go.Vm.Ytjakgbhlnndhiaa
open Go.Proofs
theorem votes_a (km : SK) (ml : List Msg) (T0 vote0 : Int) (kb0 kl0 : SK) (bl : List Int) (l : List Ent) (hl : l.length ≤ 20) (ho : ∀ e ∈ l, e.ok) (hbl : bl.length ≤ 17592186044416) (hml : ml.length ≤ 140737488355328) (Q : Ex → St → Prop) (i : Nat) (t : Nat → V) (σ : Store) (gm p g T mt cm : Nat) (vote since tmo : Int) (vm : List (Int × Int)) (k f to ix lt off : Int) (y d : Bool) (ek : SK) (en : Nat) (ec : List V) (pc : List UInt8) (mk2 : SK) (mn : Nat) (mc : List V) (hi : i ≤ ml.length) (hc : i < ml.length) (hc6 : i < 60) (mr : ((rows Msg.v ml).drop (i * 13)).take 13 = Msg.v ⟨k, f, to, (mt : Int), ix, lt, (cm : Int), y, ek, en, ec, off, pc, d, mk2, mn, mc⟩) (hm : mayM ⟨1, f, 2, (mt : Int), ix, lt, (cm : Int), y, .nil, 0, [], off, pc, d, mk2, mn, mc⟩ = true) (h1 : t 1 = .sl km ml.length (rows Msg.v ml)) (h2 : t 2 = .ptr 192 1 0) (s2 : σ 192 = ⟨1, .rw, false, [.int .i64 T0, .int .i64 vote0, .int .i64 0, .int .i64 0, .str [], .sl kb0 bl.length (bl.map iV), .sl kl0 l.length (rows Ent.v l)]⟩) (h5 : t 5 = .int .i64 (lastT l)) (h10 : t 10 = .int .i64 (i : Int)) (h9 : t 9 = .mp 6720 gm) (h7 : t 7 = .ptr p g 0) (hp : p = 6144 ∨ p = 16960) (hN : NodeIn σ p g SS bl l (T : Int) vote since tmo) (hT : T ≤ 2147483647) (hv1 : -1 ≤ vote) (hv2 : vote < 16) (sv : σ 6720 = ⟨gm, .rw, false, [.mcell (encM vm)]⟩) (hm1 : ∀ a, (T : Int) < a → lk a vm = none) (hm2 : lk (T : Int) vm = (if vote = -1 then none else some vote)) (hA1 : T < mt) : wpA (tabW fns) lp4_1 (nextQ (vS km ml [.int .i64 T0, .int .i64 vote0, .int .i64 0, .int .i64 0, .str [], .sl kb0 bl.length (bl.map iV), .sl kl0 l.length (rows Ent.v l)] bl l) (fun i => ml.length - i) i Q) ⟨t, σ⟩ := by
  have hrm := mlen ml
  have ck := Check_ok ⟨1, f, 2, (mt : Int), ix, lt, (cm : Int), y, .nil, 0, [], off, pc, d, mk2, mn, mc⟩
  rw [hm] at ck
  simp -implicitDefEqProofs (disch := omega) only [go_sem, seval, Msg.v] at ck mr
  obtain ⟨hpS, hno, hpb⟩ := ss_no hp
  obtain ⟨b1, b2, b3, b4⟩ := hpb 8704 (by simp)
  obtain ⟨c1, c2, c3, c4⟩ := hpb 9152 (by simp)
  obtain ⟨d1, d2, d3, d4⟩ := hpb 16192 (by simp)
  obtain ⟨e1, e2, e3, e4⟩ := hpb 16896 (by simp)
  obtain ⟨n1, n1'⟩ := hno 192 (by simp)
  obtain ⟨n2', n2''⟩ := hno 768 (by simp)
  obtain ⟨n3, n3'⟩ := hno 6720 (by simp)
  obtain ⟨n4, n4'⟩ := hno 9152 (by simp)
  have no768 : ∀ j, j = p ∨ j ∈ SS → (j == 768) = false := fun j hj => beq_no (fun c => by
    subst c
    rcases hj with h | h
    · exact n2' h
    · exact n2'' h)
  have no6720 : ∀ j, j = p ∨ j ∈ SS → (j == 6720) = false := fun j hj => beq_no (fun c => by
    subst c
    rcases hj with h | h
    · exact n3 h
    · exact n3' h)
  obtain ⟨f0, f16, t0, t1, cm0, cm1⟩ := mayM_of hm
  simp only at f0 f16 t0 t1 cm0 cm1
  simp -implicitDefEqProofs (disch := omega) only [go_sem, seval, lp4_1, h1, h2, h5, h7, h9, h10, hc, hc6, mr, ck]
  refine contC_of (term_callr (hN.frame fun j hj => ?_) hpS _) ?_
  · simp -implicitDefEqProofs (disch := omega) only [go_sem, seval, no768 j hj]
  simp -implicitDefEqProofs (disch := omega) only [go_sem, seval, h7]
  refine contC_ex (step_call (hN.frame fun j hj => ?_) hl hpS c1 c2 c3 n4' (by decide) (by decide) ⟨1, f, 2, (mt : Int), ix, lt, (cm : Int), y, .nil, 0, [], off, pc, d, mk2, mn, mc⟩ hm rfl rfl) ?_
  · simp -implicitDefEqProofs (disch := omega) only [go_sem, seval, no768 j hj]
  rintro σ2 ⟨hN2, hr2, hf2⟩
  have x192 := hf2 192 n1 (by decide) n1'
  have x768 := hf2 768 n2' (by decide) n2''
  have x6720 := hf2 6720 n3 (by decide) n3'
  simp -implicitDefEqProofs (disch := omega) only [go_sem, seval, s2] at x192
  simp -implicitDefEqProofs (disch := omega) only [go_sem, seval, go_sem] at x768
  simp -implicitDefEqProofs (disch := omega) only [go_sem, seval, sv] at x6720
  have hA2 : ¬ mt < T := by omega
  have hA3 : T ≤ mt := by omega
  have hlt : (T : Int) < (mt : Int) := by omega
  have hlk := hm1 (mt : Int) hlt
  simp only [stepT, stepV, hlt, if_true] at hN2 hr2
  generalize hyy : yesB (mt : Int) (-1) l ⟨1, f, 2, (mt : Int), ix, lt, (cm : Int), y, .nil, 0, [], off, pc, d, mk2, mn, mc⟩ = yy at hN2 hr2
  obtain ⟨is, hTc⟩ := term_call hN2 hpS
  simp -implicitDefEqProofs (disch := omega) only [go_sem, seval, row] at hr2
  simp -implicitDefEqProofs (disch := omega) only [go_sem, seval, go_sem]
  refine wp_draw_E ?_
  simp -implicitDefEqProofs (disch := omega) only [go_sem, seval, hTc, hr2, x768, x192, x6720, h1, h2, h5, h7, h9, h10, hA1, hA2, hA3]
  by_cases q1 : lastT l < lt
  ·
    have hy : yy = true := by rw [← hyy]; simp [yesB, newerB, q1, hA1, hA2, hA3]
    clear hyy
    subst hy
    simp only [if_true, if_false, Bool.false_eq_true] at hN2
    simp -implicitDefEqProofs (disch := omega) only [go_sem, seval, hr2, x768, x192, x6720, h1, h2, h5, h7, h9, h10, mfind_enc, q1, hA1, hA2, hA3, hlk]
    simp -implicitDefEqProofs (disch := omega) only [go_sem, seval, mput_enc, x6720, h1, h2, h5, h7, h9, h10]
    obtain ⟨rv, wr, rd, kb1, kl1, is1, b, lg, hh, rfl, hw, hN3, hf3, k1, k2, hro, his⟩ := hard_call (σ := upd σ2 6720 ⟨gm, .rw, false, [.mcell (encM (ptM (mt : Int) f vm))]⟩) (base := 16192) (hN2.frame fun j hj => by simp -implicitDefEqProofs (disch := omega) only [go_sem, seval, no6720 j hj]) ho hl hbl hpS d1 d2 d3 d4 (by decide) (by decide) (by decide) (by decide)
    have y192 := hf3 192 n1 n1'
    have y768 := hf3 768 n2' n2''
    have y6720 := hf3 6720 n3 n3'
    simp -implicitDefEqProofs (disch := omega) only [go_sem, seval, x192] at y192
    simp -implicitDefEqProofs (disch := omega) only [go_sem, seval, x768] at y768
    simp -implicitDefEqProofs (disch := omega) only [go_sem, seval, go_sem] at y6720
    have hcl : ∀ i ∈ wr.map (·.1), ¬ i = 768 := fun i hi c => by
      subst c
      rcases hw _ hi with h | h
      · exact n2' h
      · exact n2'' h
    have hcl2 : ((List.map (fun x => x.fst) wr).any fun i => i == 768) = false := by
      rw [List.any_eq_false]
      intro i hi
      simpa using hcl i hi
    refine wp_draw_E ?_
    simp -implicitDefEqProofs (disch := omega) only [go_sem, seval, hh, hcl2, y768, y192, y6720, h1, h2, h5, h7, h9, h10]
    by_cases hq : cm % 3 = 1
    · simp -implicitDefEqProofs (disch := omega) only [go_sem, seval, hq, y192, y768, y6720, h1, h2, h5, h7, h9, h10]
      obtain ⟨rv2, wr2, rd2, kb2, kl2, is2, b2', lg2, hh2, rfl, hw2, hN4, hf4, u1, u2, hro2, his2⟩ := hard_call (base := 16896) hN3 ho hl hbl hpS e1 e2 e3 e4 (by decide) (by decide) (by decide) (by decide)
      refine contC_of (told_callr hh2) ?_
      simp -implicitDefEqProofs (disch := omega) only [go_sem, seval, h1, h2, h5, h7, h9, h10]
      refine contC_ex (new_call (base := 16960) (S := SS) (bl := bl) (l := l) mt (by omega) (vote := f) ⟨by omega, by omega⟩ u1 u2 hbl ho hl hro2 his2 (by decide) (by decide)) ?_
      rintro σ5 ⟨hN5, hf5⟩
      simp -implicitDefEqProofs (disch := omega) only [go_sem, seval, h1, h2, h5, h7, h9, h10]
      exact ⟨i + 1, by omega, by omega, by simp -implicitDefEqProofs (disch := omega) only [go_sem, seval, h1], by simp -implicitDefEqProofs (disch := omega) only [go_sem, seval, h2], (hf5 192 (by decide) n1').trans ((hf4 192 n1 n1').trans y192), by simp -implicitDefEqProofs (disch := omega) only [go_sem, seval, h5], by simp -implicitDefEqProofs (disch := omega) only [go_sem, seval, go_sem], gm, 16960, _, mt, f, 0, (tmoT mt), (ptM (mt : Int) f vm), by simp -implicitDefEqProofs (disch := omega) only [go_sem, seval, h9], by simp -implicitDefEqProofs (disch := omega) only [go_sem, seval, h7], .inr rfl, hN5, by omega, by omega, by omega, (hf5 6720 (by decide) n3').trans ((hf4 6720 n3 n3').trans y6720), (fun a ha => by rw [lk_pt, if_neg (by omega)]; exact hm1 a (by omega)), (by rw [lk_pt, if_pos rfl, if_neg (by omega)])⟩
    · simp -implicitDefEqProofs (disch := omega) only [go_sem, seval, hq, y192, y768, y6720, h1, h2, h5, h7, h9, h10]
      exact ⟨i + 1, by omega, by omega, by simp -implicitDefEqProofs (disch := omega) only [go_sem, seval, h1], by simp -implicitDefEqProofs (disch := omega) only [go_sem, seval, h2], y192, by simp -implicitDefEqProofs (disch := omega) only [go_sem, seval, h5], by simp -implicitDefEqProofs (disch := omega) only [go_sem, seval, go_sem], gm, p, g, mt, f, _, _, (ptM (mt : Int) f vm), by simp -implicitDefEqProofs (disch := omega) only [go_sem, seval, h9], by simp -implicitDefEqProofs (disch := omega) only [go_sem, seval, h7], hp, hN3, by omega, by omega, by omega, y6720, (fun a ha => by rw [lk_pt, if_neg (by omega)]; exact hm1 a (by omega)), (by rw [lk_pt, if_pos rfl, if_neg (by omega)])⟩
  · by_cases q2 : lt = lastT l
    · by_cases q3 : (l.length : Int) ≤ ix
      ·
        have hy : yy = true := by rw [← hyy]; simp [yesB, newerB, q1, q2, q3, hA1, hA2, hA3]
        clear hyy
        subst hy
        simp only [if_true, if_false, Bool.false_eq_true] at hN2
        simp -implicitDefEqProofs (disch := omega) only [go_sem, seval, hr2, x768, x192, x6720, h1, h2, h5, h7, h9, h10, mfind_enc, q1, q2, q3, hA1, hA2, hA3, hlk]
        simp -implicitDefEqProofs (disch := omega) only [go_sem, seval, mput_enc, x6720, h1, h2, h5, h7, h9, h10]
        obtain ⟨rv, wr, rd, kb1, kl1, is1, b, lg, hh, rfl, hw, hN3, hf3, k1, k2, hro, his⟩ := hard_call (σ := upd σ2 6720 ⟨gm, .rw, false, [.mcell (encM (ptM (mt : Int) f vm))]⟩) (base := 16192) (hN2.frame fun j hj => by simp -implicitDefEqProofs (disch := omega) only [go_sem, seval, no6720 j hj]) ho hl hbl hpS d1 d2 d3 d4 (by decide) (by decide) (by decide) (by decide)
        have y192 := hf3 192 n1 n1'
        have y768 := hf3 768 n2' n2''
        have y6720 := hf3 6720 n3 n3'
        simp -implicitDefEqProofs (disch := omega) only [go_sem, seval, x192] at y192
        simp -implicitDefEqProofs (disch := omega) only [go_sem, seval, x768] at y768
        simp -implicitDefEqProofs (disch := omega) only [go_sem, seval, go_sem] at y6720
        have hcl : ∀ i ∈ wr.map (·.1), ¬ i = 768 := fun i hi c => by
          subst c
          rcases hw _ hi with h | h
          · exact n2' h
          · exact n2'' h
        have hcl2 : ((List.map (fun x => x.fst) wr).any fun i => i == 768) = false := by
          rw [List.any_eq_false]
          intro i hi
          simpa using hcl i hi
        refine wp_draw_E ?_
        simp -implicitDefEqProofs (disch := omega) only [go_sem, seval, hh, hcl2, y768, y192, y6720, h1, h2, h5, h7, h9, h10]
        by_cases hq : cm % 3 = 1
        · simp -implicitDefEqProofs (disch := omega) only [go_sem, seval, hq, y192, y768, y6720, h1, h2, h5, h7, h9, h10]
          obtain ⟨rv2, wr2, rd2, kb2, kl2, is2, b2', lg2, hh2, rfl, hw2, hN4, hf4, u1, u2, hro2, his2⟩ := hard_call (base := 16896) hN3 ho hl hbl hpS e1 e2 e3 e4 (by decide) (by decide) (by decide) (by decide)
          refine contC_of (told_callr hh2) ?_
          simp -implicitDefEqProofs (disch := omega) only [go_sem, seval, h1, h2, h5, h7, h9, h10]
          refine contC_ex (new_call (base := 16960) (S := SS) (bl := bl) (l := l) mt (by omega) (vote := f) ⟨by omega, by omega⟩ u1 u2 hbl ho hl hro2 his2 (by decide) (by decide)) ?_
          rintro σ5 ⟨hN5, hf5⟩
          simp -implicitDefEqProofs (disch := omega) only [go_sem, seval, h1, h2, h5, h7, h9, h10]
          exact ⟨i + 1, by omega, by omega, by simp -implicitDefEqProofs (disch := omega) only [go_sem, seval, h1], by simp -implicitDefEqProofs (disch := omega) only [go_sem, seval, h2], (hf5 192 (by decide) n1').trans ((hf4 192 n1 n1').trans y192), by simp -implicitDefEqProofs (disch := omega) only [go_sem, seval, h5], by simp -implicitDefEqProofs (disch := omega) only [go_sem, seval, go_sem], gm, 16960, _, mt, f, 0, (tmoT mt), (ptM (mt : Int) f vm), by simp -implicitDefEqProofs (disch := omega) only [go_sem, seval, h9], by simp -implicitDefEqProofs (disch := omega) only [go_sem, seval, h7], .inr rfl, hN5, by omega, by omega, by omega, (hf5 6720 (by decide) n3').trans ((hf4 6720 n3 n3').trans y6720), (fun a ha => by rw [lk_pt, if_neg (by omega)]; exact hm1 a (by omega)), (by rw [lk_pt, if_pos rfl, if_neg (by omega)])⟩
        · simp -implicitDefEqProofs (disch := omega) only [go_sem, seval, hq, y192, y768, y6720, h1, h2, h5, h7, h9, h10]
          exact ⟨i + 1, by omega, by omega, by simp -implicitDefEqProofs (disch := omega) only [go_sem, seval, h1], by simp -implicitDefEqProofs (disch := omega) only [go_sem, seval, h2], y192, by simp -implicitDefEqProofs (disch := omega) only [go_sem, seval, h5], by simp -implicitDefEqProofs (disch := omega) only [go_sem, seval, go_sem], gm, p, g, mt, f, _, _, (ptM (mt : Int) f vm), by simp -implicitDefEqProofs (disch := omega) only [go_sem, seval, h9], by simp -implicitDefEqProofs (disch := omega) only [go_sem, seval, h7], hp, hN3, by omega, by omega, by omega, y6720, (fun a ha => by rw [lk_pt, if_neg (by omega)]; exact hm1 a (by omega)), (by rw [lk_pt, if_pos rfl, if_neg (by omega)])⟩
      ·
        have hy : yy = false := by rw [← hyy]; simp [yesB, newerB, q1, q2, q3, hA1, hA2, hA3]
        clear hyy
        subst hy
        simp only [if_true, if_false, Bool.false_eq_true] at hN2
        simp -implicitDefEqProofs (disch := omega) only [go_sem, seval, hr2, x768, x192, x6720, h1, h2, h5, h7, h9, h10, mfind_enc, q1, q2, q3, hA1, hA2, hA3, hlk]
        by_cases hq : cm % 3 = 1
        · simp -implicitDefEqProofs (disch := omega) only [go_sem, seval, hq, x192, x768, x6720, h1, h2, h5, h7, h9, h10]
          obtain ⟨rv2, wr2, rd2, kb2, kl2, is2, b2', lg2, hh2, rfl, hw2, hN4, hf4, u1, u2, hro2, his2⟩ := hard_call (base := 16896) hN2 ho hl hbl hpS e1 e2 e3 e4 (by decide) (by decide) (by decide) (by decide)
          refine contC_of (told_callr hh2) ?_
          simp -implicitDefEqProofs (disch := omega) only [go_sem, seval, h1, h2, h5, h7, h9, h10]
          refine contC_ex (new_call (base := 16960) (S := SS) (bl := bl) (l := l) mt (by omega) (vote := (-1)) ⟨by omega, by omega⟩ u1 u2 hbl ho hl hro2 his2 (by decide) (by decide)) ?_
          rintro σ5 ⟨hN5, hf5⟩
          simp -implicitDefEqProofs (disch := omega) only [go_sem, seval, h1, h2, h5, h7, h9, h10]
          exact ⟨i + 1, by omega, by omega, by simp -implicitDefEqProofs (disch := omega) only [go_sem, seval, h1], by simp -implicitDefEqProofs (disch := omega) only [go_sem, seval, h2], (hf5 192 (by decide) n1').trans ((hf4 192 n1 n1').trans x192), by simp -implicitDefEqProofs (disch := omega) only [go_sem, seval, h5], by simp -implicitDefEqProofs (disch := omega) only [go_sem, seval, go_sem], gm, 16960, _, mt, (-1), 0, (tmoT mt), vm, by simp -implicitDefEqProofs (disch := omega) only [go_sem, seval, h9], by simp -implicitDefEqProofs (disch := omega) only [go_sem, seval, h7], .inr rfl, hN5, by omega, by omega, by omega, (hf5 6720 (by decide) n3').trans ((hf4 6720 n3 n3').trans x6720), (fun a ha => hm1 a (by omega)), (by rw [hlk, if_pos rfl])⟩
        · simp -implicitDefEqProofs (disch := omega) only [go_sem, seval, hq, x192, x768, x6720, h1, h2, h5, h7, h9, h10]
          exact ⟨i + 1, by omega, by omega, by simp -implicitDefEqProofs (disch := omega) only [go_sem, seval, h1], by simp -implicitDefEqProofs (disch := omega) only [go_sem, seval, h2], x192, by simp -implicitDefEqProofs (disch := omega) only [go_sem, seval, h5], by simp -implicitDefEqProofs (disch := omega) only [go_sem, seval, go_sem], gm, p, g, mt, (-1), _, _, vm, by simp -implicitDefEqProofs (disch := omega) only [go_sem, seval, h9], by simp -implicitDefEqProofs (disch := omega) only [go_sem, seval, h7], hp, hN2, by omega, by omega, by omega, x6720, (fun a ha => hm1 a (by omega)), (by rw [hlk, if_pos rfl])⟩
    ·
      have hy : yy = false := by rw [← hyy]; simp [yesB, newerB, q1, q2, hA1, hA2, hA3]
      clear hyy
      subst hy
      simp only [if_true, if_false, Bool.false_eq_true] at hN2
      simp -implicitDefEqProofs (disch := omega) only [go_sem, seval, hr2, x768, x192, x6720, h1, h2, h5, h7, h9, h10, mfind_enc, q1, q2, hA1, hA2, hA3, hlk]
      by_cases hq : cm % 3 = 1
      · simp -implicitDefEqProofs (disch := omega) only [go_sem, seval, hq, x192, x768, x6720, h1, h2, h5, h7, h9, h10]
        obtain ⟨rv2, wr2, rd2, kb2, kl2, is2, b2', lg2, hh2, rfl, hw2, hN4, hf4, u1, u2, hro2, his2⟩ := hard_call (base := 16896) hN2 ho hl hbl hpS e1 e2 e3 e4 (by decide) (by decide) (by decide) (by decide)
        refine contC_of (told_callr hh2) ?_
        simp -implicitDefEqProofs (disch := omega) only [go_sem, seval, h1, h2, h5, h7, h9, h10]
        refine contC_ex (new_call (base := 16960) (S := SS) (bl := bl) (l := l) mt (by omega) (vote := (-1)) ⟨by omega, by omega⟩ u1 u2 hbl ho hl hro2 his2 (by decide) (by decide)) ?_
        rintro σ5 ⟨hN5, hf5⟩
        simp -implicitDefEqProofs (disch := omega) only [go_sem, seval, h1, h2, h5, h7, h9, h10]
        exact ⟨i + 1, by omega, by omega, by simp -implicitDefEqProofs (disch := omega) only [go_sem, seval, h1], by simp -implicitDefEqProofs (disch := omega) only [go_sem, seval, h2], (hf5 192 (by decide) n1').trans ((hf4 192 n1 n1').trans x192), by simp -implicitDefEqProofs (disch := omega) only [go_sem, seval, h5], by simp -implicitDefEqProofs (disch := omega) only [go_sem, seval, go_sem], gm, 16960, _, mt, (-1), 0, (tmoT mt), vm, by simp -implicitDefEqProofs (disch := omega) only [go_sem, seval, h9], by simp -implicitDefEqProofs (disch := omega) only [go_sem, seval, h7], .inr rfl, hN5, by omega, by omega, by omega, (hf5 6720 (by decide) n3').trans ((hf4 6720 n3 n3').trans x6720), (fun a ha => hm1 a (by omega)), (by rw [hlk, if_pos rfl])⟩
      · simp -implicitDefEqProofs (disch := omega) only [go_sem, seval, hq, x192, x768, x6720, h1, h2, h5, h7, h9, h10]
        exact ⟨i + 1, by omega, by omega, by simp -implicitDefEqProofs (disch := omega) only [go_sem, seval, h1], by simp -implicitDefEqProofs (disch := omega) only [go_sem, seval, h2], x192, by simp -implicitDefEqProofs (disch := omega) only [go_sem, seval, h5], by simp -implicitDefEqProofs (disch := omega) only [go_sem, seval, go_sem], gm, p, g, mt, (-1), _, _, vm, by simp -implicitDefEqProofs (disch := omega) only [go_sem, seval, h9], by simp -implicitDefEqProofs (disch := omega) only [go_sem, seval, h7], hp, hN2, by omega, by omega, by omega, x6720, (fun a ha => hm1 a (by omega)), (by rw [hlk, if_pos rfl])⟩
end Go.Vm.Ytjakgbhlnndhiaa
