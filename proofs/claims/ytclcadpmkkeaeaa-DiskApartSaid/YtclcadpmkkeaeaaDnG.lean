/- (seval) Behind a loss of power: the law. -/
import Derived.Test.YtclcadpmkkeaeaaDnE
import Derived.Test.YtclcadpmkkeaeaaDnC
set_option linter.unusedSectionVars false
set_option linter.unusedSimpArgs false
set_option linter.unusedVariables false
set_option maxHeartbeats 40000000
set_option maxRecDepth 10000
namespace Go.Vm.Ytclcadpmkkeaeaa
open Go.Proofs
theorem firm_ok (p : Par) (s : St) (h : m8S p s) : wpA (tabW fns) L9 (nrm (m9S p)) s := by
  obtain ⟨t, σ⟩ := s
  obtain ⟨l, ch, k2, d1, q, g, g12, Bq, Bl, Bn, hq, hf, hD, hN, ⟨⟨c0, c1, c5, d5, c7⟩, hP, h10, h11, h12, s12, sq, sl, sn⟩, h13⟩ := h
  simp only at c0 c1 c5 d5 c7 h10 h11 h12 s12 sq sl sn h13
  unfold PairC at hP
  dsimp only at hP
  show wpA (tabW fns) (.seq _ (.block 6 (.loop lp3_3))) _ _
  unfold nrm
  simp -implicitDefEqProofs (disch := omega) only [go_sem, seval, go_sem]
  refine wp_loopS (e1S p l ch k2 d1 q g g12 Bq Bl Bn) (fun i => (sureL l).length - i) 0 ⟨by omega, ⟨⟨by simp -implicitDefEqProofs (disch := omega) only [go_sem, seval, c0], by simp -implicitDefEqProofs (disch := omega) only [go_sem, seval, c1], by simp -implicitDefEqProofs (disch := omega) only [go_sem, seval, c5], by simp -implicitDefEqProofs (disch := omega) only [go_sem, seval, d5], by simp -implicitDefEqProofs (disch := omega) only [go_sem, seval, c7]⟩, by unfold PairC; simp -implicitDefEqProofs (disch := omega) only [go_sem, seval, hP], by simp -implicitDefEqProofs (disch := omega) only [go_sem, seval, h10], by simp -implicitDefEqProofs (disch := omega) only [go_sem, seval, h11], by simp -implicitDefEqProofs (disch := omega) only [go_sem, seval, h12], by simp -implicitDefEqProofs (disch := omega) only [go_sem, seval, s12], by simp -implicitDefEqProofs (disch := omega) only [go_sem, seval, sq], by simp -implicitDefEqProofs (disch := omega) only [go_sem, seval, sl], by simp -implicitDefEqProofs (disch := omega) only [go_sem, seval, sn]⟩, by simp -implicitDefEqProofs (disch := omega) only [go_sem, seval, h13], by simp -implicitDefEqProofs (disch := omega) only [go_sem, seval, go_sem]⟩ ?_
  clear c0 c1 c5 d5 c7 hP h10 h11 h12 s12 sq sl sn h13
  clear t σ
  rintro i ⟨t, σ⟩ ⟨hi, ⟨⟨c0, c1, c5, d5, c7⟩, hP, h10, h11, h12, s12, sq, sl, sn⟩, h13, h22⟩
  simp only at c0 c1 c5 d5 c7 h10 h11 h12 s12 sq sl sn h13 h22
  unfold PairC at hP
  dsimp only at hP
  have n0 : (q == 1536) = false := beq_no (by simp at hq; omega)
  have n2 : (q == 7936) = false := beq_no (by simp at hq; omega)
  have n3 : (7936 == q) = false := beq_no (by simp at hq; omega)
  simp -implicitDefEqProofs (disch := omega) only [go_sem, seval, lp3_3, h11, h22]
  refine condC_dec (fun hc => ?_) (fun hc => ?_)
  · have hsk := K_srt p hf
    have hkl := K_len p l
    have hlen := hf.1.len
    have hnl := now_len_le l
    have hsl := sure_len_le l
    have hR := fun k => Read_K k (Kof p l) ch (gt (sureL l) i).n hsk (by omega) (sure_nm hf hc)
    have hF := fun k => Find_ok k (nowL l) (gt (sureL l) i).n (by omega)
    have fin : ∀ (t' : Nat → V) (σ' : Store), (t' 0 = t 0 ∧ t' 1 = t 1 ∧ t' 5 = t 5 ∧ t' 7 = t 7 ∧ t' 10 = t 10 ∧ t' 11 = t 11 ∧ t' 12 = t 12) → (σ' 384 = σ 384 ∧ σ' 512 = σ 512 ∧ σ' 7296 = σ 7296 ∧ σ' q = σ q ∧ σ' 7936 = σ 7936 ∧ σ' (6592 + 2) = σ (6592 + 2)) → t' 13 = .int .i64 (cnt p l (lo l).length : Int) → t' 22 = .int .i64 ((i + 1 : Nat) : Int) → ∃ b, (sureL l).length - b < (sureL l).length - i ∧ e1S p l ch k2 d1 q g g12 Bq Bl Bn b ⟨t', σ'⟩ := by
      rintro t' σ' ⟨a0, a1, a5, a7, a10, a11, a12⟩ ⟨b5, b7, b113, bq, b123, bn⟩ z13 z14
      exact ⟨i + 1, by omega, by omega, ⟨⟨a0.trans c0, a1.trans c1, a5.trans c5, b5.trans d5, a7.trans c7⟩, b7.trans hP, a10.trans h10, a11.trans h11, a12.trans h12, b113.trans s12, bq.trans sq, b123.trans sl, bn.trans sn⟩, z13, z14⟩
    have b0 := fcell0 (sureL l) i hc
    have b1 := fcell1 (sureL l) i hc
    obtain ⟨u1, u2⟩ := fto (sureL l) i hc
    have hfirm := fun h1 h2 => firm (keepB p.f2) p.f3 hf.1.srt hf.1.ok (g := gt (sureL l) i) (by rw [gt_eq hc]; exact List.getElem_mem hc) h1 h2
    rw [show kept (crL (keepB p.f2) p.f3 l) = Kof p l from rfl] at hfirm
    have hrn := flen (nowL l)
    have hek := elen (Kof p l)
    have hfd1 : (fD (fnd DF.n (nowL l) (gt (sureL l) i).n)).s = fS (fnd DF.n (nowL l) (gt (sureL l) i).n) := by unfold fD fS; cases fnd DF.n (nowL l) (gt (sureL l) i).n <;> rfl
    obtain ⟨⟨fn, fs, fp⟩, hfe⟩ : ∃ f, f = fD (fnd DF.n (nowL l) (gt (sureL l) i).n) := ⟨_, rfl⟩
    rw [← hfe] at hF hfd1
    simp only at hfd1
    clear hfe
    generalize (fnd DF.n (nowL l) (gt (sureL l) i).n).isSome = A1 at *
    generalize fS (fnd DF.n (nowL l) (gt (sureL l) i).n) = S1 at *
    subst hfd1
    generalize faceA (Kof p l) (gt (sureL l) i).n = A3 at *
    generalize faceS (Kof p l) (gt (sureL l) i).n = S3 at *
    generalize gt (sureL l) i = x at *
    simp -implicitDefEqProofs (disch := omega) only [go_sem, seval, DF.v] at hF
    rcases hD with ⟨g1, rfl, rfl⟩ | ⟨hK0, rfl⟩ <;> rcases hN with ⟨g2, rfl, rfl⟩ | ⟨k, rfl⟩
    · have hR := hR .ro
      have hF := hF .ro
      simp -implicitDefEqProofs (disch := omega) only [go_sem, seval, dkv] at hR sq
      cases A1
      · simp -implicitDefEqProofs (disch := omega) only [go_sem, seval, c7, hP, h10, h11, h22, sq, sl, sn, b0, u1, u2, hrn, fro, n0, hF]
        refine wp_draw_E ?_
        simp -implicitDefEqProofs (disch := omega) only [go_sem, seval, c7, hP, h10, h11, h22, sq, sl, sn, b0, b1, u1, u2, hek, ero, n0, n2, n3, hR]
        refine wp_draw_E ?_
        simp -implicitDefEqProofs (disch := omega) only [go_sem, seval, c7, hP, h10, h11, h22, sq, sl, sn, b0, b1, u1, u2, n0, n2, n3]
        exact fin _ _ (by simp -implicitDefEqProofs (disch := omega) only [go_sem, seval, go_sem]) (by simp -implicitDefEqProofs (disch := omega) only [go_sem, seval, n0]) (by simp -implicitDefEqProofs (disch := omega) only [go_sem, seval, h13]) (by simp -implicitDefEqProofs (disch := omega) only [go_sem, seval, go_sem])
      · by_cases e1 : fs = x.s
        · obtain ⟨rfl, rfl⟩ := hfirm rfl e1
          simp only [if_true] at hR
          simp -implicitDefEqProofs (disch := omega) only [go_sem, seval, c7, hP, h10, h11, h22, sq, sl, sn, b0, u1, u2, hrn, fro, n0, hF]
          refine wp_draw_E ?_
          simp -implicitDefEqProofs (disch := omega) only [go_sem, seval, c7, hP, h10, h11, h22, sq, sl, sn, b0, b1, u1, u2, hek, ero, n0, n2, n3, hR]
          refine wp_draw_E ?_
          simp -implicitDefEqProofs (disch := omega) only [go_sem, seval, c7, hP, h10, h11, h22, sq, sl, sn, b0, b1, u1, u2, n0, n2, n3, e1]
          exact fin _ _ (by simp -implicitDefEqProofs (disch := omega) only [go_sem, seval, go_sem]) (by simp -implicitDefEqProofs (disch := omega) only [go_sem, seval, n0]) (by simp -implicitDefEqProofs (disch := omega) only [go_sem, seval, h13]) (by simp -implicitDefEqProofs (disch := omega) only [go_sem, seval, go_sem])
        · simp -implicitDefEqProofs (disch := omega) only [go_sem, seval, c7, hP, h10, h11, h22, sq, sl, sn, b0, u1, u2, hrn, fro, n0, hF]
          refine wp_draw_E ?_
          simp -implicitDefEqProofs (disch := omega) only [go_sem, seval, c7, hP, h10, h11, h22, sq, sl, sn, b0, b1, u1, u2, hek, ero, n0, n2, n3, hR]
          refine wp_draw_E ?_
          simp -implicitDefEqProofs (disch := omega) only [go_sem, seval, c7, hP, h10, h11, h22, sq, sl, sn, b0, b1, u1, u2, n0, n2, n3, e1]
          exact fin _ _ (by simp -implicitDefEqProofs (disch := omega) only [go_sem, seval, go_sem]) (by simp -implicitDefEqProofs (disch := omega) only [go_sem, seval, n0]) (by simp -implicitDefEqProofs (disch := omega) only [go_sem, seval, h13]) (by simp -implicitDefEqProofs (disch := omega) only [go_sem, seval, go_sem])
    · have hR := hR .ro
      have hF := hF k
      simp -implicitDefEqProofs (disch := omega) only [go_sem, seval, dkv] at hR sq
      cases A1
      · simp -implicitDefEqProofs (disch := omega) only [go_sem, seval, c7, hP, h10, h11, h22, sq, sl, b0, u1, u2, hrn, fro, n0, hF]
        refine wp_draw_E ?_
        simp -implicitDefEqProofs (disch := omega) only [go_sem, seval, c7, hP, h10, h11, h22, sq, sl, b0, b1, u1, u2, hek, ero, n0, n2, n3, hR]
        refine wp_draw_E ?_
        simp -implicitDefEqProofs (disch := omega) only [go_sem, seval, c7, hP, h10, h11, h22, sq, sl, b0, b1, u1, u2, n0, n2, n3]
        exact fin _ _ (by simp -implicitDefEqProofs (disch := omega) only [go_sem, seval, go_sem]) (by simp -implicitDefEqProofs (disch := omega) only [go_sem, seval, n0]) (by simp -implicitDefEqProofs (disch := omega) only [go_sem, seval, h13]) (by simp -implicitDefEqProofs (disch := omega) only [go_sem, seval, go_sem])
      · by_cases e1 : fs = x.s
        · obtain ⟨rfl, rfl⟩ := hfirm rfl e1
          simp only [if_true] at hR
          simp -implicitDefEqProofs (disch := omega) only [go_sem, seval, c7, hP, h10, h11, h22, sq, sl, b0, u1, u2, hrn, fro, n0, hF]
          refine wp_draw_E ?_
          simp -implicitDefEqProofs (disch := omega) only [go_sem, seval, c7, hP, h10, h11, h22, sq, sl, b0, b1, u1, u2, hek, ero, n0, n2, n3, hR]
          refine wp_draw_E ?_
          simp -implicitDefEqProofs (disch := omega) only [go_sem, seval, c7, hP, h10, h11, h22, sq, sl, b0, b1, u1, u2, n0, n2, n3, e1]
          exact fin _ _ (by simp -implicitDefEqProofs (disch := omega) only [go_sem, seval, go_sem]) (by simp -implicitDefEqProofs (disch := omega) only [go_sem, seval, n0]) (by simp -implicitDefEqProofs (disch := omega) only [go_sem, seval, h13]) (by simp -implicitDefEqProofs (disch := omega) only [go_sem, seval, go_sem])
        · simp -implicitDefEqProofs (disch := omega) only [go_sem, seval, c7, hP, h10, h11, h22, sq, sl, b0, u1, u2, hrn, fro, n0, hF]
          refine wp_draw_E ?_
          simp -implicitDefEqProofs (disch := omega) only [go_sem, seval, c7, hP, h10, h11, h22, sq, sl, b0, b1, u1, u2, hek, ero, n0, n2, n3, hR]
          refine wp_draw_E ?_
          simp -implicitDefEqProofs (disch := omega) only [go_sem, seval, c7, hP, h10, h11, h22, sq, sl, b0, b1, u1, u2, n0, n2, n3, e1]
          exact fin _ _ (by simp -implicitDefEqProofs (disch := omega) only [go_sem, seval, go_sem]) (by simp -implicitDefEqProofs (disch := omega) only [go_sem, seval, n0]) (by simp -implicitDefEqProofs (disch := omega) only [go_sem, seval, h13]) (by simp -implicitDefEqProofs (disch := omega) only [go_sem, seval, go_sem])
    · have hR := hR .nil
      have hF := hF .ro
      rw [show (Kof p l).length = 0 by rw [hK0]; rfl, show rows DE.v (Kof p l) = [] by rw [hK0]; rfl] at hR
      simp -implicitDefEqProofs (disch := omega) only [go_sem, seval, dkv] at hR sq
      cases A1
      · simp -implicitDefEqProofs (disch := omega) only [go_sem, seval, c7, hP, h10, h11, h22, sq, sn, b0, u1, u2, hrn, fro, n0, hF]
        refine wp_draw_E ?_
        simp -implicitDefEqProofs (disch := omega) only [go_sem, seval, c7, hP, h10, h11, h22, sq, sn, b0, b1, u1, u2, hek, ero, n0, n2, n3, hR]
        refine wp_draw_E ?_
        simp -implicitDefEqProofs (disch := omega) only [go_sem, seval, c7, hP, h10, h11, h22, sq, sn, b0, b1, u1, u2, n0, n2, n3]
        exact fin _ _ (by simp -implicitDefEqProofs (disch := omega) only [go_sem, seval, go_sem]) (by simp -implicitDefEqProofs (disch := omega) only [go_sem, seval, n0]) (by simp -implicitDefEqProofs (disch := omega) only [go_sem, seval, h13]) (by simp -implicitDefEqProofs (disch := omega) only [go_sem, seval, go_sem])
      · by_cases e1 : fs = x.s
        · obtain ⟨rfl, rfl⟩ := hfirm rfl e1
          simp only [if_true] at hR
          simp -implicitDefEqProofs (disch := omega) only [go_sem, seval, c7, hP, h10, h11, h22, sq, sn, b0, u1, u2, hrn, fro, n0, hF]
          refine wp_draw_E ?_
          simp -implicitDefEqProofs (disch := omega) only [go_sem, seval, c7, hP, h10, h11, h22, sq, sn, b0, b1, u1, u2, hek, ero, n0, n2, n3, hR]
          refine wp_draw_E ?_
          simp -implicitDefEqProofs (disch := omega) only [go_sem, seval, c7, hP, h10, h11, h22, sq, sn, b0, b1, u1, u2, n0, n2, n3, e1]
          exact fin _ _ (by simp -implicitDefEqProofs (disch := omega) only [go_sem, seval, go_sem]) (by simp -implicitDefEqProofs (disch := omega) only [go_sem, seval, n0]) (by simp -implicitDefEqProofs (disch := omega) only [go_sem, seval, h13]) (by simp -implicitDefEqProofs (disch := omega) only [go_sem, seval, go_sem])
        · simp -implicitDefEqProofs (disch := omega) only [go_sem, seval, c7, hP, h10, h11, h22, sq, sn, b0, u1, u2, hrn, fro, n0, hF]
          refine wp_draw_E ?_
          simp -implicitDefEqProofs (disch := omega) only [go_sem, seval, c7, hP, h10, h11, h22, sq, sn, b0, b1, u1, u2, hek, ero, n0, n2, n3, hR]
          refine wp_draw_E ?_
          simp -implicitDefEqProofs (disch := omega) only [go_sem, seval, c7, hP, h10, h11, h22, sq, sn, b0, b1, u1, u2, n0, n2, n3, e1]
          exact fin _ _ (by simp -implicitDefEqProofs (disch := omega) only [go_sem, seval, go_sem]) (by simp -implicitDefEqProofs (disch := omega) only [go_sem, seval, n0]) (by simp -implicitDefEqProofs (disch := omega) only [go_sem, seval, h13]) (by simp -implicitDefEqProofs (disch := omega) only [go_sem, seval, go_sem])
    · have hR := hR .nil
      have hF := hF k
      rw [show (Kof p l).length = 0 by rw [hK0]; rfl, show rows DE.v (Kof p l) = [] by rw [hK0]; rfl] at hR
      simp -implicitDefEqProofs (disch := omega) only [go_sem, seval, dkv] at hR sq
      cases A1
      · simp -implicitDefEqProofs (disch := omega) only [go_sem, seval, c7, hP, h10, h11, h22, sq, b0, u1, u2, hrn, fro, n0, hF]
        refine wp_draw_E ?_
        simp -implicitDefEqProofs (disch := omega) only [go_sem, seval, c7, hP, h10, h11, h22, sq, b0, b1, u1, u2, hek, ero, n0, n2, n3, hR]
        refine wp_draw_E ?_
        simp -implicitDefEqProofs (disch := omega) only [go_sem, seval, c7, hP, h10, h11, h22, sq, b0, b1, u1, u2, n0, n2, n3]
        exact fin _ _ (by simp -implicitDefEqProofs (disch := omega) only [go_sem, seval, go_sem]) (by simp -implicitDefEqProofs (disch := omega) only [go_sem, seval, n0]) (by simp -implicitDefEqProofs (disch := omega) only [go_sem, seval, h13]) (by simp -implicitDefEqProofs (disch := omega) only [go_sem, seval, go_sem])
      · by_cases e1 : fs = x.s
        · obtain ⟨rfl, rfl⟩ := hfirm rfl e1
          simp only [if_true] at hR
          simp -implicitDefEqProofs (disch := omega) only [go_sem, seval, c7, hP, h10, h11, h22, sq, b0, u1, u2, hrn, fro, n0, hF]
          refine wp_draw_E ?_
          simp -implicitDefEqProofs (disch := omega) only [go_sem, seval, c7, hP, h10, h11, h22, sq, b0, b1, u1, u2, hek, ero, n0, n2, n3, hR]
          refine wp_draw_E ?_
          simp -implicitDefEqProofs (disch := omega) only [go_sem, seval, c7, hP, h10, h11, h22, sq, b0, b1, u1, u2, n0, n2, n3, e1]
          exact fin _ _ (by simp -implicitDefEqProofs (disch := omega) only [go_sem, seval, go_sem]) (by simp -implicitDefEqProofs (disch := omega) only [go_sem, seval, n0]) (by simp -implicitDefEqProofs (disch := omega) only [go_sem, seval, h13]) (by simp -implicitDefEqProofs (disch := omega) only [go_sem, seval, go_sem])
        · simp -implicitDefEqProofs (disch := omega) only [go_sem, seval, c7, hP, h10, h11, h22, sq, b0, u1, u2, hrn, fro, n0, hF]
          refine wp_draw_E ?_
          simp -implicitDefEqProofs (disch := omega) only [go_sem, seval, c7, hP, h10, h11, h22, sq, b0, b1, u1, u2, hek, ero, n0, n2, n3, hR]
          refine wp_draw_E ?_
          simp -implicitDefEqProofs (disch := omega) only [go_sem, seval, c7, hP, h10, h11, h22, sq, b0, b1, u1, u2, n0, n2, n3, e1]
          exact fin _ _ (by simp -implicitDefEqProofs (disch := omega) only [go_sem, seval, go_sem]) (by simp -implicitDefEqProofs (disch := omega) only [go_sem, seval, n0]) (by simp -implicitDefEqProofs (disch := omega) only [go_sem, seval, h13]) (by simp -implicitDefEqProofs (disch := omega) only [go_sem, seval, go_sem])
  · obtain rfl : i = (sureL l).length := by omega
    have ht := torn_le (keepB p.f2) p.f3 hf.1.srt hf.1.ok
    simp -implicitDefEqProofs (disch := omega) only [go_sem, seval, go_sem]
    refine ⟨⟨by simp -implicitDefEqProofs (disch := omega) only [go_sem, seval, c0], by simp -implicitDefEqProofs (disch := omega) only [go_sem, seval, c1], by simp -implicitDefEqProofs (disch := omega) only [go_sem, seval, c5], by simp -implicitDefEqProofs (disch := omega) only [go_sem, seval, d5], by simp -implicitDefEqProofs (disch := omega) only [go_sem, seval, c7]⟩, cnt p l (lo l).length, ?_, by simp -implicitDefEqProofs (disch := omega) only [go_sem, seval, h13]⟩
    unfold cnt
    rw [take_all (Nat.le_refl _)]
    exact ht
theorem apart_ok (p : Par) (ho1 : ∀ a ∈ p.la, okAct a) (ho2 : ∀ a ∈ p.lb, okAct a) (hl1 : p.la.length ≤ 140737488355328) (hl2 : p.lb.length ≤ 140737488355328) : fnA (tabW fns) [.bor, .bor, .bor] ir3 [.sl p.k p.la.length (rows Act.v p.la), .sl p.k' p.lb.length (rows Act.v p.lb), .agg [.int .i64 p.f1, .int .i64 p.f2, .int .i64 p.f3]] (fun q => q = (.bool true, [])) := by
  have b := begun_ok
  simp -implicitDefEqProofs (disch := omega) only [go_sem, seval, Pv, dkv, sureZ, sureR] at b
  refine fnA_start rfl ?_
  refine wp_cut (fun s => s.t 0 = .sl p.k p.la.length (rows Act.v p.la) ∧ s.t 1 = .sl p.k' p.lb.length (rows Act.v p.lb) ∧ s.t 5 = .ptr 384 1 0 ∧ s.σ 384 = ⟨1, .rw, false, [.int .i64 p.f1, .int .i64 p.f2, .int .i64 p.f3]⟩ ∧ (s.σ 1792).gen = 0 ∧ (s.σ 512).gen = 0) ?_ ?_
  · unfold nrm
    simp -implicitDefEqProofs (disch := omega) only [go_sem, seval, go_sem]
  rintro ⟨t, σ⟩ ⟨h0, h1, h5, s5, z27, z7⟩
  simp only at h0 h1 h5 s5 z27 z7
  refine wp_cut (m0S p) ?_ ?_
  · unfold nrm
    simp -implicitDefEqProofs (disch := omega) only [go_sem, seval, b, z27, z7]
    exact ⟨⟨by simp -implicitDefEqProofs (disch := omega) only [go_sem, seval, h0], by simp -implicitDefEqProofs (disch := omega) only [go_sem, seval, h1], by simp -implicitDefEqProofs (disch := omega) only [go_sem, seval, h5], by simp -implicitDefEqProofs (disch := omega) only [go_sem, seval, s5], by simp -implicitDefEqProofs (disch := omega) only [go_sem, seval, go_sem]⟩, by unfold PairC; simp -implicitDefEqProofs (disch := omega) only [go_sem, seval, sureZ, sureR], by simp -implicitDefEqProofs (disch := omega) only [go_sem, seval, dkv]⟩
  intro s1 g1
  refine wp_cut (m1S p) (loop0_ok p ho1 hl1 s1 g1) ?_
  intro s2 g2
  refine wp_cut (m2S p) (sync1_ok p s2 g2) ?_
  intro s3 g3
  refine wp_cut (m3S p) (sync2_ok p s3 g3) ?_
  intro s4 g4
  refine wp_cut (m4S p) (loop3_ok p ho2 hl2 s4 g4) ?_
  intro s5 g5
  refine wp_cut (m5S p) (loose_ok p s5 g5) ?_
  intro s6 g6
  refine wp_cut (m6S 7744 true p) (crash_ok p s6 g6) ?_
  intro s7 g7
  refine wp_cut (m6S 7936 false p) (up_ok p s7 g7) ?_
  intro s8 g8
  refine wp_cut (m7S p) (zero_ok p s8 g8) ?_
  intro s9 g9
  refine wp_cut (m8S p) (count_ok p s9 g9) ?_
  intro s10 g10
  refine wp_cut (m9S p) (firm_ok p s10 g10) ?_
  rintro ⟨t, σ⟩ ⟨⟨c0, c1, c5, d5, c7⟩, c, hc, h13⟩
  simp only at c0 c1 c5 d5 c7 h13
  have aw := awake_ok
  unfold one at hc
  by_cases hf3 : 0 < p.f3
  · rw [if_pos hf3] at hc
    have hc1 : (c : Int) ≤ 1 := by omega
    simp -implicitDefEqProofs (disch := omega) only [go_sem, seval, aw, h13, c5, d5, hf3, hc1]
  · rw [if_neg hf3] at hc
    obtain rfl : c = 0 := by omega
    simp -implicitDefEqProofs (disch := omega) only [go_sem, seval, aw, h13, c5, d5, hf3]
theorem tAct : tysOf Try.prog 34 = some [3, 9, 9, 9, 3, 24] := by kernel_rfl
theorem tFall : tysOf Try.prog 24 = some [3, 3, 3] := by kernel_rfl
theorem uInt : Try.prog.underlying 3 = some (.int .i64) := by kernel_rfl
theorem uStr : Try.prog.underlying 9 = some .string := by kernel_rfl
theorem uActs : Try.prog.underlying 22 = some (.slice 34) := by kernel_rfl
theorem bAct : 1 ≤ Try.prog.bytesOf 34 := by decide +kernel
theorem fits_fall {d : Nat} {r : List V} (h : Fits Try.prog (d + 2) 24 r) : ∃ y1 y2 y3 : Int, r = [.int .i64 y1, .int .i64 y2, .int .i64 y3] := by
  obtain ⟨c1, d1, rfl, e1, c2, d2, rfl, e2, c3, d3, rfl, e3, rfl⟩ := fits_struct tFall h
  obtain ⟨y1, rfl, _⟩ := fits_int uInt e1
  obtain ⟨y2, rfl, _⟩ := fits_int uInt e2
  obtain ⟨y3, rfl, _⟩ := fits_int uInt e3
  exact ⟨y1, y2, y3, rfl⟩
theorem fits_act {d : Nat} {r : List V} (h : Fits Try.prog (d + 3) 34 r) : ∃ a : Act, r = a.v ∧ okAct a := by
  have := reach_lt
  obtain ⟨a1, b1, rfl, f1, a2, b2, rfl, f2, a3, b3, rfl, f3, a4, b4, rfl, f4, a5, b5, rfl, f5, a6, b6, rfl, f6, rfl⟩ := fits_struct tAct h
  obtain ⟨x1, rfl, _⟩ := fits_int uInt f1
  obtain ⟨x2, rfl, g2⟩ := fits_str uStr f2
  obtain ⟨x3, rfl, g3⟩ := fits_str uStr f3
  obtain ⟨x4, rfl, _⟩ := fits_str uStr f4
  obtain ⟨x5, rfl, _⟩ := fits_int uInt f5
  obtain ⟨y1, y2, y3, rfl⟩ := fits_fall f6
  exact ⟨⟨x1, x2, x3, x4, x5, y1, y2, y3⟩, rfl, by show x2.length ≤ _; omega, by show x3.length ≤ _; omega⟩
theorem acts_len {n : Nat} (h : n * Try.prog.bytesOf 34 ≤ reachBytes) : n ≤ 140737488355328 := by
  have := reach_lt
  have h1 := Nat.mul_le_mul_left n bAct
  omega
theorem diskApart_main (xs : List V) (h : FitsA Try.prog 8 [22, 22, 24] xs) : fnA (tabW fns) ([22, 22, 24].map fun _ => Mode.bor) ir3 xs (fun p => p = (.bool true, [])) := by
  obtain ⟨x, ys, rfl, h1, h⟩ := fitsA_s h
  obtain ⟨y, zs, rfl, h2, h⟩ := fitsA_s h
  obtain ⟨z, ws, rfl, h3, h⟩ := fitsA_s h
  obtain rfl := fitsA_0 h
  obtain ⟨k, l, rfl, _, _, hb, hp⟩ := fit_slice_rows (d := 7) Act.v okAct uActs (fun r hr => fits_act hr) h1
  obtain ⟨k', l', rfl, _, _, hb', hp'⟩ := fit_slice_rows (d := 7) Act.v okAct uActs (fun r hr => fits_act hr) h2
  obtain ⟨v1, rfl, g1⟩ := fit_struct (d := 7) tFall h3
  obtain ⟨c1, d1, rfl, e1, c2, d2, rfl, e2, c3, d3, rfl, e3, rfl⟩ := g1
  obtain ⟨y1, rfl, _⟩ := fits_int uInt e1
  obtain ⟨y2, rfl, _⟩ := fits_int uInt e2
  obtain ⟨y3, rfl, _⟩ := fits_int uInt e3
  exact apart_ok ⟨k, k', l, l', y1, y2, y3⟩ hp hp' (acts_len hb) (acts_len hb')
end Go.Vm.Ytclcadpmkkeaeaa
