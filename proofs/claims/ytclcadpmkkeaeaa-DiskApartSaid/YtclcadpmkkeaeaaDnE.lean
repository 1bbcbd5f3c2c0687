/- (seval) Behind a loss of power: the power fails. -/
import Derived.Test.YtclcadpmkkeaeaaDnA
set_option linter.unusedSectionVars false
set_option linter.unusedSimpArgs false
set_option linter.unusedVariables false
set_option maxHeartbeats 40000000
set_option maxRecDepth 10000
namespace Go.Vm.Ytclcadpmkkeaeaa
open Go.Proofs
def lo (l : List DE) : List Tx := looN (nowL l) (sureL l)
def Kof (p : Par) (l : List DE) : List DE := kept (crL (keepB p.f2) p.f3 l)
def m5S (p : Par) (s : St) : Prop := Cst p s ∧ ∃ l ch k2 c0 c1 q ql, (q, ql) ∈ trips ∧ Fit2 l ch 51 ∧ PairC l ch k2 c0 c1 s.σ ∧ MemG q ql (6592 + 2) l ch c0 c1 s.σ ∧ s.t 10 = c1 ∧ s.t 11 = .sl k2 (sureL l).length (rows DF.v (sureL l)) ∧ ∃ g12, s.t 12 = .sli 7296 g12 0 (lo l).length 1 ∧ s.σ 7296 = ⟨g12, .rw, true, (lo l).map V.str⟩
def finS (p : Par) (l : List DE) (ch : Nat) (k2 : SK) (c1 : V) (q g g12 : Nat) (Bq Bl Bn : Blk) (b : Nat) (s : St) : Prop := Cst p s ∧ PairC l ch k2 (.ptr q g 0) c1 s.σ ∧ s.t 10 = c1 ∧ s.t 11 = .sl k2 (sureL l).length (rows DF.v (sureL l)) ∧ s.t 12 = .sli 7296 g12 0 (lo l).length 1 ∧ s.σ 7296 = ⟨g12, .rw, true, (lo l).map V.str⟩ ∧ s.σ q = Bq ∧ s.σ b = Bl ∧ s.σ (6592 + 2) = Bn
def diskF (K : List DE) (ch g b : Nat) (off : Bool) (Bq Bl : Blk) : Prop := (∃ g1, Bq = ⟨g, .rw, false, dkv (.sli b g1 0 K.length 6) (-1) ch off⟩ ∧ Bl = ⟨g1, .rw, true, rows DE.v K⟩) ∨ (K = [] ∧ Bq = ⟨g, .rw, false, dkv (.sl .nil 0 []) (-1) ch off⟩)
def nowF (l : List DE) (c1 : V) (Bn : Blk) : Prop := (∃ g2, c1 = .sli (6592 + 2) g2 0 (nowL l).length 3 ∧ Bn = ⟨g2, .rw, true, rows DF.v (nowL l)⟩) ∨ ∃ k, c1 = .sl k (nowL l).length (rows DF.v (nowL l))
def m6S (b : Nat) (off : Bool) (p : Par) (s : St) : Prop := ∃ l ch k2 c1 q g g12 Bq Bl Bn, q ∈ [1792, 3776, 6592] ∧ Fit2 l ch 51 ∧ diskF (Kof p l) ch g b off Bq Bl ∧ nowF l c1 Bn ∧ finS p l ch k2 c1 q g g12 Bq Bl Bn b s
def L4 : IC := match ir3.body with | .seq _ (.seq _ (.seq _ (.seq _ (.seq _ (.seq _ (.seq a _)))))) => a | _ => .skip
def L5 : IC := match ir3.body with | .seq _ (.seq _ (.seq _ (.seq _ (.seq _ (.seq _ (.seq _ (.seq a _))))))) => a | _ => .skip
def L6 : IC := match ir3.body with | .seq _ (.seq _ (.seq _ (.seq _ (.seq _ (.seq _ (.seq _ (.seq _ (.seq a _)))))))) => a | _ => .skip
theorem loose_ok (p : Par) (s : St) (h : m4S p s) : wpA (tabW fns) L4 (nrm (m5S p)) s := by
  obtain ⟨t, σ⟩ := s
  obtain ⟨⟨c0, c1, c5, d5, c7⟩, l, ch, k2, d0, d1, q, ql, hq, hf, hP, g, rfl, hM⟩ := h
  simp only at c0 c1 c5 d5 c7 hM
  unfold PairC at hP
  dsimp only at hP
  have hrn := flen (nowL l)
  have hlen := hf.1.len
  have hnl := now_len_le l
  have hsl := sure_len_le l
  have hL := fun k => Loose_ok k k2 (nowL l) (sureL l) (-1) ch (srt_now hf.1.srt) (by omega) (by omega)
  have hlr : ((lo l).map V.str).any (hasRo 7) = false := str_ro _
  have hls : ((lo l).map V.str).length = (lo l).length := List.length_map _
  rw [show looN (nowL l) (sureL l) = lo l from rfl] at hL
  unfold nrm L4 ir3
  simp only
  have hqq := hq
  simp only [trips, List.mem_cons, List.not_mem_nil, or_false, Prod.mk.injEq] at hq
  rcases hM with ⟨g1, g2, sq, sq1, rfl, sq2⟩ | ⟨g1, k, sq, sq1, rfl⟩ | ⟨k, rfl, sq, rfl⟩
  · have d := hL .ro
    simp -implicitDefEqProofs (disch := omega) only [go_sem, seval, rk] at d
    rcases hq with ⟨rfl, rfl⟩ | ⟨rfl, rfl⟩ | ⟨rfl, rfl⟩
    · refine wp_draw_E ?_
      simp -implicitDefEqProofs (disch := omega) only [go_sem, seval, c7, hP, sq2, d, hrn, fro, hlr, hls]
      exact ⟨⟨by simp -implicitDefEqProofs (disch := omega) only [go_sem, seval, c0], by simp -implicitDefEqProofs (disch := omega) only [go_sem, seval, c1], by simp -implicitDefEqProofs (disch := omega) only [go_sem, seval, c5], by simp -implicitDefEqProofs (disch := omega) only [go_sem, seval, d5], by simp -implicitDefEqProofs (disch := omega) only [go_sem, seval, c7]⟩, l, ch, k2, .ptr 1792 g 0, .sli (6592 + 2) g2 0 (nowL l).length 3, 1792, 4096, hqq, hf, by unfold PairC; simp -implicitDefEqProofs (disch := omega) only [go_sem, seval, hP], ⟨g, rfl, .inl ⟨g1, g2, by simp -implicitDefEqProofs (disch := omega) only [go_sem, seval, sq], by simp -implicitDefEqProofs (disch := omega) only [go_sem, seval, sq1], rfl, by simp -implicitDefEqProofs (disch := omega) only [go_sem, seval, sq2]⟩⟩, by simp -implicitDefEqProofs (disch := omega) only [go_sem, seval, go_sem], by simp -implicitDefEqProofs (disch := omega) only [go_sem, seval, go_sem], (σ 7296).gen + 1, by simp -implicitDefEqProofs (disch := omega) only [go_sem, seval, go_sem], by simp -implicitDefEqProofs (disch := omega) only [go_sem, seval, go_sem]⟩
    · refine wp_draw_E ?_
      simp -implicitDefEqProofs (disch := omega) only [go_sem, seval, c7, hP, sq2, d, hrn, fro, hlr, hls]
      exact ⟨⟨by simp -implicitDefEqProofs (disch := omega) only [go_sem, seval, c0], by simp -implicitDefEqProofs (disch := omega) only [go_sem, seval, c1], by simp -implicitDefEqProofs (disch := omega) only [go_sem, seval, c5], by simp -implicitDefEqProofs (disch := omega) only [go_sem, seval, d5], by simp -implicitDefEqProofs (disch := omega) only [go_sem, seval, c7]⟩, l, ch, k2, .ptr 3776 g 0, .sli (6592 + 2) g2 0 (nowL l).length 3, 3776, 4096, hqq, hf, by unfold PairC; simp -implicitDefEqProofs (disch := omega) only [go_sem, seval, hP], ⟨g, rfl, .inl ⟨g1, g2, by simp -implicitDefEqProofs (disch := omega) only [go_sem, seval, sq], by simp -implicitDefEqProofs (disch := omega) only [go_sem, seval, sq1], rfl, by simp -implicitDefEqProofs (disch := omega) only [go_sem, seval, sq2]⟩⟩, by simp -implicitDefEqProofs (disch := omega) only [go_sem, seval, go_sem], by simp -implicitDefEqProofs (disch := omega) only [go_sem, seval, go_sem], (σ 7296).gen + 1, by simp -implicitDefEqProofs (disch := omega) only [go_sem, seval, go_sem], by simp -implicitDefEqProofs (disch := omega) only [go_sem, seval, go_sem]⟩
    · refine wp_draw_E ?_
      simp -implicitDefEqProofs (disch := omega) only [go_sem, seval, c7, hP, sq2, d, hrn, fro, hlr, hls]
      exact ⟨⟨by simp -implicitDefEqProofs (disch := omega) only [go_sem, seval, c0], by simp -implicitDefEqProofs (disch := omega) only [go_sem, seval, c1], by simp -implicitDefEqProofs (disch := omega) only [go_sem, seval, c5], by simp -implicitDefEqProofs (disch := omega) only [go_sem, seval, d5], by simp -implicitDefEqProofs (disch := omega) only [go_sem, seval, c7]⟩, l, ch, k2, .ptr 6592 g 0, .sli (6592 + 2) g2 0 (nowL l).length 3, 6592, 6592 + 1, hqq, hf, by unfold PairC; simp -implicitDefEqProofs (disch := omega) only [go_sem, seval, hP], ⟨g, rfl, .inl ⟨g1, g2, by simp -implicitDefEqProofs (disch := omega) only [go_sem, seval, sq], by simp -implicitDefEqProofs (disch := omega) only [go_sem, seval, sq1], rfl, by simp -implicitDefEqProofs (disch := omega) only [go_sem, seval, sq2]⟩⟩, by simp -implicitDefEqProofs (disch := omega) only [go_sem, seval, go_sem], by simp -implicitDefEqProofs (disch := omega) only [go_sem, seval, go_sem], (σ 7296).gen + 1, by simp -implicitDefEqProofs (disch := omega) only [go_sem, seval, go_sem], by simp -implicitDefEqProofs (disch := omega) only [go_sem, seval, go_sem]⟩
  · have d := hL k
    simp -implicitDefEqProofs (disch := omega) only [go_sem, seval, rk] at d
    rcases hq with ⟨rfl, rfl⟩ | ⟨rfl, rfl⟩ | ⟨rfl, rfl⟩
    · refine wp_draw_E ?_
      simp -implicitDefEqProofs (disch := omega) only [go_sem, seval, c7, hP, d, hrn, fro, hlr, hls]
      exact ⟨⟨by simp -implicitDefEqProofs (disch := omega) only [go_sem, seval, c0], by simp -implicitDefEqProofs (disch := omega) only [go_sem, seval, c1], by simp -implicitDefEqProofs (disch := omega) only [go_sem, seval, c5], by simp -implicitDefEqProofs (disch := omega) only [go_sem, seval, d5], by simp -implicitDefEqProofs (disch := omega) only [go_sem, seval, c7]⟩, l, ch, k2, .ptr 1792 g 0, .sl k (nowL l).length (rows DF.v (nowL l)), 1792, 4096, hqq, hf, by unfold PairC; simp -implicitDefEqProofs (disch := omega) only [go_sem, seval, hP], ⟨g, rfl, .inr (.inl ⟨g1, k, by simp -implicitDefEqProofs (disch := omega) only [go_sem, seval, sq], by simp -implicitDefEqProofs (disch := omega) only [go_sem, seval, sq1], rfl⟩)⟩, by simp -implicitDefEqProofs (disch := omega) only [go_sem, seval, go_sem], by simp -implicitDefEqProofs (disch := omega) only [go_sem, seval, go_sem], (σ 7296).gen + 1, by simp -implicitDefEqProofs (disch := omega) only [go_sem, seval, go_sem], by simp -implicitDefEqProofs (disch := omega) only [go_sem, seval, go_sem]⟩
    · refine wp_draw_E ?_
      simp -implicitDefEqProofs (disch := omega) only [go_sem, seval, c7, hP, d, hrn, fro, hlr, hls]
      exact ⟨⟨by simp -implicitDefEqProofs (disch := omega) only [go_sem, seval, c0], by simp -implicitDefEqProofs (disch := omega) only [go_sem, seval, c1], by simp -implicitDefEqProofs (disch := omega) only [go_sem, seval, c5], by simp -implicitDefEqProofs (disch := omega) only [go_sem, seval, d5], by simp -implicitDefEqProofs (disch := omega) only [go_sem, seval, c7]⟩, l, ch, k2, .ptr 3776 g 0, .sl k (nowL l).length (rows DF.v (nowL l)), 3776, 4096, hqq, hf, by unfold PairC; simp -implicitDefEqProofs (disch := omega) only [go_sem, seval, hP], ⟨g, rfl, .inr (.inl ⟨g1, k, by simp -implicitDefEqProofs (disch := omega) only [go_sem, seval, sq], by simp -implicitDefEqProofs (disch := omega) only [go_sem, seval, sq1], rfl⟩)⟩, by simp -implicitDefEqProofs (disch := omega) only [go_sem, seval, go_sem], by simp -implicitDefEqProofs (disch := omega) only [go_sem, seval, go_sem], (σ 7296).gen + 1, by simp -implicitDefEqProofs (disch := omega) only [go_sem, seval, go_sem], by simp -implicitDefEqProofs (disch := omega) only [go_sem, seval, go_sem]⟩
    · refine wp_draw_E ?_
      simp -implicitDefEqProofs (disch := omega) only [go_sem, seval, c7, hP, d, hrn, fro, hlr, hls]
      exact ⟨⟨by simp -implicitDefEqProofs (disch := omega) only [go_sem, seval, c0], by simp -implicitDefEqProofs (disch := omega) only [go_sem, seval, c1], by simp -implicitDefEqProofs (disch := omega) only [go_sem, seval, c5], by simp -implicitDefEqProofs (disch := omega) only [go_sem, seval, d5], by simp -implicitDefEqProofs (disch := omega) only [go_sem, seval, c7]⟩, l, ch, k2, .ptr 6592 g 0, .sl k (nowL l).length (rows DF.v (nowL l)), 6592, 6592 + 1, hqq, hf, by unfold PairC; simp -implicitDefEqProofs (disch := omega) only [go_sem, seval, hP], ⟨g, rfl, .inr (.inl ⟨g1, k, by simp -implicitDefEqProofs (disch := omega) only [go_sem, seval, sq], by simp -implicitDefEqProofs (disch := omega) only [go_sem, seval, sq1], rfl⟩)⟩, by simp -implicitDefEqProofs (disch := omega) only [go_sem, seval, go_sem], by simp -implicitDefEqProofs (disch := omega) only [go_sem, seval, go_sem], (σ 7296).gen + 1, by simp -implicitDefEqProofs (disch := omega) only [go_sem, seval, go_sem], by simp -implicitDefEqProofs (disch := omega) only [go_sem, seval, go_sem]⟩
  · have d := hL k
    simp -implicitDefEqProofs (disch := omega) only [go_sem, seval, rk] at d
    rcases hq with ⟨rfl, rfl⟩ | ⟨rfl, rfl⟩ | ⟨rfl, rfl⟩
    · refine wp_draw_E ?_
      simp -implicitDefEqProofs (disch := omega) only [go_sem, seval, c7, hP, d, hrn, fro, hlr, hls]
      exact ⟨⟨by simp -implicitDefEqProofs (disch := omega) only [go_sem, seval, c0], by simp -implicitDefEqProofs (disch := omega) only [go_sem, seval, c1], by simp -implicitDefEqProofs (disch := omega) only [go_sem, seval, c5], by simp -implicitDefEqProofs (disch := omega) only [go_sem, seval, d5], by simp -implicitDefEqProofs (disch := omega) only [go_sem, seval, c7]⟩, [], ch, k2, .ptr 1792 g 0, .sl k (nowL []).length (rows DF.v (nowL [])), 1792, 4096, hqq, hf, by unfold PairC; simp -implicitDefEqProofs (disch := omega) only [go_sem, seval, hP], ⟨g, rfl, .inr (.inr ⟨k, rfl, by simp -implicitDefEqProofs (disch := omega) only [go_sem, seval, sq], rfl⟩)⟩, by simp -implicitDefEqProofs (disch := omega) only [go_sem, seval, go_sem], by simp -implicitDefEqProofs (disch := omega) only [go_sem, seval, go_sem], (σ 7296).gen + 1, by simp -implicitDefEqProofs (disch := omega) only [go_sem, seval, go_sem], by simp -implicitDefEqProofs (disch := omega) only [go_sem, seval, go_sem]⟩
    · refine wp_draw_E ?_
      simp -implicitDefEqProofs (disch := omega) only [go_sem, seval, c7, hP, d, hrn, fro, hlr, hls]
      exact ⟨⟨by simp -implicitDefEqProofs (disch := omega) only [go_sem, seval, c0], by simp -implicitDefEqProofs (disch := omega) only [go_sem, seval, c1], by simp -implicitDefEqProofs (disch := omega) only [go_sem, seval, c5], by simp -implicitDefEqProofs (disch := omega) only [go_sem, seval, d5], by simp -implicitDefEqProofs (disch := omega) only [go_sem, seval, c7]⟩, [], ch, k2, .ptr 3776 g 0, .sl k (nowL []).length (rows DF.v (nowL [])), 3776, 4096, hqq, hf, by unfold PairC; simp -implicitDefEqProofs (disch := omega) only [go_sem, seval, hP], ⟨g, rfl, .inr (.inr ⟨k, rfl, by simp -implicitDefEqProofs (disch := omega) only [go_sem, seval, sq], rfl⟩)⟩, by simp -implicitDefEqProofs (disch := omega) only [go_sem, seval, go_sem], by simp -implicitDefEqProofs (disch := omega) only [go_sem, seval, go_sem], (σ 7296).gen + 1, by simp -implicitDefEqProofs (disch := omega) only [go_sem, seval, go_sem], by simp -implicitDefEqProofs (disch := omega) only [go_sem, seval, go_sem]⟩
    · refine wp_draw_E ?_
      simp -implicitDefEqProofs (disch := omega) only [go_sem, seval, c7, hP, d, hrn, fro, hlr, hls]
      exact ⟨⟨by simp -implicitDefEqProofs (disch := omega) only [go_sem, seval, c0], by simp -implicitDefEqProofs (disch := omega) only [go_sem, seval, c1], by simp -implicitDefEqProofs (disch := omega) only [go_sem, seval, c5], by simp -implicitDefEqProofs (disch := omega) only [go_sem, seval, d5], by simp -implicitDefEqProofs (disch := omega) only [go_sem, seval, c7]⟩, [], ch, k2, .ptr 6592 g 0, .sl k (nowL []).length (rows DF.v (nowL [])), 6592, 6592 + 1, hqq, hf, by unfold PairC; simp -implicitDefEqProofs (disch := omega) only [go_sem, seval, hP], ⟨g, rfl, .inr (.inr ⟨k, rfl, by simp -implicitDefEqProofs (disch := omega) only [go_sem, seval, sq], rfl⟩)⟩, by simp -implicitDefEqProofs (disch := omega) only [go_sem, seval, go_sem], by simp -implicitDefEqProofs (disch := omega) only [go_sem, seval, go_sem], (σ 7296).gen + 1, by simp -implicitDefEqProofs (disch := omega) only [go_sem, seval, go_sem], by simp -implicitDefEqProofs (disch := omega) only [go_sem, seval, go_sem]⟩
theorem hB_of {l : List DE} {ch n : Nat} (h : Fit2 l ch n) (hn : n ≤ 100) : ∀ e ∈ l, e.s.length ≤ 1000000 ∧ e.s2.length ≤ 1000000 := by
  intro e he
  have h1 := h.1.used
  have h2 := h.2
  have m1 : ∀ (xs : List Nat) (x : Nat), x ∈ xs → x ≤ xs.sum := by
    intro xs
    induction xs with
    | nil => intro x hx; cases hx
    | cons a r ih =>
      intro x hx
      rw [List.sum_cons]
      rcases List.mem_cons.1 hx with rfl | hx
      · omega
      · have := ih x hx; omega
  constructor
  · have := m1 (l.map (·.s.length)) e.s.length (List.mem_map.2 ⟨e, he, rfl⟩)
    unfold usedL at h1
    omega
  · cases hb : e.b
    · rw [(h.1.ok e he).2 hb]; simp
    · have hm : sureOf e ∈ sureL l := mem_sure.2 ⟨e, he, hb, rfl⟩
      have := m1 ((sureL l).map (·.s.length)) e.s2.length (List.mem_map.2 ⟨sureOf e, hm, rfl⟩)
      unfold sizeF at h2
      omega
theorem crash_ok (p : Par) (s : St) (h : m5S p s) : wpA (tabW fns) L5 (nrm (m6S 7744 true p)) s := by
  obtain ⟨t, σ⟩ := s
  obtain ⟨⟨c0, c1, c5, d5, c7⟩, l, ch, k2, d0, d1, q, ql, hq, hf, hP, ⟨g, rfl, hM⟩, h10, h11, g12, h12, s12⟩ := h
  simp only at c0 c1 c5 d5 c7 hM h10 h11 h12 s12
  unfold PairC at hP
  dsimp only at hP
  have hlen := hf.1.len
  have hel := elen l
  have hek := elen (Kof p l)
  have dC := Crash_own l (-1) p.f2 p.f3 ch (by omega) (hB_of hf (by omega))
  have dN := Crash_nil (-1) p.f2 p.f3 ch
  have hKn : l = [] → Kof p l = [] := fun h => by subst h; rfl
  rw [show kept (crL (keepB p.f2) p.f3 l) = Kof p l from rfl] at dC
  unfold nrm L5 ir3
  simp only
  simp only [trips, List.mem_cons, List.not_mem_nil, or_false, Prod.mk.injEq] at hq
  simp -implicitDefEqProofs (disch := omega) only [go_sem, seval, dkv] at dC dN
  rcases hM with ⟨g1, g2, sq, sq1, rfl, sq2⟩ | ⟨g1, k, sq, sq1, rfl⟩ | ⟨k, hl0, sq, rfl⟩
  · rcases hq with ⟨rfl, rfl⟩ | ⟨rfl, rfl⟩ | ⟨rfl, rfl⟩
    · simp -implicitDefEqProofs (disch := omega) only [go_sem, seval, dkv] at sq
      simp -implicitDefEqProofs (disch := omega) only [go_sem, seval, c7, hP, c5, d5, sq]
      simp -implicitDefEqProofs (disch := omega) only [go_sem, seval, callr11, c7, hP, c5, d5, sq, sq1, sq2, dC, hel, hek, ero]
      exact ⟨l, ch, k2, .sli (6592 + 2) g2 0 (nowL l).length 3, 1792, g, g12, _, _, _, by simp, hf, .inl ⟨_, (by first | (simp -implicitDefEqProofs (disch := omega) only [go_sem, seval, dkv]; done) | (simp -implicitDefEqProofs (disch := omega) only [go_sem, seval, dkv]; rfl)), (by first | (simp -implicitDefEqProofs (disch := omega) only [go_sem, seval, go_sem]; done) | (simp -implicitDefEqProofs (disch := omega) only [go_sem, seval, go_sem]; rfl))⟩, .inl ⟨g2, rfl, by simp -implicitDefEqProofs (disch := omega) only [go_sem, seval, sq2]⟩, ⟨by simp -implicitDefEqProofs (disch := omega) only [go_sem, seval, c0], by simp -implicitDefEqProofs (disch := omega) only [go_sem, seval, c1], by simp -implicitDefEqProofs (disch := omega) only [go_sem, seval, c5], by simp -implicitDefEqProofs (disch := omega) only [go_sem, seval, d5], by simp -implicitDefEqProofs (disch := omega) only [go_sem, seval, c7]⟩, by unfold PairC; simp -implicitDefEqProofs (disch := omega) only [go_sem, seval, hP], by simp -implicitDefEqProofs (disch := omega) only [go_sem, seval, h10], by simp -implicitDefEqProofs (disch := omega) only [go_sem, seval, h11], by simp -implicitDefEqProofs (disch := omega) only [go_sem, seval, h12], by simp -implicitDefEqProofs (disch := omega) only [go_sem, seval, s12], rfl, rfl, rfl⟩
    · simp -implicitDefEqProofs (disch := omega) only [go_sem, seval, dkv] at sq
      simp -implicitDefEqProofs (disch := omega) only [go_sem, seval, c7, hP, c5, d5, sq]
      simp -implicitDefEqProofs (disch := omega) only [go_sem, seval, callr11, c7, hP, c5, d5, sq, sq1, sq2, dC, hel, hek, ero]
      exact ⟨l, ch, k2, .sli (6592 + 2) g2 0 (nowL l).length 3, 3776, g, g12, _, _, _, by simp, hf, .inl ⟨_, (by first | (simp -implicitDefEqProofs (disch := omega) only [go_sem, seval, dkv]; done) | (simp -implicitDefEqProofs (disch := omega) only [go_sem, seval, dkv]; rfl)), (by first | (simp -implicitDefEqProofs (disch := omega) only [go_sem, seval, go_sem]; done) | (simp -implicitDefEqProofs (disch := omega) only [go_sem, seval, go_sem]; rfl))⟩, .inl ⟨g2, rfl, by simp -implicitDefEqProofs (disch := omega) only [go_sem, seval, sq2]⟩, ⟨by simp -implicitDefEqProofs (disch := omega) only [go_sem, seval, c0], by simp -implicitDefEqProofs (disch := omega) only [go_sem, seval, c1], by simp -implicitDefEqProofs (disch := omega) only [go_sem, seval, c5], by simp -implicitDefEqProofs (disch := omega) only [go_sem, seval, d5], by simp -implicitDefEqProofs (disch := omega) only [go_sem, seval, c7]⟩, by unfold PairC; simp -implicitDefEqProofs (disch := omega) only [go_sem, seval, hP], by simp -implicitDefEqProofs (disch := omega) only [go_sem, seval, h10], by simp -implicitDefEqProofs (disch := omega) only [go_sem, seval, h11], by simp -implicitDefEqProofs (disch := omega) only [go_sem, seval, h12], by simp -implicitDefEqProofs (disch := omega) only [go_sem, seval, s12], rfl, rfl, rfl⟩
    · simp -implicitDefEqProofs (disch := omega) only [go_sem, seval, dkv] at sq
      simp -implicitDefEqProofs (disch := omega) only [go_sem, seval, c7, hP, c5, d5, sq]
      simp -implicitDefEqProofs (disch := omega) only [go_sem, seval, callr11, c7, hP, c5, d5, sq, sq1, sq2, dC, hel, hek, ero]
      exact ⟨l, ch, k2, .sli (6592 + 2) g2 0 (nowL l).length 3, 6592, g, g12, _, _, _, by simp, hf, .inl ⟨_, (by first | (simp -implicitDefEqProofs (disch := omega) only [go_sem, seval, dkv]; done) | (simp -implicitDefEqProofs (disch := omega) only [go_sem, seval, dkv]; rfl)), (by first | (simp -implicitDefEqProofs (disch := omega) only [go_sem, seval, go_sem]; done) | (simp -implicitDefEqProofs (disch := omega) only [go_sem, seval, go_sem]; rfl))⟩, .inl ⟨g2, rfl, by simp -implicitDefEqProofs (disch := omega) only [go_sem, seval, sq2]⟩, ⟨by simp -implicitDefEqProofs (disch := omega) only [go_sem, seval, c0], by simp -implicitDefEqProofs (disch := omega) only [go_sem, seval, c1], by simp -implicitDefEqProofs (disch := omega) only [go_sem, seval, c5], by simp -implicitDefEqProofs (disch := omega) only [go_sem, seval, d5], by simp -implicitDefEqProofs (disch := omega) only [go_sem, seval, c7]⟩, by unfold PairC; simp -implicitDefEqProofs (disch := omega) only [go_sem, seval, hP], by simp -implicitDefEqProofs (disch := omega) only [go_sem, seval, h10], by simp -implicitDefEqProofs (disch := omega) only [go_sem, seval, h11], by simp -implicitDefEqProofs (disch := omega) only [go_sem, seval, h12], by simp -implicitDefEqProofs (disch := omega) only [go_sem, seval, s12], rfl, rfl, rfl⟩
  · rcases hq with ⟨rfl, rfl⟩ | ⟨rfl, rfl⟩ | ⟨rfl, rfl⟩
    · simp -implicitDefEqProofs (disch := omega) only [go_sem, seval, dkv] at sq
      simp -implicitDefEqProofs (disch := omega) only [go_sem, seval, c7, hP, c5, d5, sq]
      simp -implicitDefEqProofs (disch := omega) only [go_sem, seval, callr11, c7, hP, c5, d5, sq, sq1, dC, hel, hek, ero]
      exact ⟨l, ch, k2, .sl k (nowL l).length (rows DF.v (nowL l)), 1792, g, g12, _, _, _, by simp, hf, .inl ⟨_, (by first | (simp -implicitDefEqProofs (disch := omega) only [go_sem, seval, dkv]; done) | (simp -implicitDefEqProofs (disch := omega) only [go_sem, seval, dkv]; rfl)), (by first | (simp -implicitDefEqProofs (disch := omega) only [go_sem, seval, go_sem]; done) | (simp -implicitDefEqProofs (disch := omega) only [go_sem, seval, go_sem]; rfl))⟩, .inr ⟨k, rfl⟩, ⟨by simp -implicitDefEqProofs (disch := omega) only [go_sem, seval, c0], by simp -implicitDefEqProofs (disch := omega) only [go_sem, seval, c1], by simp -implicitDefEqProofs (disch := omega) only [go_sem, seval, c5], by simp -implicitDefEqProofs (disch := omega) only [go_sem, seval, d5], by simp -implicitDefEqProofs (disch := omega) only [go_sem, seval, c7]⟩, by unfold PairC; simp -implicitDefEqProofs (disch := omega) only [go_sem, seval, hP], by simp -implicitDefEqProofs (disch := omega) only [go_sem, seval, h10], by simp -implicitDefEqProofs (disch := omega) only [go_sem, seval, h11], by simp -implicitDefEqProofs (disch := omega) only [go_sem, seval, h12], by simp -implicitDefEqProofs (disch := omega) only [go_sem, seval, s12], rfl, rfl, rfl⟩
    · simp -implicitDefEqProofs (disch := omega) only [go_sem, seval, dkv] at sq
      simp -implicitDefEqProofs (disch := omega) only [go_sem, seval, c7, hP, c5, d5, sq]
      simp -implicitDefEqProofs (disch := omega) only [go_sem, seval, callr11, c7, hP, c5, d5, sq, sq1, dC, hel, hek, ero]
      exact ⟨l, ch, k2, .sl k (nowL l).length (rows DF.v (nowL l)), 3776, g, g12, _, _, _, by simp, hf, .inl ⟨_, (by first | (simp -implicitDefEqProofs (disch := omega) only [go_sem, seval, dkv]; done) | (simp -implicitDefEqProofs (disch := omega) only [go_sem, seval, dkv]; rfl)), (by first | (simp -implicitDefEqProofs (disch := omega) only [go_sem, seval, go_sem]; done) | (simp -implicitDefEqProofs (disch := omega) only [go_sem, seval, go_sem]; rfl))⟩, .inr ⟨k, rfl⟩, ⟨by simp -implicitDefEqProofs (disch := omega) only [go_sem, seval, c0], by simp -implicitDefEqProofs (disch := omega) only [go_sem, seval, c1], by simp -implicitDefEqProofs (disch := omega) only [go_sem, seval, c5], by simp -implicitDefEqProofs (disch := omega) only [go_sem, seval, d5], by simp -implicitDefEqProofs (disch := omega) only [go_sem, seval, c7]⟩, by unfold PairC; simp -implicitDefEqProofs (disch := omega) only [go_sem, seval, hP], by simp -implicitDefEqProofs (disch := omega) only [go_sem, seval, h10], by simp -implicitDefEqProofs (disch := omega) only [go_sem, seval, h11], by simp -implicitDefEqProofs (disch := omega) only [go_sem, seval, h12], by simp -implicitDefEqProofs (disch := omega) only [go_sem, seval, s12], rfl, rfl, rfl⟩
    · simp -implicitDefEqProofs (disch := omega) only [go_sem, seval, dkv] at sq
      simp -implicitDefEqProofs (disch := omega) only [go_sem, seval, c7, hP, c5, d5, sq]
      simp -implicitDefEqProofs (disch := omega) only [go_sem, seval, callr11, c7, hP, c5, d5, sq, sq1, dC, hel, hek, ero]
      exact ⟨l, ch, k2, .sl k (nowL l).length (rows DF.v (nowL l)), 6592, g, g12, _, _, _, by simp, hf, .inl ⟨_, (by first | (simp -implicitDefEqProofs (disch := omega) only [go_sem, seval, dkv]; done) | (simp -implicitDefEqProofs (disch := omega) only [go_sem, seval, dkv]; rfl)), (by first | (simp -implicitDefEqProofs (disch := omega) only [go_sem, seval, go_sem]; done) | (simp -implicitDefEqProofs (disch := omega) only [go_sem, seval, go_sem]; rfl))⟩, .inr ⟨k, rfl⟩, ⟨by simp -implicitDefEqProofs (disch := omega) only [go_sem, seval, c0], by simp -implicitDefEqProofs (disch := omega) only [go_sem, seval, c1], by simp -implicitDefEqProofs (disch := omega) only [go_sem, seval, c5], by simp -implicitDefEqProofs (disch := omega) only [go_sem, seval, d5], by simp -implicitDefEqProofs (disch := omega) only [go_sem, seval, c7]⟩, by unfold PairC; simp -implicitDefEqProofs (disch := omega) only [go_sem, seval, hP], by simp -implicitDefEqProofs (disch := omega) only [go_sem, seval, h10], by simp -implicitDefEqProofs (disch := omega) only [go_sem, seval, h11], by simp -implicitDefEqProofs (disch := omega) only [go_sem, seval, h12], by simp -implicitDefEqProofs (disch := omega) only [go_sem, seval, s12], rfl, rfl, rfl⟩
  · rcases hq with ⟨rfl, rfl⟩ | ⟨rfl, rfl⟩ | ⟨rfl, rfl⟩
    · simp -implicitDefEqProofs (disch := omega) only [go_sem, seval, dkv] at sq
      simp -implicitDefEqProofs (disch := omega) only [go_sem, seval, c7, hP, c5, d5, sq]
      simp -implicitDefEqProofs (disch := omega) only [go_sem, seval, callr11, c7, hP, c5, d5, sq, dN, hel, hek, ero]
      exact ⟨l, ch, k2, .sl k (nowL l).length (rows DF.v (nowL l)), 1792, g, g12, _, _, _, by simp, hf, .inr ⟨hKn hl0, (by first | (simp -implicitDefEqProofs (disch := omega) only [go_sem, seval, dkv]; done) | (simp -implicitDefEqProofs (disch := omega) only [go_sem, seval, dkv]; rfl))⟩, .inr ⟨k, rfl⟩, ⟨by simp -implicitDefEqProofs (disch := omega) only [go_sem, seval, c0], by simp -implicitDefEqProofs (disch := omega) only [go_sem, seval, c1], by simp -implicitDefEqProofs (disch := omega) only [go_sem, seval, c5], by simp -implicitDefEqProofs (disch := omega) only [go_sem, seval, d5], by simp -implicitDefEqProofs (disch := omega) only [go_sem, seval, c7]⟩, by unfold PairC; simp -implicitDefEqProofs (disch := omega) only [go_sem, seval, hP], by simp -implicitDefEqProofs (disch := omega) only [go_sem, seval, h10], by simp -implicitDefEqProofs (disch := omega) only [go_sem, seval, h11], by simp -implicitDefEqProofs (disch := omega) only [go_sem, seval, h12], by simp -implicitDefEqProofs (disch := omega) only [go_sem, seval, s12], rfl, rfl, rfl⟩
    · simp -implicitDefEqProofs (disch := omega) only [go_sem, seval, dkv] at sq
      simp -implicitDefEqProofs (disch := omega) only [go_sem, seval, c7, hP, c5, d5, sq]
      simp -implicitDefEqProofs (disch := omega) only [go_sem, seval, callr11, c7, hP, c5, d5, sq, dN, hel, hek, ero]
      exact ⟨l, ch, k2, .sl k (nowL l).length (rows DF.v (nowL l)), 3776, g, g12, _, _, _, by simp, hf, .inr ⟨hKn hl0, (by first | (simp -implicitDefEqProofs (disch := omega) only [go_sem, seval, dkv]; done) | (simp -implicitDefEqProofs (disch := omega) only [go_sem, seval, dkv]; rfl))⟩, .inr ⟨k, rfl⟩, ⟨by simp -implicitDefEqProofs (disch := omega) only [go_sem, seval, c0], by simp -implicitDefEqProofs (disch := omega) only [go_sem, seval, c1], by simp -implicitDefEqProofs (disch := omega) only [go_sem, seval, c5], by simp -implicitDefEqProofs (disch := omega) only [go_sem, seval, d5], by simp -implicitDefEqProofs (disch := omega) only [go_sem, seval, c7]⟩, by unfold PairC; simp -implicitDefEqProofs (disch := omega) only [go_sem, seval, hP], by simp -implicitDefEqProofs (disch := omega) only [go_sem, seval, h10], by simp -implicitDefEqProofs (disch := omega) only [go_sem, seval, h11], by simp -implicitDefEqProofs (disch := omega) only [go_sem, seval, h12], by simp -implicitDefEqProofs (disch := omega) only [go_sem, seval, s12], rfl, rfl, rfl⟩
    · simp -implicitDefEqProofs (disch := omega) only [go_sem, seval, dkv] at sq
      simp -implicitDefEqProofs (disch := omega) only [go_sem, seval, c7, hP, c5, d5, sq]
      simp -implicitDefEqProofs (disch := omega) only [go_sem, seval, callr11, c7, hP, c5, d5, sq, dN, hel, hek, ero]
      exact ⟨l, ch, k2, .sl k (nowL l).length (rows DF.v (nowL l)), 6592, g, g12, _, _, _, by simp, hf, .inr ⟨hKn hl0, (by first | (simp -implicitDefEqProofs (disch := omega) only [go_sem, seval, dkv]; done) | (simp -implicitDefEqProofs (disch := omega) only [go_sem, seval, dkv]; rfl))⟩, .inr ⟨k, rfl⟩, ⟨by simp -implicitDefEqProofs (disch := omega) only [go_sem, seval, c0], by simp -implicitDefEqProofs (disch := omega) only [go_sem, seval, c1], by simp -implicitDefEqProofs (disch := omega) only [go_sem, seval, c5], by simp -implicitDefEqProofs (disch := omega) only [go_sem, seval, d5], by simp -implicitDefEqProofs (disch := omega) only [go_sem, seval, c7]⟩, by unfold PairC; simp -implicitDefEqProofs (disch := omega) only [go_sem, seval, hP], by simp -implicitDefEqProofs (disch := omega) only [go_sem, seval, h10], by simp -implicitDefEqProofs (disch := omega) only [go_sem, seval, h11], by simp -implicitDefEqProofs (disch := omega) only [go_sem, seval, h12], by simp -implicitDefEqProofs (disch := omega) only [go_sem, seval, s12], rfl, rfl, rfl⟩
theorem up_ok (p : Par) (s : St) (h : m6S 7744 true p s) : wpA (tabW fns) L6 (nrm (m6S 7936 false p)) s := by
  obtain ⟨t, σ⟩ := s
  obtain ⟨l, ch, k2, d1, q, g, g12, Bq, Bl, Bn, hq, hf, hD, hN, ⟨c0, c1, c5, d5, c7⟩, hP, h10, h11, h12, s12, sq, sl, sn⟩ := h
  simp only at c0 c1 c5 d5 c7 h10 h11 h12 s12 sq sl sn
  unfold PairC at hP
  dsimp only at hP
  have hek := elen (Kof p l)
  have dO := Up_ok (lv := .osl 6 (Kof p l).length (rows DE.v (Kof p l))) (l := Kof p l) (.inl rfl) (-1) ch
  have dN := Up_ok (lv := .sl .nil 0 []) (l := []) (.inr ⟨rfl, rfl⟩) (-1) ch
  unfold nrm L6 ir3
  simp only
  simp only [List.mem_cons, List.not_mem_nil, or_false] at hq
  simp -implicitDefEqProofs (disch := omega) only [go_sem, seval, dkv] at dO dN
  rcases hD with ⟨g1, rfl, rfl⟩ | ⟨hk0, rfl⟩
  · simp -implicitDefEqProofs (disch := omega) only [go_sem, seval, dkv] at sq
    rcases hq with rfl | rfl | rfl
    · simp -implicitDefEqProofs (disch := omega) only [go_sem, seval, c7, hP, sq]
      simp -implicitDefEqProofs (disch := omega) only [go_sem, seval, callr12, c7, hP, sq, sl, dO, hek, ero]
      exact ⟨l, ch, k2, d1, 1792, g, g12, _, _, Bn, by simp, hf, .inl ⟨_, (by first | (simp -implicitDefEqProofs (disch := omega) only [go_sem, seval, dkv]; done) | (simp -implicitDefEqProofs (disch := omega) only [go_sem, seval, dkv]; rfl)), (by first | (simp -implicitDefEqProofs (disch := omega) only [go_sem, seval, go_sem]; done) | (simp -implicitDefEqProofs (disch := omega) only [go_sem, seval, go_sem]; rfl))⟩, hN, ⟨by simp -implicitDefEqProofs (disch := omega) only [go_sem, seval, c0], by simp -implicitDefEqProofs (disch := omega) only [go_sem, seval, c1], by simp -implicitDefEqProofs (disch := omega) only [go_sem, seval, c5], by simp -implicitDefEqProofs (disch := omega) only [go_sem, seval, d5], by simp -implicitDefEqProofs (disch := omega) only [go_sem, seval, c7]⟩, by unfold PairC; simp -implicitDefEqProofs (disch := omega) only [go_sem, seval, hP], by simp -implicitDefEqProofs (disch := omega) only [go_sem, seval, h10], by simp -implicitDefEqProofs (disch := omega) only [go_sem, seval, h11], by simp -implicitDefEqProofs (disch := omega) only [go_sem, seval, h12], by simp -implicitDefEqProofs (disch := omega) only [go_sem, seval, s12], rfl, rfl, by simp -implicitDefEqProofs (disch := omega) only [go_sem, seval, sn]⟩
    · simp -implicitDefEqProofs (disch := omega) only [go_sem, seval, c7, hP, sq]
      simp -implicitDefEqProofs (disch := omega) only [go_sem, seval, callr12, c7, hP, sq, sl, dO, hek, ero]
      exact ⟨l, ch, k2, d1, 3776, g, g12, _, _, Bn, by simp, hf, .inl ⟨_, (by first | (simp -implicitDefEqProofs (disch := omega) only [go_sem, seval, dkv]; done) | (simp -implicitDefEqProofs (disch := omega) only [go_sem, seval, dkv]; rfl)), (by first | (simp -implicitDefEqProofs (disch := omega) only [go_sem, seval, go_sem]; done) | (simp -implicitDefEqProofs (disch := omega) only [go_sem, seval, go_sem]; rfl))⟩, hN, ⟨by simp -implicitDefEqProofs (disch := omega) only [go_sem, seval, c0], by simp -implicitDefEqProofs (disch := omega) only [go_sem, seval, c1], by simp -implicitDefEqProofs (disch := omega) only [go_sem, seval, c5], by simp -implicitDefEqProofs (disch := omega) only [go_sem, seval, d5], by simp -implicitDefEqProofs (disch := omega) only [go_sem, seval, c7]⟩, by unfold PairC; simp -implicitDefEqProofs (disch := omega) only [go_sem, seval, hP], by simp -implicitDefEqProofs (disch := omega) only [go_sem, seval, h10], by simp -implicitDefEqProofs (disch := omega) only [go_sem, seval, h11], by simp -implicitDefEqProofs (disch := omega) only [go_sem, seval, h12], by simp -implicitDefEqProofs (disch := omega) only [go_sem, seval, s12], rfl, rfl, by simp -implicitDefEqProofs (disch := omega) only [go_sem, seval, sn]⟩
    · simp -implicitDefEqProofs (disch := omega) only [go_sem, seval, c7, hP, sq]
      simp -implicitDefEqProofs (disch := omega) only [go_sem, seval, callr12, c7, hP, sq, sl, dO, hek, ero]
      exact ⟨l, ch, k2, d1, 6592, g, g12, _, _, Bn, by simp, hf, .inl ⟨_, (by first | (simp -implicitDefEqProofs (disch := omega) only [go_sem, seval, dkv]; done) | (simp -implicitDefEqProofs (disch := omega) only [go_sem, seval, dkv]; rfl)), (by first | (simp -implicitDefEqProofs (disch := omega) only [go_sem, seval, go_sem]; done) | (simp -implicitDefEqProofs (disch := omega) only [go_sem, seval, go_sem]; rfl))⟩, hN, ⟨by simp -implicitDefEqProofs (disch := omega) only [go_sem, seval, c0], by simp -implicitDefEqProofs (disch := omega) only [go_sem, seval, c1], by simp -implicitDefEqProofs (disch := omega) only [go_sem, seval, c5], by simp -implicitDefEqProofs (disch := omega) only [go_sem, seval, d5], by simp -implicitDefEqProofs (disch := omega) only [go_sem, seval, c7]⟩, by unfold PairC; simp -implicitDefEqProofs (disch := omega) only [go_sem, seval, hP], by simp -implicitDefEqProofs (disch := omega) only [go_sem, seval, h10], by simp -implicitDefEqProofs (disch := omega) only [go_sem, seval, h11], by simp -implicitDefEqProofs (disch := omega) only [go_sem, seval, h12], by simp -implicitDefEqProofs (disch := omega) only [go_sem, seval, s12], rfl, rfl, by simp -implicitDefEqProofs (disch := omega) only [go_sem, seval, sn]⟩
  · simp -implicitDefEqProofs (disch := omega) only [go_sem, seval, dkv] at sq
    rcases hq with rfl | rfl | rfl
    · simp -implicitDefEqProofs (disch := omega) only [go_sem, seval, c7, hP, sq]
      simp -implicitDefEqProofs (disch := omega) only [go_sem, seval, callr12, c7, hP, sq, dN, hek, ero]
      exact ⟨l, ch, k2, d1, 1792, g, g12, _, _, Bn, by simp, hf, .inr ⟨hk0, (by first | (simp -implicitDefEqProofs (disch := omega) only [go_sem, seval, dkv]; done) | (simp -implicitDefEqProofs (disch := omega) only [go_sem, seval, dkv]; rfl))⟩, hN, ⟨by simp -implicitDefEqProofs (disch := omega) only [go_sem, seval, c0], by simp -implicitDefEqProofs (disch := omega) only [go_sem, seval, c1], by simp -implicitDefEqProofs (disch := omega) only [go_sem, seval, c5], by simp -implicitDefEqProofs (disch := omega) only [go_sem, seval, d5], by simp -implicitDefEqProofs (disch := omega) only [go_sem, seval, c7]⟩, by unfold PairC; simp -implicitDefEqProofs (disch := omega) only [go_sem, seval, hP], by simp -implicitDefEqProofs (disch := omega) only [go_sem, seval, h10], by simp -implicitDefEqProofs (disch := omega) only [go_sem, seval, h11], by simp -implicitDefEqProofs (disch := omega) only [go_sem, seval, h12], by simp -implicitDefEqProofs (disch := omega) only [go_sem, seval, s12], rfl, rfl, by simp -implicitDefEqProofs (disch := omega) only [go_sem, seval, sn]⟩
    · simp -implicitDefEqProofs (disch := omega) only [go_sem, seval, c7, hP, sq]
      simp -implicitDefEqProofs (disch := omega) only [go_sem, seval, callr12, c7, hP, sq, dN, hek, ero]
      exact ⟨l, ch, k2, d1, 3776, g, g12, _, _, Bn, by simp, hf, .inr ⟨hk0, (by first | (simp -implicitDefEqProofs (disch := omega) only [go_sem, seval, dkv]; done) | (simp -implicitDefEqProofs (disch := omega) only [go_sem, seval, dkv]; rfl))⟩, hN, ⟨by simp -implicitDefEqProofs (disch := omega) only [go_sem, seval, c0], by simp -implicitDefEqProofs (disch := omega) only [go_sem, seval, c1], by simp -implicitDefEqProofs (disch := omega) only [go_sem, seval, c5], by simp -implicitDefEqProofs (disch := omega) only [go_sem, seval, d5], by simp -implicitDefEqProofs (disch := omega) only [go_sem, seval, c7]⟩, by unfold PairC; simp -implicitDefEqProofs (disch := omega) only [go_sem, seval, hP], by simp -implicitDefEqProofs (disch := omega) only [go_sem, seval, h10], by simp -implicitDefEqProofs (disch := omega) only [go_sem, seval, h11], by simp -implicitDefEqProofs (disch := omega) only [go_sem, seval, h12], by simp -implicitDefEqProofs (disch := omega) only [go_sem, seval, s12], rfl, rfl, by simp -implicitDefEqProofs (disch := omega) only [go_sem, seval, sn]⟩
    · simp -implicitDefEqProofs (disch := omega) only [go_sem, seval, c7, hP, sq]
      simp -implicitDefEqProofs (disch := omega) only [go_sem, seval, callr12, c7, hP, sq, dN, hek, ero]
      exact ⟨l, ch, k2, d1, 6592, g, g12, _, _, Bn, by simp, hf, .inr ⟨hk0, (by first | (simp -implicitDefEqProofs (disch := omega) only [go_sem, seval, dkv]; done) | (simp -implicitDefEqProofs (disch := omega) only [go_sem, seval, dkv]; rfl))⟩, hN, ⟨by simp -implicitDefEqProofs (disch := omega) only [go_sem, seval, c0], by simp -implicitDefEqProofs (disch := omega) only [go_sem, seval, c1], by simp -implicitDefEqProofs (disch := omega) only [go_sem, seval, c5], by simp -implicitDefEqProofs (disch := omega) only [go_sem, seval, d5], by simp -implicitDefEqProofs (disch := omega) only [go_sem, seval, c7]⟩, by unfold PairC; simp -implicitDefEqProofs (disch := omega) only [go_sem, seval, hP], by simp -implicitDefEqProofs (disch := omega) only [go_sem, seval, h10], by simp -implicitDefEqProofs (disch := omega) only [go_sem, seval, h11], by simp -implicitDefEqProofs (disch := omega) only [go_sem, seval, h12], by simp -implicitDefEqProofs (disch := omega) only [go_sem, seval, s12], rfl, rfl, by simp -implicitDefEqProofs (disch := omega) only [go_sem, seval, sn]⟩
end Go.Vm.Ytclcadpmkkeaeaa
/- (seval) Behind a loss of power: what is told behind it. -/
namespace Go.Vm.Ytclcadpmkkeaeaa
open Go.Proofs
def L7 : IC := match ir3.body with | .seq _ (.seq _ (.seq _ (.seq _ (.seq _ (.seq _ (.seq _ (.seq _ (.seq _ (.seq a _))))))))) => a | _ => .skip
def L8 : IC := match ir3.body with | .seq _ (.seq _ (.seq _ (.seq _ (.seq _ (.seq _ (.seq _ (.seq _ (.seq _ (.seq _ (.seq a _)))))))))) => a | _ => .skip
def L9 : IC := match ir3.body with | .seq _ (.seq _ (.seq _ (.seq _ (.seq _ (.seq _ (.seq _ (.seq _ (.seq _ (.seq _ (.seq _ (.seq a _))))))))))) => a | _ => .skip
theorem Read_K (k : SK) (K : List DE) (ch : Nat) (x : Tx) (hs : Srt DE.n K) (hl : K.length ≤ 10000) (hx : nameB x = true) : Gf fns 13 [.pt (dkv (.sl k K.length (rows DE.v K)) (-1) ch false) 0, .str x] = some (.tup [.str (if faceA K x = true then faceS K x else []), .int .i64 (if faceA K x = true then 0 else 2)], []) := by
  have hn := nm_len hx
  rw [Read_ok k K (-1) ch x hs hl (by omega)]
  unfold opC
  cases h : faceA K x <;> simp [hx]
theorem lo_nm {l : List DE} {ch n : Nat} (h : Fit2 l ch n) {i : Nat} (hi : i < (lo l).length) : nameB (gt (lo l) i) = true := by
  have hm : gt (lo l) i ∈ lo l := by rw [gt_eq hi]; exact List.getElem_mem hi
  generalize gt (lo l) i = y at *
  rw [show lo l = (l.filter looE).map DE.n from loo_eq h.1.srt h.1.ok] at hm
  obtain ⟨e, h1, h2⟩ := List.mem_map.1 hm
  rw [← h2]
  exact h.1.nm e (List.mem_filter.1 h1).1
theorem lo_len2 {l : List DE} {ch n : Nat} (h : Fit2 l ch n) : (lo l).length ≤ l.length := by
  rw [show lo l = (l.filter looE).map DE.n from loo_eq h.1.srt h.1.ok, List.length_map]
  exact List.length_filter_le _ _
theorem sure_nm {l : List DE} {ch n : Nat} (h : Fit2 l ch n) {i : Nat} (hi : i < (sureL l).length) : nameB (gt (sureL l) i).n = true := by
  have hm : gt (sureL l) i ∈ sureL l := by rw [gt_eq hi]; exact List.getElem_mem hi
  obtain ⟨e, h1, _, h2⟩ := mem_sure.1 hm
  rw [h2]
  exact h.1.nm e h1
theorem K_srt (p : Par) {l : List DE} {ch n : Nat} (h : Fit2 l ch n) : Srt DE.n (Kof p l) := (crL_srt _ _ h.1.srt).filter _
theorem K_len (p : Par) (l : List DE) : (Kof p l).length ≤ l.length := by
  have h1 := kept_len (crL (keepB p.f2) p.f3 l)
  have h2 : (crL (keepB p.f2) p.f3 l).length = l.length := by unfold crL; rw [List.length_map, crA_len]
  unfold Kof
  omega
def cnt (p : Par) (l : List DE) (i : Nat) : Nat := ((lo l).take i).countP (difN (Kof p l) (nowL l) (sureL l))
theorem cnt_succ (p : Par) {l : List DE} {i : Nat} (hi : i < (lo l).length) : cnt p l (i + 1) = cnt p l i + (if difN (Kof p l) (nowL l) (sureL l) (gt (lo l) i) = true then 1 else 0) := by
  unfold cnt
  rw [take_gt hi, List.countP_append, List.countP_cons, List.countP_nil, Nat.zero_add]
theorem cnt_le (p : Par) (l : List DE) (i : Nat) : cnt p l i ≤ i := by
  unfold cnt
  have := List.countP_le_length (p := difN (Kof p l) (nowL l) (sureL l)) (l := (lo l).take i)
  simp at this
  omega
def m7S (p : Par) (s : St) : Prop := ∃ l ch k2 c1 q g g12 Bq Bl Bn, q ∈ [1792, 3776, 6592] ∧ Fit2 l ch 51 ∧ diskF (Kof p l) ch g 7936 false Bq Bl ∧ nowF l c1 Bn ∧ finS p l ch k2 c1 q g g12 Bq Bl Bn 7936 s ∧ s.t 13 = .int .i64 0
def m8S (p : Par) (s : St) : Prop := ∃ l ch k2 c1 q g g12 Bq Bl Bn, q ∈ [1792, 3776, 6592] ∧ Fit2 l ch 51 ∧ diskF (Kof p l) ch g 7936 false Bq Bl ∧ nowF l c1 Bn ∧ finS p l ch k2 c1 q g g12 Bq Bl Bn 7936 s ∧ s.t 13 = .int .i64 (cnt p l (lo l).length : Int)
def m9S (p : Par) (s : St) : Prop := Cst p s ∧ ∃ c : Nat, c ≤ one p.f3 ∧ s.t 13 = .int .i64 (c : Int)
def e0S (p : Par) (l : List DE) (ch : Nat) (k2 : SK) (c1 : V) (q g g12 : Nat) (Bq Bl Bn : Blk) (i : Nat) (s : St) : Prop := i ≤ (lo l).length ∧ finS p l ch k2 c1 q g g12 Bq Bl Bn 7936 s ∧ s.t 13 = .int .i64 (cnt p l i : Int) ∧ s.t 14 = .int .i64 (i : Int)
def e1S (p : Par) (l : List DE) (ch : Nat) (k2 : SK) (c1 : V) (q g g12 : Nat) (Bq Bl Bn : Blk) (i : Nat) (s : St) : Prop := i ≤ (sureL l).length ∧ finS p l ch k2 c1 q g g12 Bq Bl Bn 7936 s ∧ s.t 13 = .int .i64 (cnt p l (lo l).length : Int) ∧ s.t 22 = .int .i64 (i : Int)
theorem zero_ok (p : Par) (s : St) (h : m6S 7936 false p s) : wpA (tabW fns) L7 (nrm (m7S p)) s := by
  obtain ⟨t, σ⟩ := s
  obtain ⟨l, ch, k2, d1, q, g, g12, Bq, Bl, Bn, hq, hf, hD, hN, ⟨c0, c1, c5, d5, c7⟩, hP, h10, h11, h12, s12, sq, sl, sn⟩ := h
  simp only at c0 c1 c5 d5 c7 h10 h11 h12 s12 sq sl sn
  unfold PairC at hP
  dsimp only at hP
  unfold nrm L7 ir3
  simp only
  simp -implicitDefEqProofs (disch := omega) only [go_sem, seval, go_sem]
  exact ⟨l, ch, k2, d1, q, g, g12, Bq, Bl, Bn, hq, hf, hD, hN, ⟨⟨by simp -implicitDefEqProofs (disch := omega) only [go_sem, seval, c0], by simp -implicitDefEqProofs (disch := omega) only [go_sem, seval, c1], by simp -implicitDefEqProofs (disch := omega) only [go_sem, seval, c5], by simp -implicitDefEqProofs (disch := omega) only [go_sem, seval, d5], by simp -implicitDefEqProofs (disch := omega) only [go_sem, seval, c7]⟩, by unfold PairC; simp -implicitDefEqProofs (disch := omega) only [go_sem, seval, hP], by simp -implicitDefEqProofs (disch := omega) only [go_sem, seval, h10], by simp -implicitDefEqProofs (disch := omega) only [go_sem, seval, h11], by simp -implicitDefEqProofs (disch := omega) only [go_sem, seval, h12], by simp -implicitDefEqProofs (disch := omega) only [go_sem, seval, s12], by simp -implicitDefEqProofs (disch := omega) only [go_sem, seval, sq], by simp -implicitDefEqProofs (disch := omega) only [go_sem, seval, sl], by simp -implicitDefEqProofs (disch := omega) only [go_sem, seval, sn]⟩, by simp -implicitDefEqProofs (disch := omega) only [go_sem, seval, go_sem]⟩
theorem count_ok (p : Par) (s : St) (h : m7S p s) : wpA (tabW fns) L8 (nrm (m8S p)) s := by
  obtain ⟨t, σ⟩ := s
  obtain ⟨l, ch, k2, d1, q, g, g12, Bq, Bl, Bn, hq, hf, hD, hN, ⟨⟨c0, c1, c5, d5, c7⟩, hP, h10, h11, h12, s12, sq, sl, sn⟩, h13⟩ := h
  simp only at c0 c1 c5 d5 c7 h10 h11 h12 s12 sq sl sn h13
  unfold PairC at hP
  dsimp only at hP
  show wpA (tabW fns) (.seq _ (.block 4 (.loop lp3_2))) _ _
  unfold nrm
  simp -implicitDefEqProofs (disch := omega) only [go_sem, seval, go_sem]
  refine wp_loopS (e0S p l ch k2 d1 q g g12 Bq Bl Bn) (fun i => (lo l).length - i) 0 ⟨by omega, ⟨⟨by simp -implicitDefEqProofs (disch := omega) only [go_sem, seval, c0], by simp -implicitDefEqProofs (disch := omega) only [go_sem, seval, c1], by simp -implicitDefEqProofs (disch := omega) only [go_sem, seval, c5], by simp -implicitDefEqProofs (disch := omega) only [go_sem, seval, d5], by simp -implicitDefEqProofs (disch := omega) only [go_sem, seval, c7]⟩, by unfold PairC; simp -implicitDefEqProofs (disch := omega) only [go_sem, seval, hP], by simp -implicitDefEqProofs (disch := omega) only [go_sem, seval, h10], by simp -implicitDefEqProofs (disch := omega) only [go_sem, seval, h11], by simp -implicitDefEqProofs (disch := omega) only [go_sem, seval, h12], by simp -implicitDefEqProofs (disch := omega) only [go_sem, seval, s12], by simp -implicitDefEqProofs (disch := omega) only [go_sem, seval, sq], by simp -implicitDefEqProofs (disch := omega) only [go_sem, seval, sl], by simp -implicitDefEqProofs (disch := omega) only [go_sem, seval, sn]⟩, by simp -implicitDefEqProofs (disch := omega) only [go_sem, seval, h13, cnt]; rfl, by simp -implicitDefEqProofs (disch := omega) only [go_sem, seval, go_sem]⟩ ?_
  clear c0 c1 c5 d5 c7 hP h10 h11 h12 s12 sq sl sn h13
  clear t σ
  rintro i ⟨t, σ⟩ ⟨hi, ⟨⟨c0, c1, c5, d5, c7⟩, hP, h10, h11, h12, s12, sq, sl, sn⟩, h13, h14⟩
  simp only at c0 c1 c5 d5 c7 h10 h11 h12 s12 sq sl sn h13 h14
  unfold PairC at hP
  dsimp only at hP
  have hqm := hq
  have n0 : (q == 1152) = false := beq_no (by simp at hq; omega)
  have n1 : (q == 1280) = false := beq_no (by simp at hq; omega)
  have n2 : (q == 7936) = false := beq_no (by simp at hq; omega)
  have n3 : (7936 == q) = false := beq_no (by simp at hq; omega)
  have hls : ((lo l).map V.str).length = (lo l).length := List.length_map _
  simp -implicitDefEqProofs (disch := omega) only [go_sem, seval, lp3_2, h12, h14]
  refine condC_dec (fun hc => ?_) (fun hc => ?_)
  · have hsk := K_srt p hf
    have hkl := K_len p l
    have hlen := hf.1.len
    have hnl := now_len_le l
    have hsl := sure_len_le l
    have hR := fun k => Read_K k (Kof p l) ch (gt (lo l) i) hsk (by omega) (lo_nm hf hc)
    have hF := fun k => Find_ok k (nowL l) (gt (lo l) i) (by omega)
    have hG := Find_ok k2 (sureL l) (gt (lo l) i) (by omega)
    have hcn := cnt_succ p hc
    have hloL := lo_len2 hf
    have fin : ∀ (t' : Nat → V) (σ' : Store), (t' 0 = t 0 ∧ t' 1 = t 1 ∧ t' 5 = t 5 ∧ t' 7 = t 7 ∧ t' 10 = t 10 ∧ t' 11 = t 11 ∧ t' 12 = t 12) → (σ' 384 = σ 384 ∧ σ' 512 = σ 512 ∧ σ' 7296 = σ 7296 ∧ σ' q = σ q ∧ σ' 7936 = σ 7936 ∧ σ' (6592 + 2) = σ (6592 + 2)) → t' 13 = .int .i64 (cnt p l (i + 1) : Int) → t' 14 = .int .i64 ((i + 1 : Nat) : Int) → ∃ b, (lo l).length - b < (lo l).length - i ∧ e0S p l ch k2 d1 q g g12 Bq Bl Bn b ⟨t', σ'⟩ := by
      rintro t' σ' ⟨a0, a1, a5, a7, a10, a11, a12⟩ ⟨b5, b7, b113, bq, b123, bn⟩ z13 z14
      exact ⟨i + 1, by omega, by omega, ⟨⟨a0.trans c0, a1.trans c1, a5.trans c5, b5.trans d5, a7.trans c7⟩, b7.trans hP, a10.trans h10, a11.trans h11, a12.trans h12, b113.trans s12, bq.trans sq, b123.trans sl, bn.trans sn⟩, z13, z14⟩
    have hcl := cnt_le p l i
    have cn : gt ((lo l).map V.str) i = .str (gt (lo l) i) := by
      rw [gt_eq (by rw [hls]; exact hc), List.getElem_map, gt_eq hc]
    have hrn := flen (nowL l)
    have hek := elen (Kof p l)
    have hfd1 : (fD (fnd DF.n (nowL l) (gt (lo l) i))).s = fS (fnd DF.n (nowL l) (gt (lo l) i)) := by unfold fD fS; cases fnd DF.n (nowL l) (gt (lo l) i) <;> rfl
    have hfd2 : (fD (fnd DF.n (sureL l) (gt (lo l) i))).s = fS (fnd DF.n (sureL l) (gt (lo l) i)) := by unfold fD fS; cases fnd DF.n (sureL l) (gt (lo l) i) <;> rfl
    unfold difN at hcn
    obtain ⟨⟨fn, fs, fp⟩, hfe⟩ : ∃ f, f = fD (fnd DF.n (nowL l) (gt (lo l) i)) := ⟨_, rfl⟩
    obtain ⟨⟨gn, gs, gp⟩, hge⟩ : ∃ f, f = fD (fnd DF.n (sureL l) (gt (lo l) i)) := ⟨_, rfl⟩
    rw [← hfe] at hF hfd1
    rw [← hge] at hG hfd2
    simp only at hfd1 hfd2
    clear hfe hge
    generalize (fnd DF.n (nowL l) (gt (lo l) i)).isSome = A1 at *
    generalize (fnd DF.n (sureL l) (gt (lo l) i)).isSome = A2 at *
    generalize fS (fnd DF.n (nowL l) (gt (lo l) i)) = S1 at *
    generalize fS (fnd DF.n (sureL l) (gt (lo l) i)) = S2 at *
    subst hfd1
    subst hfd2
    generalize faceA (Kof p l) (gt (lo l) i) = A3 at *
    generalize faceS (Kof p l) (gt (lo l) i) = S3 at *
    simp -implicitDefEqProofs (disch := omega) only [go_sem, seval, DF.v] at hF hG
    rcases hD with ⟨g1, rfl, rfl⟩ | ⟨hK0, rfl⟩ <;> rcases hN with ⟨g2, rfl, rfl⟩ | ⟨k, rfl⟩
    · have hR := hR .ro
      have hF := hF .ro
      simp -implicitDefEqProofs (disch := omega) only [go_sem, seval, dkv] at hR sq
      cases A3
      · simp only [Bool.false_eq_true, if_false] at hR
        cases A1
        · simp at hcn
          simp -implicitDefEqProofs (disch := omega) only [go_sem, seval, c7, h12, h14]
          refine wp_draw_E ?_
          simp -implicitDefEqProofs (disch := omega) only [go_sem, seval, c7, hP, h10, h11, h12, s12, h13, h14, sq, sl, sn, cn, hls, hek, hrn, ero, fro, n0, n1, n2, n3, hR, hF, hG, show (!(false == true)) = true from rfl, show (!(true == false)) = true from rfl]
          exact fin _ _ (by simp -implicitDefEqProofs (disch := omega) only [go_sem, seval, go_sem]) (by simp -implicitDefEqProofs (disch := omega) only [go_sem, seval, n0, n1]) (by simp -implicitDefEqProofs (disch := omega) only [go_sem, seval, hcn, h13]) (by simp -implicitDefEqProofs (disch := omega) only [go_sem, seval, go_sem])
        · cases A2
          · simp at hcn
            simp -implicitDefEqProofs (disch := omega) only [go_sem, seval, c7, h12, h14]
            refine wp_draw_E ?_
            simp -implicitDefEqProofs (disch := omega) only [go_sem, seval, c7, hP, h10, h11, h12, s12, h13, h14, sq, sl, sn, cn, hls, hek, hrn, ero, fro, n0, n1, n2, n3, hR, hF, hG, show (!(false == true)) = true from rfl, show (!(true == false)) = true from rfl]
            exact fin _ _ (by simp -implicitDefEqProofs (disch := omega) only [go_sem, seval, go_sem]) (by simp -implicitDefEqProofs (disch := omega) only [go_sem, seval, n0, n1]) (by simp -implicitDefEqProofs (disch := omega) only [go_sem, seval, hcn, h13]) (by simp -implicitDefEqProofs (disch := omega) only [go_sem, seval, go_sem])
          · simp at hcn
            simp -implicitDefEqProofs (disch := omega) only [go_sem, seval, c7, h12, h14]
            refine wp_draw_E ?_
            simp -implicitDefEqProofs (disch := omega) only [go_sem, seval, c7, hP, h10, h11, h12, s12, h13, h14, sq, sl, sn, cn, hls, hek, hrn, ero, fro, n0, n1, n2, n3, hR, hF, hG, show (!(false == true)) = true from rfl, show (!(true == false)) = true from rfl]
            exact fin _ _ (by simp -implicitDefEqProofs (disch := omega) only [go_sem, seval, go_sem]) (by simp -implicitDefEqProofs (disch := omega) only [go_sem, seval, n0, n1]) (by simp -implicitDefEqProofs (disch := omega) only [go_sem, seval, hcn, h13]) (by simp -implicitDefEqProofs (disch := omega) only [go_sem, seval, go_sem])
      · simp only [if_true] at hR
        cases A1
        · cases A2
          · simp at hcn
            simp -implicitDefEqProofs (disch := omega) only [go_sem, seval, c7, h12, h14]
            refine wp_draw_E ?_
            simp -implicitDefEqProofs (disch := omega) only [go_sem, seval, c7, hP, h10, h11, h12, s12, h13, h14, sq, sl, sn, cn, hls, hek, hrn, ero, fro, n0, n1, n2, n3, hR, hF, hG, show (!(false == true)) = true from rfl, show (!(true == false)) = true from rfl]
            exact fin _ _ (by simp -implicitDefEqProofs (disch := omega) only [go_sem, seval, go_sem]) (by simp -implicitDefEqProofs (disch := omega) only [go_sem, seval, n0, n1]) (by simp -implicitDefEqProofs (disch := omega) only [go_sem, seval, hcn, h13]) (by simp -implicitDefEqProofs (disch := omega) only [go_sem, seval, go_sem])
          · by_cases e2 : S3 = gs
            · simp [e2] at hcn
              simp -implicitDefEqProofs (disch := omega) only [go_sem, seval, c7, h12, h14]
              refine wp_draw_E ?_
              simp -implicitDefEqProofs (disch := omega) only [go_sem, seval, c7, hP, h10, h11, h12, s12, h13, h14, sq, sl, sn, cn, hls, hek, hrn, ero, fro, n0, n1, n2, n3, hR, hF, hG, show (!(false == true)) = true from rfl, show (!(true == false)) = true from rfl, e2]
              exact fin _ _ (by simp -implicitDefEqProofs (disch := omega) only [go_sem, seval, go_sem]) (by simp -implicitDefEqProofs (disch := omega) only [go_sem, seval, n0, n1]) (by simp -implicitDefEqProofs (disch := omega) only [go_sem, seval, hcn, h13]) (by simp -implicitDefEqProofs (disch := omega) only [go_sem, seval, go_sem])
            · simp [e2] at hcn
              simp -implicitDefEqProofs (disch := omega) only [go_sem, seval, c7, h12, h14]
              refine wp_draw_E ?_
              simp -implicitDefEqProofs (disch := omega) only [go_sem, seval, c7, hP, h10, h11, h12, s12, h13, h14, sq, sl, sn, cn, hls, hek, hrn, ero, fro, n0, n1, n2, n3, hR, hF, hG, show (!(false == true)) = true from rfl, show (!(true == false)) = true from rfl, e2]
              exact fin _ _ (by simp -implicitDefEqProofs (disch := omega) only [go_sem, seval, go_sem]) (by simp -implicitDefEqProofs (disch := omega) only [go_sem, seval, n0, n1]) (by simp -implicitDefEqProofs (disch := omega) only [go_sem, seval, hcn, h13]) (by simp -implicitDefEqProofs (disch := omega) only [go_sem, seval, go_sem])
        · by_cases e1 : S3 = fs
          · simp [e1] at hcn
            simp -implicitDefEqProofs (disch := omega) only [go_sem, seval, c7, h12, h14]
            refine wp_draw_E ?_
            simp -implicitDefEqProofs (disch := omega) only [go_sem, seval, c7, hP, h10, h11, h12, s12, h13, h14, sq, sl, sn, cn, hls, hek, hrn, ero, fro, n0, n1, n2, n3, hR, hF, hG, show (!(false == true)) = true from rfl, show (!(true == false)) = true from rfl, e1]
            exact fin _ _ (by simp -implicitDefEqProofs (disch := omega) only [go_sem, seval, go_sem]) (by simp -implicitDefEqProofs (disch := omega) only [go_sem, seval, n0, n1]) (by simp -implicitDefEqProofs (disch := omega) only [go_sem, seval, hcn, h13]) (by simp -implicitDefEqProofs (disch := omega) only [go_sem, seval, go_sem])
          · cases A2
            · simp [e1] at hcn
              simp -implicitDefEqProofs (disch := omega) only [go_sem, seval, c7, h12, h14]
              refine wp_draw_E ?_
              simp -implicitDefEqProofs (disch := omega) only [go_sem, seval, c7, hP, h10, h11, h12, s12, h13, h14, sq, sl, sn, cn, hls, hek, hrn, ero, fro, n0, n1, n2, n3, hR, hF, hG, show (!(false == true)) = true from rfl, show (!(true == false)) = true from rfl, e1]
              exact fin _ _ (by simp -implicitDefEqProofs (disch := omega) only [go_sem, seval, go_sem]) (by simp -implicitDefEqProofs (disch := omega) only [go_sem, seval, n0, n1]) (by simp -implicitDefEqProofs (disch := omega) only [go_sem, seval, hcn, h13]) (by simp -implicitDefEqProofs (disch := omega) only [go_sem, seval, go_sem])
            · by_cases e2 : S3 = gs
              · subst e2
                simp [e1] at hcn
                simp -implicitDefEqProofs (disch := omega) only [go_sem, seval, c7, h12, h14]
                refine wp_draw_E ?_
                simp -implicitDefEqProofs (disch := omega) only [go_sem, seval, c7, hP, h10, h11, h12, s12, h13, h14, sq, sl, sn, cn, hls, hek, hrn, ero, fro, n0, n1, n2, n3, hR, hF, hG, show (!(false == true)) = true from rfl, show (!(true == false)) = true from rfl, e1]
                exact fin _ _ (by simp -implicitDefEqProofs (disch := omega) only [go_sem, seval, go_sem]) (by simp -implicitDefEqProofs (disch := omega) only [go_sem, seval, n0, n1]) (by simp -implicitDefEqProofs (disch := omega) only [go_sem, seval, hcn, h13]) (by simp -implicitDefEqProofs (disch := omega) only [go_sem, seval, go_sem])
              · simp [e1, e2] at hcn
                simp -implicitDefEqProofs (disch := omega) only [go_sem, seval, c7, h12, h14]
                refine wp_draw_E ?_
                simp -implicitDefEqProofs (disch := omega) only [go_sem, seval, c7, hP, h10, h11, h12, s12, h13, h14, sq, sl, sn, cn, hls, hek, hrn, ero, fro, n0, n1, n2, n3, hR, hF, hG, show (!(false == true)) = true from rfl, show (!(true == false)) = true from rfl, e1, e2]
                exact fin _ _ (by simp -implicitDefEqProofs (disch := omega) only [go_sem, seval, go_sem]) (by simp -implicitDefEqProofs (disch := omega) only [go_sem, seval, n0, n1]) (by simp -implicitDefEqProofs (disch := omega) only [go_sem, seval, hcn, h13]) (by simp -implicitDefEqProofs (disch := omega) only [go_sem, seval, go_sem])
    · have hR := hR .ro
      have hF := hF k
      simp -implicitDefEqProofs (disch := omega) only [go_sem, seval, dkv] at hR sq
      cases A3
      · simp only [Bool.false_eq_true, if_false] at hR
        cases A1
        · simp at hcn
          simp -implicitDefEqProofs (disch := omega) only [go_sem, seval, c7, h12, h14]
          refine wp_draw_E ?_
          simp -implicitDefEqProofs (disch := omega) only [go_sem, seval, c7, hP, h10, h11, h12, s12, h13, h14, sq, sl, cn, hls, hek, hrn, ero, fro, n0, n1, n2, n3, hR, hF, hG, show (!(false == true)) = true from rfl, show (!(true == false)) = true from rfl]
          exact fin _ _ (by simp -implicitDefEqProofs (disch := omega) only [go_sem, seval, go_sem]) (by simp -implicitDefEqProofs (disch := omega) only [go_sem, seval, n0, n1]) (by simp -implicitDefEqProofs (disch := omega) only [go_sem, seval, hcn, h13]) (by simp -implicitDefEqProofs (disch := omega) only [go_sem, seval, go_sem])
        · cases A2
          · simp at hcn
            simp -implicitDefEqProofs (disch := omega) only [go_sem, seval, c7, h12, h14]
            refine wp_draw_E ?_
            simp -implicitDefEqProofs (disch := omega) only [go_sem, seval, c7, hP, h10, h11, h12, s12, h13, h14, sq, sl, cn, hls, hek, hrn, ero, fro, n0, n1, n2, n3, hR, hF, hG, show (!(false == true)) = true from rfl, show (!(true == false)) = true from rfl]
            exact fin _ _ (by simp -implicitDefEqProofs (disch := omega) only [go_sem, seval, go_sem]) (by simp -implicitDefEqProofs (disch := omega) only [go_sem, seval, n0, n1]) (by simp -implicitDefEqProofs (disch := omega) only [go_sem, seval, hcn, h13]) (by simp -implicitDefEqProofs (disch := omega) only [go_sem, seval, go_sem])
          · simp at hcn
            simp -implicitDefEqProofs (disch := omega) only [go_sem, seval, c7, h12, h14]
            refine wp_draw_E ?_
            simp -implicitDefEqProofs (disch := omega) only [go_sem, seval, c7, hP, h10, h11, h12, s12, h13, h14, sq, sl, cn, hls, hek, hrn, ero, fro, n0, n1, n2, n3, hR, hF, hG, show (!(false == true)) = true from rfl, show (!(true == false)) = true from rfl]
            exact fin _ _ (by simp -implicitDefEqProofs (disch := omega) only [go_sem, seval, go_sem]) (by simp -implicitDefEqProofs (disch := omega) only [go_sem, seval, n0, n1]) (by simp -implicitDefEqProofs (disch := omega) only [go_sem, seval, hcn, h13]) (by simp -implicitDefEqProofs (disch := omega) only [go_sem, seval, go_sem])
      · simp only [if_true] at hR
        cases A1
        · cases A2
          · simp at hcn
            simp -implicitDefEqProofs (disch := omega) only [go_sem, seval, c7, h12, h14]
            refine wp_draw_E ?_
            simp -implicitDefEqProofs (disch := omega) only [go_sem, seval, c7, hP, h10, h11, h12, s12, h13, h14, sq, sl, cn, hls, hek, hrn, ero, fro, n0, n1, n2, n3, hR, hF, hG, show (!(false == true)) = true from rfl, show (!(true == false)) = true from rfl]
            exact fin _ _ (by simp -implicitDefEqProofs (disch := omega) only [go_sem, seval, go_sem]) (by simp -implicitDefEqProofs (disch := omega) only [go_sem, seval, n0, n1]) (by simp -implicitDefEqProofs (disch := omega) only [go_sem, seval, hcn, h13]) (by simp -implicitDefEqProofs (disch := omega) only [go_sem, seval, go_sem])
          · by_cases e2 : S3 = gs
            · simp [e2] at hcn
              simp -implicitDefEqProofs (disch := omega) only [go_sem, seval, c7, h12, h14]
              refine wp_draw_E ?_
              simp -implicitDefEqProofs (disch := omega) only [go_sem, seval, c7, hP, h10, h11, h12, s12, h13, h14, sq, sl, cn, hls, hek, hrn, ero, fro, n0, n1, n2, n3, hR, hF, hG, show (!(false == true)) = true from rfl, show (!(true == false)) = true from rfl, e2]
              exact fin _ _ (by simp -implicitDefEqProofs (disch := omega) only [go_sem, seval, go_sem]) (by simp -implicitDefEqProofs (disch := omega) only [go_sem, seval, n0, n1]) (by simp -implicitDefEqProofs (disch := omega) only [go_sem, seval, hcn, h13]) (by simp -implicitDefEqProofs (disch := omega) only [go_sem, seval, go_sem])
            · simp [e2] at hcn
              simp -implicitDefEqProofs (disch := omega) only [go_sem, seval, c7, h12, h14]
              refine wp_draw_E ?_
              simp -implicitDefEqProofs (disch := omega) only [go_sem, seval, c7, hP, h10, h11, h12, s12, h13, h14, sq, sl, cn, hls, hek, hrn, ero, fro, n0, n1, n2, n3, hR, hF, hG, show (!(false == true)) = true from rfl, show (!(true == false)) = true from rfl, e2]
              exact fin _ _ (by simp -implicitDefEqProofs (disch := omega) only [go_sem, seval, go_sem]) (by simp -implicitDefEqProofs (disch := omega) only [go_sem, seval, n0, n1]) (by simp -implicitDefEqProofs (disch := omega) only [go_sem, seval, hcn, h13]) (by simp -implicitDefEqProofs (disch := omega) only [go_sem, seval, go_sem])
        · by_cases e1 : S3 = fs
          · simp [e1] at hcn
            simp -implicitDefEqProofs (disch := omega) only [go_sem, seval, c7, h12, h14]
            refine wp_draw_E ?_
            simp -implicitDefEqProofs (disch := omega) only [go_sem, seval, c7, hP, h10, h11, h12, s12, h13, h14, sq, sl, cn, hls, hek, hrn, ero, fro, n0, n1, n2, n3, hR, hF, hG, show (!(false == true)) = true from rfl, show (!(true == false)) = true from rfl, e1]
            exact fin _ _ (by simp -implicitDefEqProofs (disch := omega) only [go_sem, seval, go_sem]) (by simp -implicitDefEqProofs (disch := omega) only [go_sem, seval, n0, n1]) (by simp -implicitDefEqProofs (disch := omega) only [go_sem, seval, hcn, h13]) (by simp -implicitDefEqProofs (disch := omega) only [go_sem, seval, go_sem])
          · cases A2
            · simp [e1] at hcn
              simp -implicitDefEqProofs (disch := omega) only [go_sem, seval, c7, h12, h14]
              refine wp_draw_E ?_
              simp -implicitDefEqProofs (disch := omega) only [go_sem, seval, c7, hP, h10, h11, h12, s12, h13, h14, sq, sl, cn, hls, hek, hrn, ero, fro, n0, n1, n2, n3, hR, hF, hG, show (!(false == true)) = true from rfl, show (!(true == false)) = true from rfl, e1]
              exact fin _ _ (by simp -implicitDefEqProofs (disch := omega) only [go_sem, seval, go_sem]) (by simp -implicitDefEqProofs (disch := omega) only [go_sem, seval, n0, n1]) (by simp -implicitDefEqProofs (disch := omega) only [go_sem, seval, hcn, h13]) (by simp -implicitDefEqProofs (disch := omega) only [go_sem, seval, go_sem])
            · by_cases e2 : S3 = gs
              · subst e2
                simp [e1] at hcn
                simp -implicitDefEqProofs (disch := omega) only [go_sem, seval, c7, h12, h14]
                refine wp_draw_E ?_
                simp -implicitDefEqProofs (disch := omega) only [go_sem, seval, c7, hP, h10, h11, h12, s12, h13, h14, sq, sl, cn, hls, hek, hrn, ero, fro, n0, n1, n2, n3, hR, hF, hG, show (!(false == true)) = true from rfl, show (!(true == false)) = true from rfl, e1]
                exact fin _ _ (by simp -implicitDefEqProofs (disch := omega) only [go_sem, seval, go_sem]) (by simp -implicitDefEqProofs (disch := omega) only [go_sem, seval, n0, n1]) (by simp -implicitDefEqProofs (disch := omega) only [go_sem, seval, hcn, h13]) (by simp -implicitDefEqProofs (disch := omega) only [go_sem, seval, go_sem])
              · simp [e1, e2] at hcn
                simp -implicitDefEqProofs (disch := omega) only [go_sem, seval, c7, h12, h14]
                refine wp_draw_E ?_
                simp -implicitDefEqProofs (disch := omega) only [go_sem, seval, c7, hP, h10, h11, h12, s12, h13, h14, sq, sl, cn, hls, hek, hrn, ero, fro, n0, n1, n2, n3, hR, hF, hG, show (!(false == true)) = true from rfl, show (!(true == false)) = true from rfl, e1, e2]
                exact fin _ _ (by simp -implicitDefEqProofs (disch := omega) only [go_sem, seval, go_sem]) (by simp -implicitDefEqProofs (disch := omega) only [go_sem, seval, n0, n1]) (by simp -implicitDefEqProofs (disch := omega) only [go_sem, seval, hcn, h13]) (by simp -implicitDefEqProofs (disch := omega) only [go_sem, seval, go_sem])
    · have hR := hR .nil
      have hF := hF .ro
      rw [show (Kof p l).length = 0 by rw [hK0]; rfl, show rows DE.v (Kof p l) = [] by rw [hK0]; rfl] at hR
      simp -implicitDefEqProofs (disch := omega) only [go_sem, seval, dkv] at hR sq
      cases A3
      · simp only [Bool.false_eq_true, if_false] at hR
        cases A1
        · simp at hcn
          simp -implicitDefEqProofs (disch := omega) only [go_sem, seval, c7, h12, h14]
          refine wp_draw_E ?_
          simp -implicitDefEqProofs (disch := omega) only [go_sem, seval, c7, hP, h10, h11, h12, s12, h13, h14, sq, sn, cn, hls, hek, hrn, ero, fro, n0, n1, n2, n3, hR, hF, hG, show (!(false == true)) = true from rfl, show (!(true == false)) = true from rfl]
          exact fin _ _ (by simp -implicitDefEqProofs (disch := omega) only [go_sem, seval, go_sem]) (by simp -implicitDefEqProofs (disch := omega) only [go_sem, seval, n0, n1]) (by simp -implicitDefEqProofs (disch := omega) only [go_sem, seval, hcn, h13]) (by simp -implicitDefEqProofs (disch := omega) only [go_sem, seval, go_sem])
        · cases A2
          · simp at hcn
            simp -implicitDefEqProofs (disch := omega) only [go_sem, seval, c7, h12, h14]
            refine wp_draw_E ?_
            simp -implicitDefEqProofs (disch := omega) only [go_sem, seval, c7, hP, h10, h11, h12, s12, h13, h14, sq, sn, cn, hls, hek, hrn, ero, fro, n0, n1, n2, n3, hR, hF, hG, show (!(false == true)) = true from rfl, show (!(true == false)) = true from rfl]
            exact fin _ _ (by simp -implicitDefEqProofs (disch := omega) only [go_sem, seval, go_sem]) (by simp -implicitDefEqProofs (disch := omega) only [go_sem, seval, n0, n1]) (by simp -implicitDefEqProofs (disch := omega) only [go_sem, seval, hcn, h13]) (by simp -implicitDefEqProofs (disch := omega) only [go_sem, seval, go_sem])
          · simp at hcn
            simp -implicitDefEqProofs (disch := omega) only [go_sem, seval, c7, h12, h14]
            refine wp_draw_E ?_
            simp -implicitDefEqProofs (disch := omega) only [go_sem, seval, c7, hP, h10, h11, h12, s12, h13, h14, sq, sn, cn, hls, hek, hrn, ero, fro, n0, n1, n2, n3, hR, hF, hG, show (!(false == true)) = true from rfl, show (!(true == false)) = true from rfl]
            exact fin _ _ (by simp -implicitDefEqProofs (disch := omega) only [go_sem, seval, go_sem]) (by simp -implicitDefEqProofs (disch := omega) only [go_sem, seval, n0, n1]) (by simp -implicitDefEqProofs (disch := omega) only [go_sem, seval, hcn, h13]) (by simp -implicitDefEqProofs (disch := omega) only [go_sem, seval, go_sem])
      · simp only [if_true] at hR
        cases A1
        · cases A2
          · simp at hcn
            simp -implicitDefEqProofs (disch := omega) only [go_sem, seval, c7, h12, h14]
            refine wp_draw_E ?_
            simp -implicitDefEqProofs (disch := omega) only [go_sem, seval, c7, hP, h10, h11, h12, s12, h13, h14, sq, sn, cn, hls, hek, hrn, ero, fro, n0, n1, n2, n3, hR, hF, hG, show (!(false == true)) = true from rfl, show (!(true == false)) = true from rfl]
            exact fin _ _ (by simp -implicitDefEqProofs (disch := omega) only [go_sem, seval, go_sem]) (by simp -implicitDefEqProofs (disch := omega) only [go_sem, seval, n0, n1]) (by simp -implicitDefEqProofs (disch := omega) only [go_sem, seval, hcn, h13]) (by simp -implicitDefEqProofs (disch := omega) only [go_sem, seval, go_sem])
          · by_cases e2 : S3 = gs
            · simp [e2] at hcn
              simp -implicitDefEqProofs (disch := omega) only [go_sem, seval, c7, h12, h14]
              refine wp_draw_E ?_
              simp -implicitDefEqProofs (disch := omega) only [go_sem, seval, c7, hP, h10, h11, h12, s12, h13, h14, sq, sn, cn, hls, hek, hrn, ero, fro, n0, n1, n2, n3, hR, hF, hG, show (!(false == true)) = true from rfl, show (!(true == false)) = true from rfl, e2]
              exact fin _ _ (by simp -implicitDefEqProofs (disch := omega) only [go_sem, seval, go_sem]) (by simp -implicitDefEqProofs (disch := omega) only [go_sem, seval, n0, n1]) (by simp -implicitDefEqProofs (disch := omega) only [go_sem, seval, hcn, h13]) (by simp -implicitDefEqProofs (disch := omega) only [go_sem, seval, go_sem])
            · simp [e2] at hcn
              simp -implicitDefEqProofs (disch := omega) only [go_sem, seval, c7, h12, h14]
              refine wp_draw_E ?_
              simp -implicitDefEqProofs (disch := omega) only [go_sem, seval, c7, hP, h10, h11, h12, s12, h13, h14, sq, sn, cn, hls, hek, hrn, ero, fro, n0, n1, n2, n3, hR, hF, hG, show (!(false == true)) = true from rfl, show (!(true == false)) = true from rfl, e2]
              exact fin _ _ (by simp -implicitDefEqProofs (disch := omega) only [go_sem, seval, go_sem]) (by simp -implicitDefEqProofs (disch := omega) only [go_sem, seval, n0, n1]) (by simp -implicitDefEqProofs (disch := omega) only [go_sem, seval, hcn, h13]) (by simp -implicitDefEqProofs (disch := omega) only [go_sem, seval, go_sem])
        · by_cases e1 : S3 = fs
          · simp [e1] at hcn
            simp -implicitDefEqProofs (disch := omega) only [go_sem, seval, c7, h12, h14]
            refine wp_draw_E ?_
            simp -implicitDefEqProofs (disch := omega) only [go_sem, seval, c7, hP, h10, h11, h12, s12, h13, h14, sq, sn, cn, hls, hek, hrn, ero, fro, n0, n1, n2, n3, hR, hF, hG, show (!(false == true)) = true from rfl, show (!(true == false)) = true from rfl, e1]
            exact fin _ _ (by simp -implicitDefEqProofs (disch := omega) only [go_sem, seval, go_sem]) (by simp -implicitDefEqProofs (disch := omega) only [go_sem, seval, n0, n1]) (by simp -implicitDefEqProofs (disch := omega) only [go_sem, seval, hcn, h13]) (by simp -implicitDefEqProofs (disch := omega) only [go_sem, seval, go_sem])
          · cases A2
            · simp [e1] at hcn
              simp -implicitDefEqProofs (disch := omega) only [go_sem, seval, c7, h12, h14]
              refine wp_draw_E ?_
              simp -implicitDefEqProofs (disch := omega) only [go_sem, seval, c7, hP, h10, h11, h12, s12, h13, h14, sq, sn, cn, hls, hek, hrn, ero, fro, n0, n1, n2, n3, hR, hF, hG, show (!(false == true)) = true from rfl, show (!(true == false)) = true from rfl, e1]
              exact fin _ _ (by simp -implicitDefEqProofs (disch := omega) only [go_sem, seval, go_sem]) (by simp -implicitDefEqProofs (disch := omega) only [go_sem, seval, n0, n1]) (by simp -implicitDefEqProofs (disch := omega) only [go_sem, seval, hcn, h13]) (by simp -implicitDefEqProofs (disch := omega) only [go_sem, seval, go_sem])
            · by_cases e2 : S3 = gs
              · subst e2
                simp [e1] at hcn
                simp -implicitDefEqProofs (disch := omega) only [go_sem, seval, c7, h12, h14]
                refine wp_draw_E ?_
                simp -implicitDefEqProofs (disch := omega) only [go_sem, seval, c7, hP, h10, h11, h12, s12, h13, h14, sq, sn, cn, hls, hek, hrn, ero, fro, n0, n1, n2, n3, hR, hF, hG, show (!(false == true)) = true from rfl, show (!(true == false)) = true from rfl, e1]
                exact fin _ _ (by simp -implicitDefEqProofs (disch := omega) only [go_sem, seval, go_sem]) (by simp -implicitDefEqProofs (disch := omega) only [go_sem, seval, n0, n1]) (by simp -implicitDefEqProofs (disch := omega) only [go_sem, seval, hcn, h13]) (by simp -implicitDefEqProofs (disch := omega) only [go_sem, seval, go_sem])
              · simp [e1, e2] at hcn
                simp -implicitDefEqProofs (disch := omega) only [go_sem, seval, c7, h12, h14]
                refine wp_draw_E ?_
                simp -implicitDefEqProofs (disch := omega) only [go_sem, seval, c7, hP, h10, h11, h12, s12, h13, h14, sq, sn, cn, hls, hek, hrn, ero, fro, n0, n1, n2, n3, hR, hF, hG, show (!(false == true)) = true from rfl, show (!(true == false)) = true from rfl, e1, e2]
                exact fin _ _ (by simp -implicitDefEqProofs (disch := omega) only [go_sem, seval, go_sem]) (by simp -implicitDefEqProofs (disch := omega) only [go_sem, seval, n0, n1]) (by simp -implicitDefEqProofs (disch := omega) only [go_sem, seval, hcn, h13]) (by simp -implicitDefEqProofs (disch := omega) only [go_sem, seval, go_sem])
    · have hR := hR .nil
      have hF := hF k
      rw [show (Kof p l).length = 0 by rw [hK0]; rfl, show rows DE.v (Kof p l) = [] by rw [hK0]; rfl] at hR
      simp -implicitDefEqProofs (disch := omega) only [go_sem, seval, dkv] at hR sq
      cases A3
      · simp only [Bool.false_eq_true, if_false] at hR
        cases A1
        · simp at hcn
          simp -implicitDefEqProofs (disch := omega) only [go_sem, seval, c7, h12, h14]
          refine wp_draw_E ?_
          simp -implicitDefEqProofs (disch := omega) only [go_sem, seval, c7, hP, h10, h11, h12, s12, h13, h14, sq, cn, hls, hek, hrn, ero, fro, n0, n1, n2, n3, hR, hF, hG, show (!(false == true)) = true from rfl, show (!(true == false)) = true from rfl]
          exact fin _ _ (by simp -implicitDefEqProofs (disch := omega) only [go_sem, seval, go_sem]) (by simp -implicitDefEqProofs (disch := omega) only [go_sem, seval, n0, n1]) (by simp -implicitDefEqProofs (disch := omega) only [go_sem, seval, hcn, h13]) (by simp -implicitDefEqProofs (disch := omega) only [go_sem, seval, go_sem])
        · cases A2
          · simp at hcn
            simp -implicitDefEqProofs (disch := omega) only [go_sem, seval, c7, h12, h14]
            refine wp_draw_E ?_
            simp -implicitDefEqProofs (disch := omega) only [go_sem, seval, c7, hP, h10, h11, h12, s12, h13, h14, sq, cn, hls, hek, hrn, ero, fro, n0, n1, n2, n3, hR, hF, hG, show (!(false == true)) = true from rfl, show (!(true == false)) = true from rfl]
            exact fin _ _ (by simp -implicitDefEqProofs (disch := omega) only [go_sem, seval, go_sem]) (by simp -implicitDefEqProofs (disch := omega) only [go_sem, seval, n0, n1]) (by simp -implicitDefEqProofs (disch := omega) only [go_sem, seval, hcn, h13]) (by simp -implicitDefEqProofs (disch := omega) only [go_sem, seval, go_sem])
          · simp at hcn
            simp -implicitDefEqProofs (disch := omega) only [go_sem, seval, c7, h12, h14]
            refine wp_draw_E ?_
            simp -implicitDefEqProofs (disch := omega) only [go_sem, seval, c7, hP, h10, h11, h12, s12, h13, h14, sq, cn, hls, hek, hrn, ero, fro, n0, n1, n2, n3, hR, hF, hG, show (!(false == true)) = true from rfl, show (!(true == false)) = true from rfl]
            exact fin _ _ (by simp -implicitDefEqProofs (disch := omega) only [go_sem, seval, go_sem]) (by simp -implicitDefEqProofs (disch := omega) only [go_sem, seval, n0, n1]) (by simp -implicitDefEqProofs (disch := omega) only [go_sem, seval, hcn, h13]) (by simp -implicitDefEqProofs (disch := omega) only [go_sem, seval, go_sem])
      · simp only [if_true] at hR
        cases A1
        · cases A2
          · simp at hcn
            simp -implicitDefEqProofs (disch := omega) only [go_sem, seval, c7, h12, h14]
            refine wp_draw_E ?_
            simp -implicitDefEqProofs (disch := omega) only [go_sem, seval, c7, hP, h10, h11, h12, s12, h13, h14, sq, cn, hls, hek, hrn, ero, fro, n0, n1, n2, n3, hR, hF, hG, show (!(false == true)) = true from rfl, show (!(true == false)) = true from rfl]
            exact fin _ _ (by simp -implicitDefEqProofs (disch := omega) only [go_sem, seval, go_sem]) (by simp -implicitDefEqProofs (disch := omega) only [go_sem, seval, n0, n1]) (by simp -implicitDefEqProofs (disch := omega) only [go_sem, seval, hcn, h13]) (by simp -implicitDefEqProofs (disch := omega) only [go_sem, seval, go_sem])
          · by_cases e2 : S3 = gs
            · simp [e2] at hcn
              simp -implicitDefEqProofs (disch := omega) only [go_sem, seval, c7, h12, h14]
              refine wp_draw_E ?_
              simp -implicitDefEqProofs (disch := omega) only [go_sem, seval, c7, hP, h10, h11, h12, s12, h13, h14, sq, cn, hls, hek, hrn, ero, fro, n0, n1, n2, n3, hR, hF, hG, show (!(false == true)) = true from rfl, show (!(true == false)) = true from rfl, e2]
              exact fin _ _ (by simp -implicitDefEqProofs (disch := omega) only [go_sem, seval, go_sem]) (by simp -implicitDefEqProofs (disch := omega) only [go_sem, seval, n0, n1]) (by simp -implicitDefEqProofs (disch := omega) only [go_sem, seval, hcn, h13]) (by simp -implicitDefEqProofs (disch := omega) only [go_sem, seval, go_sem])
            · simp [e2] at hcn
              simp -implicitDefEqProofs (disch := omega) only [go_sem, seval, c7, h12, h14]
              refine wp_draw_E ?_
              simp -implicitDefEqProofs (disch := omega) only [go_sem, seval, c7, hP, h10, h11, h12, s12, h13, h14, sq, cn, hls, hek, hrn, ero, fro, n0, n1, n2, n3, hR, hF, hG, show (!(false == true)) = true from rfl, show (!(true == false)) = true from rfl, e2]
              exact fin _ _ (by simp -implicitDefEqProofs (disch := omega) only [go_sem, seval, go_sem]) (by simp -implicitDefEqProofs (disch := omega) only [go_sem, seval, n0, n1]) (by simp -implicitDefEqProofs (disch := omega) only [go_sem, seval, hcn, h13]) (by simp -implicitDefEqProofs (disch := omega) only [go_sem, seval, go_sem])
        · by_cases e1 : S3 = fs
          · simp [e1] at hcn
            simp -implicitDefEqProofs (disch := omega) only [go_sem, seval, c7, h12, h14]
            refine wp_draw_E ?_
            simp -implicitDefEqProofs (disch := omega) only [go_sem, seval, c7, hP, h10, h11, h12, s12, h13, h14, sq, cn, hls, hek, hrn, ero, fro, n0, n1, n2, n3, hR, hF, hG, show (!(false == true)) = true from rfl, show (!(true == false)) = true from rfl, e1]
            exact fin _ _ (by simp -implicitDefEqProofs (disch := omega) only [go_sem, seval, go_sem]) (by simp -implicitDefEqProofs (disch := omega) only [go_sem, seval, n0, n1]) (by simp -implicitDefEqProofs (disch := omega) only [go_sem, seval, hcn, h13]) (by simp -implicitDefEqProofs (disch := omega) only [go_sem, seval, go_sem])
          · cases A2
            · simp [e1] at hcn
              simp -implicitDefEqProofs (disch := omega) only [go_sem, seval, c7, h12, h14]
              refine wp_draw_E ?_
              simp -implicitDefEqProofs (disch := omega) only [go_sem, seval, c7, hP, h10, h11, h12, s12, h13, h14, sq, cn, hls, hek, hrn, ero, fro, n0, n1, n2, n3, hR, hF, hG, show (!(false == true)) = true from rfl, show (!(true == false)) = true from rfl, e1]
              exact fin _ _ (by simp -implicitDefEqProofs (disch := omega) only [go_sem, seval, go_sem]) (by simp -implicitDefEqProofs (disch := omega) only [go_sem, seval, n0, n1]) (by simp -implicitDefEqProofs (disch := omega) only [go_sem, seval, hcn, h13]) (by simp -implicitDefEqProofs (disch := omega) only [go_sem, seval, go_sem])
            · by_cases e2 : S3 = gs
              · subst e2
                simp [e1] at hcn
                simp -implicitDefEqProofs (disch := omega) only [go_sem, seval, c7, h12, h14]
                refine wp_draw_E ?_
                simp -implicitDefEqProofs (disch := omega) only [go_sem, seval, c7, hP, h10, h11, h12, s12, h13, h14, sq, cn, hls, hek, hrn, ero, fro, n0, n1, n2, n3, hR, hF, hG, show (!(false == true)) = true from rfl, show (!(true == false)) = true from rfl, e1]
                exact fin _ _ (by simp -implicitDefEqProofs (disch := omega) only [go_sem, seval, go_sem]) (by simp -implicitDefEqProofs (disch := omega) only [go_sem, seval, n0, n1]) (by simp -implicitDefEqProofs (disch := omega) only [go_sem, seval, hcn, h13]) (by simp -implicitDefEqProofs (disch := omega) only [go_sem, seval, go_sem])
              · simp [e1, e2] at hcn
                simp -implicitDefEqProofs (disch := omega) only [go_sem, seval, c7, h12, h14]
                refine wp_draw_E ?_
                simp -implicitDefEqProofs (disch := omega) only [go_sem, seval, c7, hP, h10, h11, h12, s12, h13, h14, sq, cn, hls, hek, hrn, ero, fro, n0, n1, n2, n3, hR, hF, hG, show (!(false == true)) = true from rfl, show (!(true == false)) = true from rfl, e1, e2]
                exact fin _ _ (by simp -implicitDefEqProofs (disch := omega) only [go_sem, seval, go_sem]) (by simp -implicitDefEqProofs (disch := omega) only [go_sem, seval, n0, n1]) (by simp -implicitDefEqProofs (disch := omega) only [go_sem, seval, hcn, h13]) (by simp -implicitDefEqProofs (disch := omega) only [go_sem, seval, go_sem])
  · obtain rfl : i = (lo l).length := by omega
    simp -implicitDefEqProofs (disch := omega) only [go_sem, seval, go_sem]
    exact ⟨l, ch, k2, d1, q, g, g12, Bq, Bl, Bn, hqm, hf, hD, hN, ⟨⟨by simp -implicitDefEqProofs (disch := omega) only [go_sem, seval, c0], by simp -implicitDefEqProofs (disch := omega) only [go_sem, seval, c1], by simp -implicitDefEqProofs (disch := omega) only [go_sem, seval, c5], by simp -implicitDefEqProofs (disch := omega) only [go_sem, seval, d5], by simp -implicitDefEqProofs (disch := omega) only [go_sem, seval, c7]⟩, by unfold PairC; simp -implicitDefEqProofs (disch := omega) only [go_sem, seval, hP], by simp -implicitDefEqProofs (disch := omega) only [go_sem, seval, h10], by simp -implicitDefEqProofs (disch := omega) only [go_sem, seval, h11], by simp -implicitDefEqProofs (disch := omega) only [go_sem, seval, h12], by simp -implicitDefEqProofs (disch := omega) only [go_sem, seval, s12], by simp -implicitDefEqProofs (disch := omega) only [go_sem, seval, sq], by simp -implicitDefEqProofs (disch := omega) only [go_sem, seval, sl], by simp -implicitDefEqProofs (disch := omega) only [go_sem, seval, sn]⟩, by simp -implicitDefEqProofs (disch := omega) only [go_sem, seval, h13]⟩
end Go.Vm.Ytclcadpmkkeaeaa
