/- (seval) Room for all files: the loop. -/
import Derived.Test.YtclcadpmkkeaeaaDmC
import Derived.Test.YtclcadpmkkeaeaaDmF
import Derived.Test.YtclcadpmkkeaeaaDmB
set_option linter.unusedSectionVars false
set_option linter.unusedSimpArgs false
set_option linter.unusedVariables false
set_option maxHeartbeats 40000000
set_option maxRecDepth 10000
namespace Go.Vm
theorem and127 (r : Int) : ∃ n : Nat, n ≤ 127 ∧ Go.bits .and .i64 r 127 = (n : Int) := by
  have e : Go.bits .and .i64 r 127 = IntKind.i64.wrap ((BitVec.ofInt 64 r &&& BitVec.ofInt 64 127).toNat : Int) := rfl
  have h : (BitVec.ofInt 64 r &&& BitVec.ofInt 64 127).toNat ≤ 127 := by
    rw [BitVec.toNat_and]
    exact Nat.le_trans Nat.and_le_right (by decide)
  refine ⟨_, h, ?_⟩
  rw [e, IntKind.wrap_i64]
  omega
end Go.Vm
namespace Go.Vm.Ytclcadpmkkeaeaa
open Go.Proofs
theorem fit_mono {l : List DE} {ch n : Nat} (h : Fit l ch n) : Fit l ch (n + 1) := by
  obtain ⟨h1, h2, h3, h4, h5, h6⟩ := h
  exact ⟨h1, h2, h3, by omega, by omega, by omega⟩
/-- The two in memory. -/
def MemF (q : Nat) (l : List DE) (lim : Int) (ch : Nat) (c0 c1 : V) (σ : Store) : Prop := ∃ g, c0 = .ptr q g 0 ∧
  ((∃ g1 g2, σ q = ⟨g, .rw, false, dkv (.sli (q + 1) g1 0 l.length 6) lim ch false⟩ ∧ σ (q + 1) = ⟨g1, .rw, true, rows DE.v l⟩ ∧ c1 = .sli (q + 2) g2 0 (nowL l).length 3 ∧ σ (q + 2) = ⟨g2, .rw, true, rows DF.v (nowL l)⟩) ∨
   (∃ g1 k, σ q = ⟨g, .rw, false, dkv (.sli (q + 1) g1 0 l.length 6) lim ch false⟩ ∧ σ (q + 1) = ⟨g1, .rw, true, rows DE.v l⟩ ∧ c1 = .sl k (nowL l).length (rows DF.v (nowL l))) ∨
   (∃ k, l = [] ∧ σ q = ⟨g, .rw, false, dkv (.sl .nil 0 []) lim ch false⟩ ∧ c1 = .sl k (nowL l).length (rows DF.v (nowL l))))
theorem act_len (a : Act) : a.v.length = 8 := rfl
def okAct (a : Act) : Prop := a.n.length ≤ 140737488355328 ∧ a.t.length ≤ 140737488355328
def spS (kk : SK) (acts : List Act) (n : Nat) (i : Nat) (s : St) : Prop := i ≤ acts.length ∧ i ≤ 40 ∧ s.t 0 = .sl kk acts.length (rows Act.v acts) ∧ s.t 6 = .int .i64 (n : Int) ∧ s.t 7 = .int .i64 (i : Int) ∧ s.t 5 = .ptr 384 1 0 ∧
  ∃ l ch k2 c0 c1 q, q ∈ [1152, 3264] ∧ Fit l ch i ∧ (usedL l : Int) ≤ n ∧ s.σ 384 = ⟨1, .rw, false, [c0, c1, .sl k2 (sureL l).length (rows DF.v (sureL l)), .int .i64 (n : Int), .sl .nil 0 [], .int .i64 (ch : Int), .bool false]⟩ ∧ MemF q l n ch c0 c1 s.σ
theorem space_ok (kk : SK) (acts : List Act) (r : Int) (hok : ∀ a ∈ acts, okAct a) (hal : acts.length ≤ 140737488355328) : fnA (tabW fns) [.bor, .bor] ir4 [.sl kk acts.length (rows Act.v acts), .int .i64 r] (fun q => q = (.bool true, [])) := by
  obtain ⟨n, hn, hr⟩ := and127 r
  have b := begun_ok
  have rm := do_room .nil n hn
  have aw := awake_ok
  have e : (sureL []).length = 0 := rfl
  have e2 : rows DF.v (sureL []) = [] := rfl
  simp -implicitDefEqProofs (disch := omega) only [go_sem, seval, Pv, dkv, e, e2] at b rm
  refine fnA_start rfl ?_
  simp -implicitDefEqProofs (disch := omega) only [go_sem, seval, b, hr, rm]
  refine wp_loopS (spS kk acts n) (fun i => acts.length - i) 0 ⟨by omega, by omega, by simp -implicitDefEqProofs (disch := omega) only [go_sem, seval, go_sem], by simp -implicitDefEqProofs (disch := omega) only [go_sem, seval, go_sem], by simp -implicitDefEqProofs (disch := omega) only [go_sem, seval, go_sem], by simp -implicitDefEqProofs (disch := omega) only [go_sem, seval, go_sem], [], 0, .nil, _, _, 1152, by simp, ⟨List.Pairwise.nil, by simp [OkE], by simp [NmE], by simp, by simp [usedL], by simp⟩, by simp [usedL], by simp -implicitDefEqProofs (disch := omega) only [go_sem, seval, e, e2]; rfl, ?_⟩ ?_
  · exact ⟨1, rfl, .inr (.inr ⟨.nil, rfl, by simp -implicitDefEqProofs (disch := omega) only [go_sem, seval, dkv], rfl⟩)⟩
  rintro i ⟨t, σ⟩ ⟨hi, hi40, h0, h6, h7, h5, l, ch, k2, c0, c1, q, hq, hf, hu, s5, g, rfl, hM⟩
  simp only at h0 h6 h7 h5 s5 hM
  by_cases hc : i < acts.length
  · by_cases h40 : i < 40
    · simp -implicitDefEqProofs (disch := omega) only [go_sem, seval, lp4_0, h0, h7, hc, h40]
      have rr := rows_row (f := Act.v) act_len hc
      have c0 : (rows Act.v acts)[i * 8]? = some (.int .i64 (gt acts i).k) := rows_at (f := Act.v) (j := 0) act_len hc (by omega)
      have c0 : gt (rows Act.v acts) (i * 8) = .int .i64 (gt acts i).k := by simp [gt, List.getD_eq_getElem?_getD, c0]
      have hel := rows_length (f := Act.v) act_len acts
      have q2 : i * 8 + 8 ≤ acts.length * 8 := by omega
      have hoa := hok (gt acts i) (by rw [gt_eq hc]; exact List.getElem_mem hc)
      generalize gt acts i = a at *
      by_cases k1 : a.k < 0
      · simp -implicitDefEqProofs (disch := omega) only [go_sem, seval, h0, h7, c0, hel, q2, k1]
        exact ⟨i + 1, by omega, by omega, by omega, by simp -implicitDefEqProofs (disch := omega) only [go_sem, seval, h0], by simp -implicitDefEqProofs (disch := omega) only [go_sem, seval, h6], by simp -implicitDefEqProofs (disch := omega) only [go_sem, seval, go_sem], by simp -implicitDefEqProofs (disch := omega) only [go_sem, seval, h5], l, ch, k2, _, c1, q, hq, fit_mono hf, hu, by simp -implicitDefEqProofs (disch := omega) only [go_sem, seval, s5], g, rfl, hM⟩
      · by_cases k5 : 5 < a.k
        · simp -implicitDefEqProofs (disch := omega) only [go_sem, seval, h0, h7, c0, hel, q2, k1, k5]
          exact ⟨i + 1, by omega, by omega, by omega, by simp -implicitDefEqProofs (disch := omega) only [go_sem, seval, h0], by simp -implicitDefEqProofs (disch := omega) only [go_sem, seval, h6], by simp -implicitDefEqProofs (disch := omega) only [go_sem, seval, go_sem], by simp -implicitDefEqProofs (disch := omega) only [go_sem, seval, h5], l, ch, k2, _, c1, q, hq, fit_mono hf, hu, by simp -implicitDefEqProofs (disch := omega) only [go_sem, seval, s5], g, rfl, hM⟩
        · simp -implicitDefEqProofs (disch := omega) only [go_sem, seval, h0, h7, c0, hel, q2, k1, k5]
          have hel2 := elen l
          have hrn := flen (nowL l)
          have hlen := hf.len
          have hnl := now_len_le l
          simp only [List.mem_cons, List.not_mem_nil, or_false] at hq
          rcases hM with ⟨g1, g2, sq, sq1, rfl, sq2⟩ | ⟨g1, k, sq, sq1, rfl⟩ | ⟨k, rfl, sq, rfl⟩
          · obtain ⟨lv2, nv2, k3, L, ch2, hF, hf2, hu2, hD⟩ := do_ok (k2 := k2) (l := l) (.inl ⟨rfl, rfl⟩) n ch i hf (by omega) (by omega) a (by omega) hoa.1 hoa.2
            have hu3 := hu2 (by omega) hu
            have hel3 := elen L
            have hrn3 := flen (nowL L)
            have hfit := hf2
            obtain ⟨p1, p2, p3, p4, p5, p6⟩ := hf2
            have hE := fun k k1 => equal_ok k k1 k3 L n ch2 p1 p2 p3 (by omega) (by omega) (by omega)
            have hU := fun k => Used_ok k L n ch2 false (by omega) (by omega)
            have hu4 : ¬ (n : Int) < (usedL L : Int) := by omega
            rcases hq with rfl | rfl <;> rcases hF with ⟨rfl, rfl⟩ | ⟨rfl, k4, rfl⟩ | ⟨rfl, rfl, k4, rfl⟩
            · have hE := hE .ro .ro
              have hU := hU .ro
              simp -implicitDefEqProofs (disch := omega) only [go_sem, seval, Pv, Pr, dkv, Act.v] at hD hE hU
              simp -implicitDefEqProofs (disch := omega) only [go_sem, seval, dkv] at sq
              refine wp_draw_E ?_
              simp -implicitDefEqProofs (disch := omega) only [go_sem, seval, h0, h7, h5, h6, s5, sq, sq1, sq2, rr, hel, q2, hel2, hrn, ero, fro, ite_self, Act.v, hD, hE, hU, hel3, hrn3, hu4]
              exact ⟨i + 1, by omega, by omega, by omega, by simp -implicitDefEqProofs (disch := omega) only [go_sem, seval, h0], by simp -implicitDefEqProofs (disch := omega) only [go_sem, seval, h6], by simp -implicitDefEqProofs (disch := omega) only [go_sem, seval, go_sem], by simp -implicitDefEqProofs (disch := omega) only [go_sem, seval, h5], _, ch2, k3, _, _, 3264, by simp, hfit, hu3, by simp -implicitDefEqProofs (disch := omega) only [go_sem, seval, go_sem]; rfl, _, rfl, .inl ⟨_, _, (by first | (simp -implicitDefEqProofs (disch := omega) only [go_sem, seval, dkv]; done) | (simp -implicitDefEqProofs (disch := omega) only [go_sem, seval, dkv]; rfl)), (by first | (simp -implicitDefEqProofs (disch := omega) only [go_sem, seval, go_sem]; done) | (simp -implicitDefEqProofs (disch := omega) only [go_sem, seval, go_sem]; rfl)), (by first | (simp -implicitDefEqProofs (disch := omega) only [go_sem, seval, go_sem]; done) | (simp -implicitDefEqProofs (disch := omega) only [go_sem, seval, go_sem]; rfl)), (by first | (simp -implicitDefEqProofs (disch := omega) only [go_sem, seval, go_sem]; done) | (simp -implicitDefEqProofs (disch := omega) only [go_sem, seval, go_sem]; rfl))⟩⟩
            · have hE := hE .ro k4
              have hU := hU .ro
              simp -implicitDefEqProofs (disch := omega) only [go_sem, seval, Pv, Pr, dkv, Act.v] at hD hE hU
              simp -implicitDefEqProofs (disch := omega) only [go_sem, seval, dkv] at sq
              refine wp_draw_E ?_
              simp -implicitDefEqProofs (disch := omega) only [go_sem, seval, h0, h7, h5, h6, s5, sq, sq1, sq2, rr, hel, q2, hel2, hrn, ero, fro, ite_self, Act.v, hD, hE, hU, hel3, hrn3, hu4]
              exact ⟨i + 1, by omega, by omega, by omega, by simp -implicitDefEqProofs (disch := omega) only [go_sem, seval, h0], by simp -implicitDefEqProofs (disch := omega) only [go_sem, seval, h6], by simp -implicitDefEqProofs (disch := omega) only [go_sem, seval, go_sem], by simp -implicitDefEqProofs (disch := omega) only [go_sem, seval, h5], _, ch2, k3, _, _, 3264, by simp, hfit, hu3, by simp -implicitDefEqProofs (disch := omega) only [go_sem, seval, go_sem]; rfl, _, rfl, .inr (.inl ⟨_, k4, (by first | (simp -implicitDefEqProofs (disch := omega) only [go_sem, seval, dkv]; done) | (simp -implicitDefEqProofs (disch := omega) only [go_sem, seval, dkv]; rfl)), (by first | (simp -implicitDefEqProofs (disch := omega) only [go_sem, seval, go_sem]; done) | (simp -implicitDefEqProofs (disch := omega) only [go_sem, seval, go_sem]; rfl)), (by first | (simp -implicitDefEqProofs (disch := omega) only [go_sem, seval, go_sem]; done) | (simp -implicitDefEqProofs (disch := omega) only [go_sem, seval, go_sem]; rfl))⟩)⟩
            · have hE := hE .nil k4
              have hU := hU .nil
              simp -implicitDefEqProofs (disch := omega) only [go_sem, seval, Pv, Pr, dkv, Act.v, rows_nil, List.length_nil] at hD hE hU
              simp -implicitDefEqProofs (disch := omega) only [go_sem, seval, dkv] at sq
              refine wp_draw_E ?_
              simp -implicitDefEqProofs (disch := omega) only [go_sem, seval, h0, h7, h5, h6, s5, sq, sq1, sq2, rr, hel, q2, hel2, hrn, ero, fro, ite_self, Act.v, hD, hE, hU, hel3, hrn3, hu4]
              exact ⟨i + 1, by omega, by omega, by omega, by simp -implicitDefEqProofs (disch := omega) only [go_sem, seval, h0], by simp -implicitDefEqProofs (disch := omega) only [go_sem, seval, h6], by simp -implicitDefEqProofs (disch := omega) only [go_sem, seval, go_sem], by simp -implicitDefEqProofs (disch := omega) only [go_sem, seval, h5], _, ch2, k3, _, _, 3264, by simp, hfit, hu3, by simp -implicitDefEqProofs (disch := omega) only [go_sem, seval, go_sem]; rfl, _, rfl, .inr (.inr ⟨k4, rfl, by simp -implicitDefEqProofs (disch := omega) only [go_sem, seval, dkv], by simp -implicitDefEqProofs (disch := omega) only [go_sem, seval, go_sem]⟩)⟩
            · have hE := hE .ro .ro
              have hU := hU .ro
              simp -implicitDefEqProofs (disch := omega) only [go_sem, seval, Pv, Pr, dkv, Act.v] at hD hE hU
              simp -implicitDefEqProofs (disch := omega) only [go_sem, seval, dkv] at sq
              refine wp_draw_E ?_
              simp -implicitDefEqProofs (disch := omega) only [go_sem, seval, h0, h7, h5, h6, s5, sq, sq1, sq2, rr, hel, q2, hel2, hrn, ero, fro, ite_self, Act.v, hD, hE, hU, hel3, hrn3, hu4]
              exact ⟨i + 1, by omega, by omega, by omega, by simp -implicitDefEqProofs (disch := omega) only [go_sem, seval, h0], by simp -implicitDefEqProofs (disch := omega) only [go_sem, seval, h6], by simp -implicitDefEqProofs (disch := omega) only [go_sem, seval, go_sem], by simp -implicitDefEqProofs (disch := omega) only [go_sem, seval, h5], _, ch2, k3, _, _, 3264, by simp, hfit, hu3, by simp -implicitDefEqProofs (disch := omega) only [go_sem, seval, go_sem]; rfl, _, rfl, .inl ⟨_, _, (by first | (simp -implicitDefEqProofs (disch := omega) only [go_sem, seval, dkv]; done) | (simp -implicitDefEqProofs (disch := omega) only [go_sem, seval, dkv]; rfl)), (by first | (simp -implicitDefEqProofs (disch := omega) only [go_sem, seval, go_sem]; done) | (simp -implicitDefEqProofs (disch := omega) only [go_sem, seval, go_sem]; rfl)), (by first | (simp -implicitDefEqProofs (disch := omega) only [go_sem, seval, go_sem]; done) | (simp -implicitDefEqProofs (disch := omega) only [go_sem, seval, go_sem]; rfl)), (by first | (simp -implicitDefEqProofs (disch := omega) only [go_sem, seval, go_sem]; done) | (simp -implicitDefEqProofs (disch := omega) only [go_sem, seval, go_sem]; rfl))⟩⟩
            · have hE := hE .ro k4
              have hU := hU .ro
              simp -implicitDefEqProofs (disch := omega) only [go_sem, seval, Pv, Pr, dkv, Act.v] at hD hE hU
              simp -implicitDefEqProofs (disch := omega) only [go_sem, seval, dkv] at sq
              refine wp_draw_E ?_
              simp -implicitDefEqProofs (disch := omega) only [go_sem, seval, h0, h7, h5, h6, s5, sq, sq1, sq2, rr, hel, q2, hel2, hrn, ero, fro, ite_self, Act.v, hD, hE, hU, hel3, hrn3, hu4]
              exact ⟨i + 1, by omega, by omega, by omega, by simp -implicitDefEqProofs (disch := omega) only [go_sem, seval, h0], by simp -implicitDefEqProofs (disch := omega) only [go_sem, seval, h6], by simp -implicitDefEqProofs (disch := omega) only [go_sem, seval, go_sem], by simp -implicitDefEqProofs (disch := omega) only [go_sem, seval, h5], _, ch2, k3, _, _, 3264, by simp, hfit, hu3, by simp -implicitDefEqProofs (disch := omega) only [go_sem, seval, go_sem]; rfl, _, rfl, .inr (.inl ⟨_, k4, (by first | (simp -implicitDefEqProofs (disch := omega) only [go_sem, seval, dkv]; done) | (simp -implicitDefEqProofs (disch := omega) only [go_sem, seval, dkv]; rfl)), (by first | (simp -implicitDefEqProofs (disch := omega) only [go_sem, seval, go_sem]; done) | (simp -implicitDefEqProofs (disch := omega) only [go_sem, seval, go_sem]; rfl)), (by first | (simp -implicitDefEqProofs (disch := omega) only [go_sem, seval, go_sem]; done) | (simp -implicitDefEqProofs (disch := omega) only [go_sem, seval, go_sem]; rfl))⟩)⟩
            · have hE := hE .nil k4
              have hU := hU .nil
              simp -implicitDefEqProofs (disch := omega) only [go_sem, seval, Pv, Pr, dkv, Act.v, rows_nil, List.length_nil] at hD hE hU
              simp -implicitDefEqProofs (disch := omega) only [go_sem, seval, dkv] at sq
              refine wp_draw_E ?_
              simp -implicitDefEqProofs (disch := omega) only [go_sem, seval, h0, h7, h5, h6, s5, sq, sq1, sq2, rr, hel, q2, hel2, hrn, ero, fro, ite_self, Act.v, hD, hE, hU, hel3, hrn3, hu4]
              exact ⟨i + 1, by omega, by omega, by omega, by simp -implicitDefEqProofs (disch := omega) only [go_sem, seval, h0], by simp -implicitDefEqProofs (disch := omega) only [go_sem, seval, h6], by simp -implicitDefEqProofs (disch := omega) only [go_sem, seval, go_sem], by simp -implicitDefEqProofs (disch := omega) only [go_sem, seval, h5], _, ch2, k3, _, _, 3264, by simp, hfit, hu3, by simp -implicitDefEqProofs (disch := omega) only [go_sem, seval, go_sem]; rfl, _, rfl, .inr (.inr ⟨k4, rfl, by simp -implicitDefEqProofs (disch := omega) only [go_sem, seval, dkv], by simp -implicitDefEqProofs (disch := omega) only [go_sem, seval, go_sem]⟩)⟩
          · obtain ⟨lv2, nv2, k3, L, ch2, hF, hf2, hu2, hD⟩ := do_ok (k2 := k2) (l := l) (.inr (.inl ⟨rfl, k, rfl⟩)) n ch i hf (by omega) (by omega) a (by omega) hoa.1 hoa.2
            have hu3 := hu2 (by omega) hu
            have hel3 := elen L
            have hrn3 := flen (nowL L)
            have hfit := hf2
            obtain ⟨p1, p2, p3, p4, p5, p6⟩ := hf2
            have hE := fun k k1 => equal_ok k k1 k3 L n ch2 p1 p2 p3 (by omega) (by omega) (by omega)
            have hU := fun k => Used_ok k L n ch2 false (by omega) (by omega)
            have hu4 : ¬ (n : Int) < (usedL L : Int) := by omega
            rcases hq with rfl | rfl <;> rcases hF with ⟨rfl, rfl⟩ | ⟨rfl, k4, rfl⟩ | ⟨rfl, rfl, k4, rfl⟩
            · have hE := hE .ro .ro
              have hU := hU .ro
              simp -implicitDefEqProofs (disch := omega) only [go_sem, seval, Pv, Pr, dkv, Act.v] at hD hE hU
              simp -implicitDefEqProofs (disch := omega) only [go_sem, seval, dkv] at sq
              refine wp_draw_E ?_
              simp -implicitDefEqProofs (disch := omega) only [go_sem, seval, h0, h7, h5, h6, s5, sq, sq1, rr, hel, q2, hel2, hrn, ero, fro, ite_self, Act.v, hD, hE, hU, hel3, hrn3, hu4]
              exact ⟨i + 1, by omega, by omega, by omega, by simp -implicitDefEqProofs (disch := omega) only [go_sem, seval, h0], by simp -implicitDefEqProofs (disch := omega) only [go_sem, seval, h6], by simp -implicitDefEqProofs (disch := omega) only [go_sem, seval, go_sem], by simp -implicitDefEqProofs (disch := omega) only [go_sem, seval, h5], _, ch2, k3, _, _, 3264, by simp, hfit, hu3, by simp -implicitDefEqProofs (disch := omega) only [go_sem, seval, go_sem]; rfl, _, rfl, .inl ⟨_, _, (by first | (simp -implicitDefEqProofs (disch := omega) only [go_sem, seval, dkv]; done) | (simp -implicitDefEqProofs (disch := omega) only [go_sem, seval, dkv]; rfl)), (by first | (simp -implicitDefEqProofs (disch := omega) only [go_sem, seval, go_sem]; done) | (simp -implicitDefEqProofs (disch := omega) only [go_sem, seval, go_sem]; rfl)), (by first | (simp -implicitDefEqProofs (disch := omega) only [go_sem, seval, go_sem]; done) | (simp -implicitDefEqProofs (disch := omega) only [go_sem, seval, go_sem]; rfl)), (by first | (simp -implicitDefEqProofs (disch := omega) only [go_sem, seval, go_sem]; done) | (simp -implicitDefEqProofs (disch := omega) only [go_sem, seval, go_sem]; rfl))⟩⟩
            · have hE := hE .ro k4
              have hU := hU .ro
              simp -implicitDefEqProofs (disch := omega) only [go_sem, seval, Pv, Pr, dkv, Act.v] at hD hE hU
              simp -implicitDefEqProofs (disch := omega) only [go_sem, seval, dkv] at sq
              refine wp_draw_E ?_
              simp -implicitDefEqProofs (disch := omega) only [go_sem, seval, h0, h7, h5, h6, s5, sq, sq1, rr, hel, q2, hel2, hrn, ero, fro, ite_self, Act.v, hD, hE, hU, hel3, hrn3, hu4]
              exact ⟨i + 1, by omega, by omega, by omega, by simp -implicitDefEqProofs (disch := omega) only [go_sem, seval, h0], by simp -implicitDefEqProofs (disch := omega) only [go_sem, seval, h6], by simp -implicitDefEqProofs (disch := omega) only [go_sem, seval, go_sem], by simp -implicitDefEqProofs (disch := omega) only [go_sem, seval, h5], _, ch2, k3, _, _, 3264, by simp, hfit, hu3, by simp -implicitDefEqProofs (disch := omega) only [go_sem, seval, go_sem]; rfl, _, rfl, .inr (.inl ⟨_, k4, (by first | (simp -implicitDefEqProofs (disch := omega) only [go_sem, seval, dkv]; done) | (simp -implicitDefEqProofs (disch := omega) only [go_sem, seval, dkv]; rfl)), (by first | (simp -implicitDefEqProofs (disch := omega) only [go_sem, seval, go_sem]; done) | (simp -implicitDefEqProofs (disch := omega) only [go_sem, seval, go_sem]; rfl)), (by first | (simp -implicitDefEqProofs (disch := omega) only [go_sem, seval, go_sem]; done) | (simp -implicitDefEqProofs (disch := omega) only [go_sem, seval, go_sem]; rfl))⟩)⟩
            · have hE := hE .nil k4
              have hU := hU .nil
              simp -implicitDefEqProofs (disch := omega) only [go_sem, seval, Pv, Pr, dkv, Act.v, rows_nil, List.length_nil] at hD hE hU
              simp -implicitDefEqProofs (disch := omega) only [go_sem, seval, dkv] at sq
              refine wp_draw_E ?_
              simp -implicitDefEqProofs (disch := omega) only [go_sem, seval, h0, h7, h5, h6, s5, sq, sq1, rr, hel, q2, hel2, hrn, ero, fro, ite_self, Act.v, hD, hE, hU, hel3, hrn3, hu4]
              exact ⟨i + 1, by omega, by omega, by omega, by simp -implicitDefEqProofs (disch := omega) only [go_sem, seval, h0], by simp -implicitDefEqProofs (disch := omega) only [go_sem, seval, h6], by simp -implicitDefEqProofs (disch := omega) only [go_sem, seval, go_sem], by simp -implicitDefEqProofs (disch := omega) only [go_sem, seval, h5], _, ch2, k3, _, _, 3264, by simp, hfit, hu3, by simp -implicitDefEqProofs (disch := omega) only [go_sem, seval, go_sem]; rfl, _, rfl, .inr (.inr ⟨k4, rfl, by simp -implicitDefEqProofs (disch := omega) only [go_sem, seval, dkv], by simp -implicitDefEqProofs (disch := omega) only [go_sem, seval, go_sem]⟩)⟩
            · have hE := hE .ro .ro
              have hU := hU .ro
              simp -implicitDefEqProofs (disch := omega) only [go_sem, seval, Pv, Pr, dkv, Act.v] at hD hE hU
              simp -implicitDefEqProofs (disch := omega) only [go_sem, seval, dkv] at sq
              refine wp_draw_E ?_
              simp -implicitDefEqProofs (disch := omega) only [go_sem, seval, h0, h7, h5, h6, s5, sq, sq1, rr, hel, q2, hel2, hrn, ero, fro, ite_self, Act.v, hD, hE, hU, hel3, hrn3, hu4]
              exact ⟨i + 1, by omega, by omega, by omega, by simp -implicitDefEqProofs (disch := omega) only [go_sem, seval, h0], by simp -implicitDefEqProofs (disch := omega) only [go_sem, seval, h6], by simp -implicitDefEqProofs (disch := omega) only [go_sem, seval, go_sem], by simp -implicitDefEqProofs (disch := omega) only [go_sem, seval, h5], _, ch2, k3, _, _, 3264, by simp, hfit, hu3, by simp -implicitDefEqProofs (disch := omega) only [go_sem, seval, go_sem]; rfl, _, rfl, .inl ⟨_, _, (by first | (simp -implicitDefEqProofs (disch := omega) only [go_sem, seval, dkv]; done) | (simp -implicitDefEqProofs (disch := omega) only [go_sem, seval, dkv]; rfl)), (by first | (simp -implicitDefEqProofs (disch := omega) only [go_sem, seval, go_sem]; done) | (simp -implicitDefEqProofs (disch := omega) only [go_sem, seval, go_sem]; rfl)), (by first | (simp -implicitDefEqProofs (disch := omega) only [go_sem, seval, go_sem]; done) | (simp -implicitDefEqProofs (disch := omega) only [go_sem, seval, go_sem]; rfl)), (by first | (simp -implicitDefEqProofs (disch := omega) only [go_sem, seval, go_sem]; done) | (simp -implicitDefEqProofs (disch := omega) only [go_sem, seval, go_sem]; rfl))⟩⟩
            · have hE := hE .ro k4
              have hU := hU .ro
              simp -implicitDefEqProofs (disch := omega) only [go_sem, seval, Pv, Pr, dkv, Act.v] at hD hE hU
              simp -implicitDefEqProofs (disch := omega) only [go_sem, seval, dkv] at sq
              refine wp_draw_E ?_
              simp -implicitDefEqProofs (disch := omega) only [go_sem, seval, h0, h7, h5, h6, s5, sq, sq1, rr, hel, q2, hel2, hrn, ero, fro, ite_self, Act.v, hD, hE, hU, hel3, hrn3, hu4]
              exact ⟨i + 1, by omega, by omega, by omega, by simp -implicitDefEqProofs (disch := omega) only [go_sem, seval, h0], by simp -implicitDefEqProofs (disch := omega) only [go_sem, seval, h6], by simp -implicitDefEqProofs (disch := omega) only [go_sem, seval, go_sem], by simp -implicitDefEqProofs (disch := omega) only [go_sem, seval, h5], _, ch2, k3, _, _, 3264, by simp, hfit, hu3, by simp -implicitDefEqProofs (disch := omega) only [go_sem, seval, go_sem]; rfl, _, rfl, .inr (.inl ⟨_, k4, (by first | (simp -implicitDefEqProofs (disch := omega) only [go_sem, seval, dkv]; done) | (simp -implicitDefEqProofs (disch := omega) only [go_sem, seval, dkv]; rfl)), (by first | (simp -implicitDefEqProofs (disch := omega) only [go_sem, seval, go_sem]; done) | (simp -implicitDefEqProofs (disch := omega) only [go_sem, seval, go_sem]; rfl)), (by first | (simp -implicitDefEqProofs (disch := omega) only [go_sem, seval, go_sem]; done) | (simp -implicitDefEqProofs (disch := omega) only [go_sem, seval, go_sem]; rfl))⟩)⟩
            · have hE := hE .nil k4
              have hU := hU .nil
              simp -implicitDefEqProofs (disch := omega) only [go_sem, seval, Pv, Pr, dkv, Act.v, rows_nil, List.length_nil] at hD hE hU
              simp -implicitDefEqProofs (disch := omega) only [go_sem, seval, dkv] at sq
              refine wp_draw_E ?_
              simp -implicitDefEqProofs (disch := omega) only [go_sem, seval, h0, h7, h5, h6, s5, sq, sq1, rr, hel, q2, hel2, hrn, ero, fro, ite_self, Act.v, hD, hE, hU, hel3, hrn3, hu4]
              exact ⟨i + 1, by omega, by omega, by omega, by simp -implicitDefEqProofs (disch := omega) only [go_sem, seval, h0], by simp -implicitDefEqProofs (disch := omega) only [go_sem, seval, h6], by simp -implicitDefEqProofs (disch := omega) only [go_sem, seval, go_sem], by simp -implicitDefEqProofs (disch := omega) only [go_sem, seval, h5], _, ch2, k3, _, _, 3264, by simp, hfit, hu3, by simp -implicitDefEqProofs (disch := omega) only [go_sem, seval, go_sem]; rfl, _, rfl, .inr (.inr ⟨k4, rfl, by simp -implicitDefEqProofs (disch := omega) only [go_sem, seval, dkv], by simp -implicitDefEqProofs (disch := omega) only [go_sem, seval, go_sem]⟩)⟩
          · obtain ⟨lv2, nv2, k3, L, ch2, hF, hf2, hu2, hD⟩ := do_ok (k2 := k2) (l := []) (.inr (.inr ⟨rfl, rfl, k, rfl⟩)) n ch i hf (by omega) (by omega) a (by omega) hoa.1 hoa.2
            have hu3 := hu2 (by omega) hu
            have hel3 := elen L
            have hrn3 := flen (nowL L)
            have hfit := hf2
            obtain ⟨p1, p2, p3, p4, p5, p6⟩ := hf2
            have hE := fun k k1 => equal_ok k k1 k3 L n ch2 p1 p2 p3 (by omega) (by omega) (by omega)
            have hU := fun k => Used_ok k L n ch2 false (by omega) (by omega)
            have hu4 : ¬ (n : Int) < (usedL L : Int) := by omega
            rcases hq with rfl | rfl <;> rcases hF with ⟨rfl, rfl⟩ | ⟨rfl, k4, rfl⟩ | ⟨rfl, rfl, k4, rfl⟩
            · have hE := hE .ro .ro
              have hU := hU .ro
              simp -implicitDefEqProofs (disch := omega) only [go_sem, seval, Pv, Pr, dkv, Act.v] at hD hE hU
              simp -implicitDefEqProofs (disch := omega) only [go_sem, seval, dkv] at sq
              refine wp_draw_E ?_
              simp -implicitDefEqProofs (disch := omega) only [go_sem, seval, h0, h7, h5, h6, s5, sq, rr, hel, q2, hel2, hrn, ero, fro, ite_self, Act.v, hD, hE, hU, hel3, hrn3, hu4]
              exact ⟨i + 1, by omega, by omega, by omega, by simp -implicitDefEqProofs (disch := omega) only [go_sem, seval, h0], by simp -implicitDefEqProofs (disch := omega) only [go_sem, seval, h6], by simp -implicitDefEqProofs (disch := omega) only [go_sem, seval, go_sem], by simp -implicitDefEqProofs (disch := omega) only [go_sem, seval, h5], _, ch2, k3, _, _, 3264, by simp, hfit, hu3, by simp -implicitDefEqProofs (disch := omega) only [go_sem, seval, go_sem]; rfl, _, rfl, .inl ⟨_, _, (by first | (simp -implicitDefEqProofs (disch := omega) only [go_sem, seval, dkv]; done) | (simp -implicitDefEqProofs (disch := omega) only [go_sem, seval, dkv]; rfl)), (by first | (simp -implicitDefEqProofs (disch := omega) only [go_sem, seval, go_sem]; done) | (simp -implicitDefEqProofs (disch := omega) only [go_sem, seval, go_sem]; rfl)), (by first | (simp -implicitDefEqProofs (disch := omega) only [go_sem, seval, go_sem]; done) | (simp -implicitDefEqProofs (disch := omega) only [go_sem, seval, go_sem]; rfl)), (by first | (simp -implicitDefEqProofs (disch := omega) only [go_sem, seval, go_sem]; done) | (simp -implicitDefEqProofs (disch := omega) only [go_sem, seval, go_sem]; rfl))⟩⟩
            · have hE := hE .ro k4
              have hU := hU .ro
              simp -implicitDefEqProofs (disch := omega) only [go_sem, seval, Pv, Pr, dkv, Act.v] at hD hE hU
              simp -implicitDefEqProofs (disch := omega) only [go_sem, seval, dkv] at sq
              refine wp_draw_E ?_
              simp -implicitDefEqProofs (disch := omega) only [go_sem, seval, h0, h7, h5, h6, s5, sq, rr, hel, q2, hel2, hrn, ero, fro, ite_self, Act.v, hD, hE, hU, hel3, hrn3, hu4]
              exact ⟨i + 1, by omega, by omega, by omega, by simp -implicitDefEqProofs (disch := omega) only [go_sem, seval, h0], by simp -implicitDefEqProofs (disch := omega) only [go_sem, seval, h6], by simp -implicitDefEqProofs (disch := omega) only [go_sem, seval, go_sem], by simp -implicitDefEqProofs (disch := omega) only [go_sem, seval, h5], _, ch2, k3, _, _, 3264, by simp, hfit, hu3, by simp -implicitDefEqProofs (disch := omega) only [go_sem, seval, go_sem]; rfl, _, rfl, .inr (.inl ⟨_, k4, (by first | (simp -implicitDefEqProofs (disch := omega) only [go_sem, seval, dkv]; done) | (simp -implicitDefEqProofs (disch := omega) only [go_sem, seval, dkv]; rfl)), (by first | (simp -implicitDefEqProofs (disch := omega) only [go_sem, seval, go_sem]; done) | (simp -implicitDefEqProofs (disch := omega) only [go_sem, seval, go_sem]; rfl)), (by first | (simp -implicitDefEqProofs (disch := omega) only [go_sem, seval, go_sem]; done) | (simp -implicitDefEqProofs (disch := omega) only [go_sem, seval, go_sem]; rfl))⟩)⟩
            · have hE := hE .nil k4
              have hU := hU .nil
              simp -implicitDefEqProofs (disch := omega) only [go_sem, seval, Pv, Pr, dkv, Act.v, rows_nil, List.length_nil] at hD hE hU
              simp -implicitDefEqProofs (disch := omega) only [go_sem, seval, dkv] at sq
              refine wp_draw_E ?_
              simp -implicitDefEqProofs (disch := omega) only [go_sem, seval, h0, h7, h5, h6, s5, sq, rr, hel, q2, hel2, hrn, ero, fro, ite_self, Act.v, hD, hE, hU, hel3, hrn3, hu4]
              exact ⟨i + 1, by omega, by omega, by omega, by simp -implicitDefEqProofs (disch := omega) only [go_sem, seval, h0], by simp -implicitDefEqProofs (disch := omega) only [go_sem, seval, h6], by simp -implicitDefEqProofs (disch := omega) only [go_sem, seval, go_sem], by simp -implicitDefEqProofs (disch := omega) only [go_sem, seval, h5], _, ch2, k3, _, _, 3264, by simp, hfit, hu3, by simp -implicitDefEqProofs (disch := omega) only [go_sem, seval, go_sem]; rfl, _, rfl, .inr (.inr ⟨k4, rfl, by simp -implicitDefEqProofs (disch := omega) only [go_sem, seval, dkv], by simp -implicitDefEqProofs (disch := omega) only [go_sem, seval, go_sem]⟩)⟩
            · have hE := hE .ro .ro
              have hU := hU .ro
              simp -implicitDefEqProofs (disch := omega) only [go_sem, seval, Pv, Pr, dkv, Act.v] at hD hE hU
              simp -implicitDefEqProofs (disch := omega) only [go_sem, seval, dkv] at sq
              refine wp_draw_E ?_
              simp -implicitDefEqProofs (disch := omega) only [go_sem, seval, h0, h7, h5, h6, s5, sq, rr, hel, q2, hel2, hrn, ero, fro, ite_self, Act.v, hD, hE, hU, hel3, hrn3, hu4]
              exact ⟨i + 1, by omega, by omega, by omega, by simp -implicitDefEqProofs (disch := omega) only [go_sem, seval, h0], by simp -implicitDefEqProofs (disch := omega) only [go_sem, seval, h6], by simp -implicitDefEqProofs (disch := omega) only [go_sem, seval, go_sem], by simp -implicitDefEqProofs (disch := omega) only [go_sem, seval, h5], _, ch2, k3, _, _, 3264, by simp, hfit, hu3, by simp -implicitDefEqProofs (disch := omega) only [go_sem, seval, go_sem]; rfl, _, rfl, .inl ⟨_, _, (by first | (simp -implicitDefEqProofs (disch := omega) only [go_sem, seval, dkv]; done) | (simp -implicitDefEqProofs (disch := omega) only [go_sem, seval, dkv]; rfl)), (by first | (simp -implicitDefEqProofs (disch := omega) only [go_sem, seval, go_sem]; done) | (simp -implicitDefEqProofs (disch := omega) only [go_sem, seval, go_sem]; rfl)), (by first | (simp -implicitDefEqProofs (disch := omega) only [go_sem, seval, go_sem]; done) | (simp -implicitDefEqProofs (disch := omega) only [go_sem, seval, go_sem]; rfl)), (by first | (simp -implicitDefEqProofs (disch := omega) only [go_sem, seval, go_sem]; done) | (simp -implicitDefEqProofs (disch := omega) only [go_sem, seval, go_sem]; rfl))⟩⟩
            · have hE := hE .ro k4
              have hU := hU .ro
              simp -implicitDefEqProofs (disch := omega) only [go_sem, seval, Pv, Pr, dkv, Act.v] at hD hE hU
              simp -implicitDefEqProofs (disch := omega) only [go_sem, seval, dkv] at sq
              refine wp_draw_E ?_
              simp -implicitDefEqProofs (disch := omega) only [go_sem, seval, h0, h7, h5, h6, s5, sq, rr, hel, q2, hel2, hrn, ero, fro, ite_self, Act.v, hD, hE, hU, hel3, hrn3, hu4]
              exact ⟨i + 1, by omega, by omega, by omega, by simp -implicitDefEqProofs (disch := omega) only [go_sem, seval, h0], by simp -implicitDefEqProofs (disch := omega) only [go_sem, seval, h6], by simp -implicitDefEqProofs (disch := omega) only [go_sem, seval, go_sem], by simp -implicitDefEqProofs (disch := omega) only [go_sem, seval, h5], _, ch2, k3, _, _, 3264, by simp, hfit, hu3, by simp -implicitDefEqProofs (disch := omega) only [go_sem, seval, go_sem]; rfl, _, rfl, .inr (.inl ⟨_, k4, (by first | (simp -implicitDefEqProofs (disch := omega) only [go_sem, seval, dkv]; done) | (simp -implicitDefEqProofs (disch := omega) only [go_sem, seval, dkv]; rfl)), (by first | (simp -implicitDefEqProofs (disch := omega) only [go_sem, seval, go_sem]; done) | (simp -implicitDefEqProofs (disch := omega) only [go_sem, seval, go_sem]; rfl)), (by first | (simp -implicitDefEqProofs (disch := omega) only [go_sem, seval, go_sem]; done) | (simp -implicitDefEqProofs (disch := omega) only [go_sem, seval, go_sem]; rfl))⟩)⟩
            · have hE := hE .nil k4
              have hU := hU .nil
              simp -implicitDefEqProofs (disch := omega) only [go_sem, seval, Pv, Pr, dkv, Act.v, rows_nil, List.length_nil] at hD hE hU
              simp -implicitDefEqProofs (disch := omega) only [go_sem, seval, dkv] at sq
              refine wp_draw_E ?_
              simp -implicitDefEqProofs (disch := omega) only [go_sem, seval, h0, h7, h5, h6, s5, sq, rr, hel, q2, hel2, hrn, ero, fro, ite_self, Act.v, hD, hE, hU, hel3, hrn3, hu4]
              exact ⟨i + 1, by omega, by omega, by omega, by simp -implicitDefEqProofs (disch := omega) only [go_sem, seval, h0], by simp -implicitDefEqProofs (disch := omega) only [go_sem, seval, h6], by simp -implicitDefEqProofs (disch := omega) only [go_sem, seval, go_sem], by simp -implicitDefEqProofs (disch := omega) only [go_sem, seval, h5], _, ch2, k3, _, _, 3264, by simp, hfit, hu3, by simp -implicitDefEqProofs (disch := omega) only [go_sem, seval, go_sem]; rfl, _, rfl, .inr (.inr ⟨k4, rfl, by simp -implicitDefEqProofs (disch := omega) only [go_sem, seval, dkv], by simp -implicitDefEqProofs (disch := omega) only [go_sem, seval, go_sem]⟩)⟩
    · simp -implicitDefEqProofs (disch := omega) only [go_sem, seval, lp4_0, h0, h7, hc, h40, aw]
  · simp -implicitDefEqProofs (disch := omega) only [go_sem, seval, lp4_0, h0, h7, hc, aw]
end Go.Vm.Ytclcadpmkkeaeaa
/- (seval) Room for all files: the law. -/
namespace Go.Vm.Ytclcadpmkkeaeaa
open Go.Proofs
theorem tAct : tysOf Try.prog 34 = some [3, 9, 9, 9, 3, 24] := by kernel_rfl
theorem tFall : tysOf Try.prog 24 = some [3, 3, 3] := by kernel_rfl
theorem uInt : Try.prog.underlying 3 = some (.int .i64) := by kernel_rfl
theorem uStr : Try.prog.underlying 9 = some .string := by kernel_rfl
theorem uActs : Try.prog.underlying 22 = some (.slice 34) := by kernel_rfl
theorem bAct : 1 ≤ Try.prog.bytesOf 34 := by decide +kernel
theorem fits_act {d : Nat} {r : List V} (h : Fits Try.prog (d + 3) 34 r) : ∃ a : Act, r = a.v ∧ okAct a := by
  have := reach_lt
  obtain ⟨a1, b1, rfl, f1, a2, b2, rfl, f2, a3, b3, rfl, f3, a4, b4, rfl, f4, a5, b5, rfl, f5, a6, b6, rfl, f6, rfl⟩ := fits_struct tAct h
  obtain ⟨x1, rfl, _⟩ := fits_int uInt f1
  obtain ⟨x2, rfl, g2⟩ := fits_str uStr f2
  obtain ⟨x3, rfl, g3⟩ := fits_str uStr f3
  obtain ⟨x4, rfl, _⟩ := fits_str uStr f4
  obtain ⟨x5, rfl, _⟩ := fits_int uInt f5
  obtain ⟨c1, d1, rfl, e1, c2, d2, rfl, e2, c3, d3, rfl, e3, rfl⟩ := fits_struct tFall f6
  obtain ⟨y1, rfl, _⟩ := fits_int uInt e1
  obtain ⟨y2, rfl, _⟩ := fits_int uInt e2
  obtain ⟨y3, rfl, _⟩ := fits_int uInt e3
  exact ⟨⟨x1, x2, x3, x4, x5, y1, y2, y3⟩, rfl, by show x2.length ≤ _; omega, by show x3.length ≤ _; omega⟩
theorem acts_len {n : Nat} (h : n * Try.prog.bytesOf 34 ≤ reachBytes) : n ≤ 140737488355328 := by
  have := reach_lt
  have h1 := Nat.mul_le_mul_left n bAct
  omega
theorem diskSpace_main (xs : List V) (h : FitsA Try.prog 8 [22, 3] xs) : fnA (tabW fns) ([22, 3].map fun _ => Mode.bor) ir4 xs (fun p => p = (.bool true, [])) := by
  obtain ⟨x, ys, rfl, h1, h⟩ := fitsA_s h
  obtain ⟨y, zs, rfl, h2, h⟩ := fitsA_s h
  obtain rfl := fitsA_0 h
  obtain ⟨k, l, rfl, _, _, hb, hp⟩ := fit_slice_rows (d := 7) Act.v okAct uActs (fun r hr => fits_act hr) h1
  obtain ⟨n, rfl, _⟩ := fit_int (d := 7) uInt h2
  exact space_ok k l n hp (acts_len hb)
end Go.Vm.Ytclcadpmkkeaeaa
