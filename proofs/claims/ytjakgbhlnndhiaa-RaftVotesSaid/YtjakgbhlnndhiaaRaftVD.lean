/- (seval) Raft: a replica that is asked for its vote: it answers, is kept and stands up. -/
import Derived.Test.YtjakgbhlnndhiaaRaftVC
set_option linter.unusedSectionVars false
set_option linter.unusedSimpArgs false
set_option linter.unusedVariables false
set_option maxHeartbeats 4000000
set_option maxRecDepth 10000
namespace Go.Vm.Ytjakgbhlnndhiaa
open Go.Proofs
def stepT (term : Int) (m : Msg) : Int := if term < m.term then m.term else term
def stepV (term vote : Int) (m : Msg) : Int := if term < m.term then -1 else vote
section
variable (term vote since tmo : Int) (nb : Nat) (cb : List V) (l : List Ent) (hl : l.length ≤ 20) (bc log : V) (hb : Own 1 nb cb bc) (hcb : cb.length = nb) (hg : Own 4 l.length (rows Ent.v l) log)
include hb hg hl hcb
theorem StepBad (m : Msg) (hm : mayM m = false) : Gf fns 18 [.opt (n2 term vote bc log since tmo), .agg m.v] = some (.sl .nil 0 [], [.opt (n2 term vote bc log since tmo)]) := by
  have c := Check_ok m
  rw [hm] at c
  have hrl := elen l
  simp -implicitDefEqProofs (disch := omega) only [go_sem, seval, Msg.v] at c
  rcases hb with ⟨kb, rfl⟩ | rfl
  all_goals rcases hg with ⟨kg, rfl⟩ | rfl
  all_goals
    refine Gf_start rfl rfl ?_
    simp -implicitDefEqProofs (disch := omega) only [go_sem, seval, n2, Msg.v]
    refine wp_draw_E ?_
    simp -implicitDefEqProofs (disch := omega) only [go_sem, seval, c, ite_self]
theorem Step2 (m : Msg) (hm : mayM m = true) (hk : m.k = 1) (ht : m.t = 2) : Gf fns 18 [.opt (n2 term vote bc log since tmo), .agg m.v] = some (.osl 13 1 (row m.f (stepT term m) (yesB (stepT term m) (stepV term vote m) l m)), [.opt (n2 (stepT term m) (if yesB (stepT term m) (stepV term vote m) l m = true then m.f else stepV term vote m) bc log (if yesB (stepT term m) (stepV term vote m) l m = true then 0 else since) tmo)]) := by
  have c := Check_ok m
  rw [hm] at c
  have hrl := elen l
  have v1 := vote2 m.term (-1) since tmo nb cb l hl bc log hb hcb hg m
  have v2 := vote2 term vote since tmo nb cb l hl bc log hb hcb hg m
  have f := followU vote since tmo nb cb l.length (rows Ent.v l) bc log hb hg hcb hrl term m.term
  obtain ⟨k, fr, to, mt, ix, lt, cm, y, ek, en, ec, off, pc, d, mk2, mn, mc⟩ := m
  simp only at hk ht
  subst hk ht
  unfold stepT stepV
  simp -implicitDefEqProofs (disch := omega) only [go_sem, seval, Msg.v] at c
  by_cases c1 : term < mt
  · have f := f c1
    simp only [c1, if_true]
    generalize yesB mt (-1) l ⟨1, fr, 2, mt, ix, lt, cm, y, ek, en, ec, off, pc, d, mk2, mn, mc⟩ = yes at *
    simp -implicitDefEqProofs (disch := omega) only [go_sem, seval, Msg.v, n2] at v1 f
    rcases hb with ⟨kb, rfl⟩ | rfl
    all_goals rcases hg with ⟨kg, rfl⟩ | rfl
    all_goals
      refine Gf_start rfl rfl ?_
      simp -implicitDefEqProofs (disch := omega) only [go_sem, seval, n2, Msg.v]
      refine wp_draw_E ?_
      simp -implicitDefEqProofs (disch := omega) only [go_sem, seval, c, ite_self]
      refine wp_draw_E ?_
      simp -implicitDefEqProofs (disch := omega) only [go_sem, seval, c1]
      simp -implicitDefEqProofs (disch := omega) only [go_sem, seval, callr46, f, ite_self]
      simp -implicitDefEqProofs (disch := omega) only [go_sem, seval, callV_T at48, v1, ite_self, row]
  · simp only [c1, if_false]
    generalize yesB term vote l ⟨1, fr, 2, mt, ix, lt, cm, y, ek, en, ec, off, pc, d, mk2, mn, mc⟩ = yes at *
    simp -implicitDefEqProofs (disch := omega) only [go_sem, seval, Msg.v, n2] at v2
    rcases hb with ⟨kb, rfl⟩ | rfl
    all_goals rcases hg with ⟨kg, rfl⟩ | rfl
    all_goals
      refine Gf_start rfl rfl ?_
      simp -implicitDefEqProofs (disch := omega) only [go_sem, seval, n2, Msg.v]
      refine wp_draw_E ?_
      simp -implicitDefEqProofs (disch := omega) only [go_sem, seval, c, ite_self]
      refine wp_draw_E ?_
      simp -implicitDefEqProofs (disch := omega) only [go_sem, seval, c1]
      simp -implicitDefEqProofs (disch := omega) only [go_sem, seval, callV_T at48, v2, ite_self, row]
end
theorem clone2 (term vote : Int) (kb : SK) (bl : List Int) (kl : SK) (l : List Ent) (hk : kb = .nil ∨ kb = .ro) (hn : kb = .nil → bl = []) (hbl : bl.length ≤ 17592186044416) (ho : ∀ e ∈ l, e.ok) (hl : l.length ≤ 20) :
    Gf fns 55 [.agg [.int .i64 term, .int .i64 vote, .int .i64 0, .int .i64 0, .str [], .sl kb bl.length (bl.map iV), .sl kl l.length (rows Ent.v l)]] = some (.agg [.int .i64 term, .int .i64 vote, .int .i64 0, .int .i64 0, .str [], intsC kb bl, ownE l], []) := by
  have a := CloneI_ok kb bl hk hn hbl
  have b := CloneEs_ok kl l ho (by omega)
  have hrl := elen l
  have r7 := iV_ro 6 bl
  have r6 := iV_ro 5 bl
  have r5 := iV_ro 4 bl
  have e3 : ¬ SK.ro = SK.nil := by simp
  unfold intsC ownE at *
  rcases hk with rfl | rfl
  · obtain rfl := hn rfl
    simp -implicitDefEqProofs (disch := omega) only [go_sem, seval, List.map_nil, List.length_nil] at a
    by_cases h0 : l = []
    · subst h0
      simp -implicitDefEqProofs (disch := omega) only [go_sem, seval, List.length_nil, rows_nil] at b
      refine Gf_start rfl rfl ?_
      simp -implicitDefEqProofs (disch := omega) only [go_sem, seval, a, b, List.map_nil, List.length_nil, rows_nil, ite_self]
    · simp -implicitDefEqProofs (disch := omega) only [go_sem, seval, h0] at b
      refine Gf_start rfl rfl ?_
      simp -implicitDefEqProofs (disch := omega) only [go_sem, seval, a, b, List.map_nil, List.length_nil, h0, ite_self]
  · simp -implicitDefEqProofs (disch := omega) only [go_sem, seval, e3] at a
    by_cases h0 : l = []
    · subst h0
      simp -implicitDefEqProofs (disch := omega) only [go_sem, seval, List.length_nil, rows_nil] at b
      refine Gf_start rfl rfl ?_
      simp -implicitDefEqProofs (disch := omega) only [go_sem, seval, a, b, List.length_nil, rows_nil, e3, ite_self, r7, r6, r5]
    · simp -implicitDefEqProofs (disch := omega) only [go_sem, seval, h0] at b
      refine Gf_start rfl rfl ?_
      simp -implicitDefEqProofs (disch := omega) only [go_sem, seval, a, b, e3, h0, ite_self, r7, r6, r5]
theorem intsC_own (k : SK) (bl : List Int) (hk : k = .nil ∨ k = .ro) (hn : k = .nil → bl = []) : Own 1 bl.length (bl.map iV) (intsC k bl) := by
  unfold intsC
  rcases hk with rfl | rfl
  · obtain rfl := hn rfl
    exact .inl ⟨.nil, rfl⟩
  · exact .inr rfl
theorem ownE_own (l : List Ent) : Own 4 l.length (rows Ent.v l) (ownE l) := by
  unfold ownE
  by_cases h0 : l = []
  · subst h0
    exact .inl ⟨.nil, rfl⟩
  · rw [if_neg h0]
    exact .inr rfl
theorem New2 (T : Nat) (hT : T ≤ 2147483647) (vote : Int) (hv : -1 ≤ vote ∧ vote < 16) (kb : SK) (bl : List Int) (kl : SK) (l : List Ent) (hk : kb = .nil ∨ kb = .ro) (hn : kb = .nil → bl = []) (hbl : bl.length ≤ 17592186044416) (ho : ∀ e ∈ l, e.ok) (hl : l.length ≤ 20) :
    Gf fns 21 [.int .i64 2, .agg [.int .i64 (T : Int), .int .i64 vote, .int .i64 0, .int .i64 0, .str [], .sl kb bl.length (bl.map iV), .sl kl l.length (rows Ent.v l)], .sl .nil 0 []] = some (.tup [.opt (n2 (T : Int) vote (intsC kb bl) (ownE l) 0 (tmoT T)), .int .i64 0], []) := by
  have a := clone2 T vote kb bl kl l hk hn hbl ho hl
  have hrl := elen l
  have r7 := iV_ro 6 bl
  have r6 := iV_ro 5 bl
  have r5 := iV_ro 4 bl
  have e3 : ¬ SK.ro = SK.nil := by simp
  have f := followN vote bl.length (bl.map iV) l.length (rows Ent.v l) (intsC kb bl) (ownE l) (intsC_own kb bl hk hn) (ownE_own l) (by rw [List.length_map]) hrl T hT
  have hT2 : ¬ 2147483647 < T := by omega
  have hv1 : ¬ vote < -1 := by omega
  have hv2 : ¬ 16 ≤ vote := by omega
  unfold intsC ownE at *
  rcases hk with rfl | rfl
  · obtain rfl := hn rfl
    by_cases h0 : l = []
    · subst h0
      simp -implicitDefEqProofs (disch := omega) only [go_sem, seval, List.map_nil, List.length_nil, rows_nil, n0, n2] at a f
      refine Gf_start rfl rfl ?_
      simp -implicitDefEqProofs (disch := omega) only [go_sem, seval, hT2, hv1, hv2]
      refine wp_draw_E ?_
      simp -implicitDefEqProofs (disch := omega) only [go_sem, seval, a, Clone_nil, List.map_nil, List.length_nil, rows_nil, ite_self]
      simp -implicitDefEqProofs (disch := omega) only [go_sem, seval, callr46, f, n2, ite_self]
    · simp -implicitDefEqProofs (disch := omega) only [go_sem, seval, List.map_nil, List.length_nil, h0, n0, n2] at a f
      refine Gf_start rfl rfl ?_
      simp -implicitDefEqProofs (disch := omega) only [go_sem, seval, hT2, hv1, hv2]
      refine wp_draw_E ?_
      simp -implicitDefEqProofs (disch := omega) only [go_sem, seval, a, Clone_nil, List.map_nil, List.length_nil, h0, ite_self]
      simp -implicitDefEqProofs (disch := omega) only [go_sem, seval, callr46, f, n2, ite_self, h0]
  · by_cases h0 : l = []
    · subst h0
      simp -implicitDefEqProofs (disch := omega) only [go_sem, seval, List.length_nil, rows_nil, e3, n0, n2] at a f
      refine Gf_start rfl rfl ?_
      simp -implicitDefEqProofs (disch := omega) only [go_sem, seval, hT2, hv1, hv2]
      refine wp_draw_E ?_
      simp -implicitDefEqProofs (disch := omega) only [go_sem, seval, a, Clone_nil, List.length_nil, rows_nil, e3, ite_self, r7, r6, r5]
      simp -implicitDefEqProofs (disch := omega) only [go_sem, seval, callr46, f, n2, ite_self, e3, r7, r6, r5]
    · simp -implicitDefEqProofs (disch := omega) only [go_sem, seval, h0, e3, n0, n2] at a f
      refine Gf_start rfl rfl ?_
      simp -implicitDefEqProofs (disch := omega) only [go_sem, seval, hT2, hv1, hv2]
      refine wp_draw_E ?_
      simp -implicitDefEqProofs (disch := omega) only [go_sem, seval, a, Clone_nil, h0, e3, ite_self, r7, r6, r5]
      simp -implicitDefEqProofs (disch := omega) only [go_sem, seval, callr46, f, n2, ite_self, h0, e3, r7, r6, r5]
end Go.Vm.Ytjakgbhlnndhiaa
