/- (seval) Raft: a replica that is asked for its vote: what it keeps. -/
import Derived.Test.YtjakgbhlnndhiaaRaftVE
set_option linter.unusedSectionVars false
set_option linter.unusedSimpArgs false
set_option linter.unusedVariables false
set_option maxHeartbeats 4000000
set_option maxRecDepth 10000
namespace Go.Vm.Ytjakgbhlnndhiaa
open Go.Proofs
variable (term vote since tmo : Int) (bl : List Int) (kl : SK) (l : List Ent)
theorem H_nil_val_eu : Gf fns 23 [.opt (n2 term vote (.sl .nil 0 []) (.sl kl 0 []) since tmo)] = some (.agg [.int .i64 term, .int .i64 vote, .int .i64 0, .int .i64 0, .str [], .sl .nil 0 [], .sl .nil 0 []], [.opt (n2 term vote (.sl .nil 0 []) (.sl kl 0 []) since tmo)]) := by
  have a := clone2 term vote .nil [] kl [] (.inl rfl) (fun _ => rfl) (by simp) (by simp) (by simp)
  unfold intsC ownE at a
  simp -implicitDefEqProofs (disch := omega) only [go_sem, seval, List.map_nil, List.length_nil, rows_nil] at a
  refine Gf_start rfl rfl ?_
  simp -implicitDefEqProofs (disch := omega) only [go_sem, seval, n2, List.length_map, a, ite_self]
theorem H_nil_val_f (ho : ∀ e ∈ l, e.ok) (hl : l.length ≤ 20) (h0 : ¬ l = []) : Gf fns 23 [.opt (n2 term vote (.sl .nil 0 []) (.sl kl l.length (rows Ent.v l)) since tmo)] = some (.agg [.int .i64 term, .int .i64 vote, .int .i64 0, .int .i64 0, .str [], .sl .nil 0 [], .osl 4 l.length (rows Ent.v l)], [.opt (n2 term vote (.sl .nil 0 []) (.sl kl l.length (rows Ent.v l)) since tmo)]) := by
  have a := clone2 term vote .nil [] kl l (.inl rfl) (fun _ => rfl) (by simp) ho hl
  have hrl := elen l
  unfold intsC ownE at a
  simp -implicitDefEqProofs (disch := omega) only [go_sem, seval, List.map_nil, List.length_nil, h0] at a
  refine Gf_start rfl rfl ?_
  simp -implicitDefEqProofs (disch := omega) only [go_sem, seval, n2, List.length_map, a, ite_self]
theorem H_nil_own_eu : Gf fns 23 [.opt (n2 term vote (.sl .nil 0 []) (.osl 4 0 []) since tmo)] = some (.agg [.int .i64 term, .int .i64 vote, .int .i64 0, .int .i64 0, .str [], .sl .nil 0 [], .sl .nil 0 []], [.opt (n2 term vote (.sl .nil 0 []) (.osl 4 0 []) since tmo)]) := by
  have a := clone2 term vote .nil [] .ro [] (.inl rfl) (fun _ => rfl) (by simp) (by simp) (by simp)
  unfold intsC ownE at a
  simp -implicitDefEqProofs (disch := omega) only [go_sem, seval, List.map_nil, List.length_nil, rows_nil] at a
  refine Gf_start rfl rfl ?_
  simp -implicitDefEqProofs (disch := omega) only [go_sem, seval, n2, List.length_map, a, ite_self]
theorem H_nil_own_fu (ho : ∀ e ∈ l, e.ok) (hl : l.length ≤ 20) (h0 : ¬ l = []) (hR : (rows Ent.v l).any (hasRo 6) = false) : Gf fns 23 [.opt (n2 term vote (.sl .nil 0 []) (.osl 4 l.length (rows Ent.v l)) since tmo)] = some (.agg [.int .i64 term, .int .i64 vote, .int .i64 0, .int .i64 0, .str [], .sl .nil 0 [], .osl 4 l.length (rows Ent.v l)], [.opt (n2 term vote (.sl .nil 0 []) (.osl 4 l.length (rows Ent.v l)) since tmo)]) := by
  have a := clone2 term vote .nil [] .ro l (.inl rfl) (fun _ => rfl) (by simp) ho hl
  have hrl := elen l
  unfold intsC ownE at a
  simp -implicitDefEqProofs (disch := omega) only [go_sem, seval, List.map_nil, List.length_nil, h0] at a
  refine Gf_start rfl rfl ?_
  simp -implicitDefEqProofs (disch := omega) only [go_sem, seval, n2, List.length_map, a, ite_self, hR]
theorem H_nil_own_ft (ho : ∀ e ∈ l, e.ok) (hl : l.length ≤ 20) (h0 : ¬ l = []) (hR : (rows Ent.v l).any (hasRo 6) = true) : Gf fns 23 [.opt (n2 term vote (.sl .nil 0 []) (.osl 4 l.length (rows Ent.v l)) since tmo)] = some (.agg [.int .i64 term, .int .i64 vote, .int .i64 0, .int .i64 0, .str [], .sl .nil 0 [], .osl 4 l.length (rows Ent.v l)], [.opt (n2 term vote (.sl .nil 0 []) (.sl .ro l.length (rows Ent.v l)) since tmo)]) := by
  have a := clone2 term vote .nil [] .ro l (.inl rfl) (fun _ => rfl) (by simp) ho hl
  have hrl := elen l
  unfold intsC ownE at a
  simp -implicitDefEqProofs (disch := omega) only [go_sem, seval, List.map_nil, List.length_nil, h0] at a
  refine Gf_start rfl rfl ?_
  simp -implicitDefEqProofs (disch := omega) only [go_sem, seval, n2, List.length_map, a, ite_self, hR]
theorem H_ro_val_eu (hbl : bl.length ≤ 17592186044416) : Gf fns 23 [.opt (n2 term vote (.sl .ro bl.length (bl.map iV)) (.sl kl 0 []) since tmo)] = some (.agg [.int .i64 term, .int .i64 vote, .int .i64 0, .int .i64 0, .str [], .osl 1 bl.length (bl.map iV), .sl .nil 0 []], [.opt (n2 term vote (.sl .ro bl.length (bl.map iV)) (.sl kl 0 []) since tmo)]) := by
  have a := clone2 term vote .ro bl kl [] (.inr rfl) (fun h => by cases h) hbl (by simp) (by simp)
  have e3 : ¬ SK.ro = SK.nil := by simp
  have r7 := iV_ro 6 bl
  have r6 := iV_ro 5 bl
  have r5 := iV_ro 4 bl
  unfold intsC ownE at a
  simp -implicitDefEqProofs (disch := omega) only [go_sem, seval, List.map_nil, List.length_nil, rows_nil, e3] at a
  refine Gf_start rfl rfl ?_
  simp -implicitDefEqProofs (disch := omega) only [go_sem, seval, n2, List.length_map, a, ite_self, r7, r6, r5]
theorem H_ro_val_f (ho : ∀ e ∈ l, e.ok) (hl : l.length ≤ 20) (h0 : ¬ l = []) (hbl : bl.length ≤ 17592186044416) : Gf fns 23 [.opt (n2 term vote (.sl .ro bl.length (bl.map iV)) (.sl kl l.length (rows Ent.v l)) since tmo)] = some (.agg [.int .i64 term, .int .i64 vote, .int .i64 0, .int .i64 0, .str [], .osl 1 bl.length (bl.map iV), .osl 4 l.length (rows Ent.v l)], [.opt (n2 term vote (.sl .ro bl.length (bl.map iV)) (.sl kl l.length (rows Ent.v l)) since tmo)]) := by
  have a := clone2 term vote .ro bl kl l (.inr rfl) (fun h => by cases h) hbl ho hl
  have e3 : ¬ SK.ro = SK.nil := by simp
  have r7 := iV_ro 6 bl
  have r6 := iV_ro 5 bl
  have r5 := iV_ro 4 bl
  have hrl := elen l
  unfold intsC ownE at a
  simp -implicitDefEqProofs (disch := omega) only [go_sem, seval, h0, e3] at a
  refine Gf_start rfl rfl ?_
  simp -implicitDefEqProofs (disch := omega) only [go_sem, seval, n2, List.length_map, a, ite_self, r7, r6, r5]
theorem H_ro_own_eu (hbl : bl.length ≤ 17592186044416) : Gf fns 23 [.opt (n2 term vote (.sl .ro bl.length (bl.map iV)) (.osl 4 0 []) since tmo)] = some (.agg [.int .i64 term, .int .i64 vote, .int .i64 0, .int .i64 0, .str [], .osl 1 bl.length (bl.map iV), .sl .nil 0 []], [.opt (n2 term vote (.sl .ro bl.length (bl.map iV)) (.osl 4 0 []) since tmo)]) := by
  have a := clone2 term vote .ro bl .ro [] (.inr rfl) (fun h => by cases h) hbl (by simp) (by simp)
  have e3 : ¬ SK.ro = SK.nil := by simp
  have r7 := iV_ro 6 bl
  have r6 := iV_ro 5 bl
  have r5 := iV_ro 4 bl
  unfold intsC ownE at a
  simp -implicitDefEqProofs (disch := omega) only [go_sem, seval, List.map_nil, List.length_nil, rows_nil, e3] at a
  refine Gf_start rfl rfl ?_
  simp -implicitDefEqProofs (disch := omega) only [go_sem, seval, n2, List.length_map, a, ite_self, r7, r6, r5]
theorem H_ro_own_fu (ho : ∀ e ∈ l, e.ok) (hl : l.length ≤ 20) (h0 : ¬ l = []) (hbl : bl.length ≤ 17592186044416) (hR : (rows Ent.v l).any (hasRo 6) = false) : Gf fns 23 [.opt (n2 term vote (.sl .ro bl.length (bl.map iV)) (.osl 4 l.length (rows Ent.v l)) since tmo)] = some (.agg [.int .i64 term, .int .i64 vote, .int .i64 0, .int .i64 0, .str [], .osl 1 bl.length (bl.map iV), .osl 4 l.length (rows Ent.v l)], [.opt (n2 term vote (.sl .ro bl.length (bl.map iV)) (.osl 4 l.length (rows Ent.v l)) since tmo)]) := by
  have a := clone2 term vote .ro bl .ro l (.inr rfl) (fun h => by cases h) hbl ho hl
  have e3 : ¬ SK.ro = SK.nil := by simp
  have r7 := iV_ro 6 bl
  have r6 := iV_ro 5 bl
  have r5 := iV_ro 4 bl
  have hrl := elen l
  unfold intsC ownE at a
  simp -implicitDefEqProofs (disch := omega) only [go_sem, seval, h0, e3] at a
  refine Gf_start rfl rfl ?_
  simp -implicitDefEqProofs (disch := omega) only [go_sem, seval, n2, List.length_map, a, ite_self, r7, r6, r5, hR]
theorem H_ro_own_ft (ho : ∀ e ∈ l, e.ok) (hl : l.length ≤ 20) (h0 : ¬ l = []) (hbl : bl.length ≤ 17592186044416) (hR : (rows Ent.v l).any (hasRo 6) = true) : Gf fns 23 [.opt (n2 term vote (.sl .ro bl.length (bl.map iV)) (.osl 4 l.length (rows Ent.v l)) since tmo)] = some (.agg [.int .i64 term, .int .i64 vote, .int .i64 0, .int .i64 0, .str [], .osl 1 bl.length (bl.map iV), .osl 4 l.length (rows Ent.v l)], [.opt (n2 term vote (.sl .ro bl.length (bl.map iV)) (.sl .ro l.length (rows Ent.v l)) since tmo)]) := by
  have a := clone2 term vote .ro bl .ro l (.inr rfl) (fun h => by cases h) hbl ho hl
  have e3 : ¬ SK.ro = SK.nil := by simp
  have r7 := iV_ro 6 bl
  have r6 := iV_ro 5 bl
  have r5 := iV_ro 4 bl
  have hrl := elen l
  unfold intsC ownE at a
  simp -implicitDefEqProofs (disch := omega) only [go_sem, seval, h0, e3] at a
  refine Gf_start rfl rfl ?_
  simp -implicitDefEqProofs (disch := omega) only [go_sem, seval, n2, List.length_map, a, ite_self, r7, r6, r5, hR]
theorem H_own_val_eu (hbl : bl.length ≤ 17592186044416) : Gf fns 23 [.opt (n2 term vote (.osl 1 bl.length (bl.map iV)) (.sl kl 0 []) since tmo)] = some (.agg [.int .i64 term, .int .i64 vote, .int .i64 0, .int .i64 0, .str [], .osl 1 bl.length (bl.map iV), .sl .nil 0 []], [.opt (n2 term vote (.osl 1 bl.length (bl.map iV)) (.sl kl 0 []) since tmo)]) := by
  have a := clone2 term vote .ro bl kl [] (.inr rfl) (fun h => by cases h) hbl (by simp) (by simp)
  have e3 : ¬ SK.ro = SK.nil := by simp
  have r7 := iV_ro 6 bl
  have r6 := iV_ro 5 bl
  have r5 := iV_ro 4 bl
  unfold intsC ownE at a
  simp -implicitDefEqProofs (disch := omega) only [go_sem, seval, List.map_nil, List.length_nil, rows_nil, e3] at a
  refine Gf_start rfl rfl ?_
  simp -implicitDefEqProofs (disch := omega) only [go_sem, seval, n2, List.length_map, a, ite_self, r7, r6, r5]
theorem H_own_val_fu (ho : ∀ e ∈ l, e.ok) (hl : l.length ≤ 20) (h0 : ¬ l = []) (hbl : bl.length ≤ 17592186044416) (hR : (rows Ent.v l).any (hasRo 6) = false) : Gf fns 23 [.opt (n2 term vote (.osl 1 bl.length (bl.map iV)) (.sl kl l.length (rows Ent.v l)) since tmo)] = some (.agg [.int .i64 term, .int .i64 vote, .int .i64 0, .int .i64 0, .str [], .osl 1 bl.length (bl.map iV), .osl 4 l.length (rows Ent.v l)], [.opt (n2 term vote (.osl 1 bl.length (bl.map iV)) (.sl kl l.length (rows Ent.v l)) since tmo)]) := by
  have a := clone2 term vote .ro bl kl l (.inr rfl) (fun h => by cases h) hbl ho hl
  have e3 : ¬ SK.ro = SK.nil := by simp
  have r7 := iV_ro 6 bl
  have r6 := iV_ro 5 bl
  have r5 := iV_ro 4 bl
  have hrl := elen l
  unfold intsC ownE at a
  simp -implicitDefEqProofs (disch := omega) only [go_sem, seval, h0, e3] at a
  refine Gf_start rfl rfl ?_
  simp -implicitDefEqProofs (disch := omega) only [go_sem, seval, n2, List.length_map, a, ite_self, r7, r6, r5, hR]
theorem H_own_val_ft (ho : ∀ e ∈ l, e.ok) (hl : l.length ≤ 20) (h0 : ¬ l = []) (hbl : bl.length ≤ 17592186044416) (hR : (rows Ent.v l).any (hasRo 6) = true) : Gf fns 23 [.opt (n2 term vote (.osl 1 bl.length (bl.map iV)) (.sl kl l.length (rows Ent.v l)) since tmo)] = some (.agg [.int .i64 term, .int .i64 vote, .int .i64 0, .int .i64 0, .str [], .osl 1 bl.length (bl.map iV), .osl 4 l.length (rows Ent.v l)], [.opt (n2 term vote (.sl .ro bl.length (bl.map iV)) (.sl kl l.length (rows Ent.v l)) since tmo)]) := by
  have a := clone2 term vote .ro bl kl l (.inr rfl) (fun h => by cases h) hbl ho hl
  have e3 : ¬ SK.ro = SK.nil := by simp
  have r7 := iV_ro 6 bl
  have r6 := iV_ro 5 bl
  have r5 := iV_ro 4 bl
  have hrl := elen l
  unfold intsC ownE at a
  simp -implicitDefEqProofs (disch := omega) only [go_sem, seval, h0, e3] at a
  refine Gf_start rfl rfl ?_
  simp -implicitDefEqProofs (disch := omega) only [go_sem, seval, n2, List.length_map, a, ite_self, r7, r6, r5, hR]
theorem H_own_own_eu (hbl : bl.length ≤ 17592186044416) : Gf fns 23 [.opt (n2 term vote (.osl 1 bl.length (bl.map iV)) (.osl 4 0 []) since tmo)] = some (.agg [.int .i64 term, .int .i64 vote, .int .i64 0, .int .i64 0, .str [], .osl 1 bl.length (bl.map iV), .sl .nil 0 []], [.opt (n2 term vote (.osl 1 bl.length (bl.map iV)) (.osl 4 0 []) since tmo)]) := by
  have a := clone2 term vote .ro bl .ro [] (.inr rfl) (fun h => by cases h) hbl (by simp) (by simp)
  have e3 : ¬ SK.ro = SK.nil := by simp
  have r7 := iV_ro 6 bl
  have r6 := iV_ro 5 bl
  have r5 := iV_ro 4 bl
  unfold intsC ownE at a
  simp -implicitDefEqProofs (disch := omega) only [go_sem, seval, List.map_nil, List.length_nil, rows_nil, e3] at a
  refine Gf_start rfl rfl ?_
  simp -implicitDefEqProofs (disch := omega) only [go_sem, seval, n2, List.length_map, a, ite_self, r7, r6, r5]
theorem H_own_own_fu (ho : ∀ e ∈ l, e.ok) (hl : l.length ≤ 20) (h0 : ¬ l = []) (hbl : bl.length ≤ 17592186044416) (hR : (rows Ent.v l).any (hasRo 6) = false) : Gf fns 23 [.opt (n2 term vote (.osl 1 bl.length (bl.map iV)) (.osl 4 l.length (rows Ent.v l)) since tmo)] = some (.agg [.int .i64 term, .int .i64 vote, .int .i64 0, .int .i64 0, .str [], .osl 1 bl.length (bl.map iV), .osl 4 l.length (rows Ent.v l)], [.opt (n2 term vote (.osl 1 bl.length (bl.map iV)) (.osl 4 l.length (rows Ent.v l)) since tmo)]) := by
  have a := clone2 term vote .ro bl .ro l (.inr rfl) (fun h => by cases h) hbl ho hl
  have e3 : ¬ SK.ro = SK.nil := by simp
  have r7 := iV_ro 6 bl
  have r6 := iV_ro 5 bl
  have r5 := iV_ro 4 bl
  have hrl := elen l
  unfold intsC ownE at a
  simp -implicitDefEqProofs (disch := omega) only [go_sem, seval, h0, e3] at a
  refine Gf_start rfl rfl ?_
  simp -implicitDefEqProofs (disch := omega) only [go_sem, seval, n2, List.length_map, a, ite_self, r7, r6, r5, hR]
theorem H_own_own_ft (ho : ∀ e ∈ l, e.ok) (hl : l.length ≤ 20) (h0 : ¬ l = []) (hbl : bl.length ≤ 17592186044416) (hR : (rows Ent.v l).any (hasRo 6) = true) : Gf fns 23 [.opt (n2 term vote (.osl 1 bl.length (bl.map iV)) (.osl 4 l.length (rows Ent.v l)) since tmo)] = some (.agg [.int .i64 term, .int .i64 vote, .int .i64 0, .int .i64 0, .str [], .osl 1 bl.length (bl.map iV), .osl 4 l.length (rows Ent.v l)], [.opt (n2 term vote (.sl .ro bl.length (bl.map iV)) (.sl .ro l.length (rows Ent.v l)) since tmo)]) := by
  have a := clone2 term vote .ro bl .ro l (.inr rfl) (fun h => by cases h) hbl ho hl
  have e3 : ¬ SK.ro = SK.nil := by simp
  have r7 := iV_ro 6 bl
  have r6 := iV_ro 5 bl
  have r5 := iV_ro 4 bl
  have hrl := elen l
  unfold intsC ownE at a
  simp -implicitDefEqProofs (disch := omega) only [go_sem, seval, h0, e3] at a
  refine Gf_start rfl rfl ?_
  simp -implicitDefEqProofs (disch := omega) only [go_sem, seval, n2, List.length_map, a, ite_self, r7, r6, r5, hR]
end Go.Vm.Ytjakgbhlnndhiaa
