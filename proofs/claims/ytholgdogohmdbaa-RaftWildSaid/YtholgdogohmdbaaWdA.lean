/- (seval) Raft: a replica that gets whatever messages: its little functions (on its own blocks). -/
import Derived.Test.YtholgdogohmdbaaVmFit
import Derived.Test.YtholgdogohmdbaaIrW
set_option linter.unusedSectionVars false
set_option linter.unusedSimpArgs false
set_option linter.unusedVariables false
set_option maxHeartbeats 4000000
set_option maxRecDepth 10000
namespace Go.Vm.YtholgdogohmdbaaW
open Go.Proofs
def iV (x : Int) : V := .int .i64 x
structure Ent where
  term : Int
  s : List UInt8
  conf : Bool
  k : SK
  mem : List Int
  deriving Inhabited
def Ent.v (e : Ent) : List V := [.int .i64 e.term, .str e.s, .bool e.conf, .sl e.k e.mem.length (e.mem.map iV)]
theorem Ent.v_len (e : Ent) : e.v.length = 4 := rfl
def Ent.ok (e : Ent) : Prop := (e.k = .nil ∨ e.k = .ro) ∧ (e.k = .nil → e.mem = []) ∧ e.mem.length ≤ 17592186044416 ∧ e.s.length ≤ 140737488351232
theorem elen (l : List Ent) : (rows Ent.v l).length = l.length * 4 := rows_length Ent.v_len l
theorem erow (l : List Ent) (i : Nat) (h : i < l.length) : ((rows Ent.v l).drop (i * 4)).take 4 = (gt l i).v := rows_row Ent.v_len h
theorem ecell (l : List Ent) (i : Nat) (h : i < l.length) : (rows Ent.v l)[i * 4]? = some (.int .i64 (gt l i).term) := rows_at (j := 0) Ent.v_len h (by omega)
theorem eto (l : List Ent) (i : Nat) (h : i < l.length) : (rows Ent.v l).length = l.length * 4 ∧ i * 4 + 4 ≤ l.length * 4 := ⟨elen l, by omega⟩
def intsC (k : SK) (l : List Int) : V := if k = .nil then .sl .nil 0 [] else .osl 1 l.length (l.map iV)
theorem CloneI_ok (k : SK) (l : List Int) (hk : k = .nil ∨ k = .ro) (hn : k = .nil → l = []) (hl : l.length ≤ 17592186044416) : Gf fns 21 [.sl k l.length (l.map iV)] = some (intsC k l, []) := by
  rcases hk with rfl | rfl
  · obtain rfl := hn rfl
    refine Gf_start rfl rfl ?_
    simp -implicitDefEqProofs (disch := omega) only [go_sem, seval, List.map_nil, List.length_nil, intsC]
  · have e2 : (SK.ro == SK.nil) = false := rfl
    have e3 : ¬ SK.ro = SK.nil := by simp
    refine Gf_start rfl rfl ?_
    by_cases h0 : l.length = 0
    · obtain rfl : l = [] := List.length_eq_zero_iff.1 h0
      simp -implicitDefEqProofs (disch := omega) only [go_sem, seval, e2, e3, intsC, List.map_nil, List.length_nil]
    · simp -implicitDefEqProofs (disch := omega) only [go_sem, seval, e2, e3, h0, intsC]
theorem iV_ro (d : Nat) (m : List Int) : (m.map iV).any (hasRo (d + 1)) = false := by
  induction m with
  | nil => rfl
  | cons a m ih => simp [iV, hasRo]
theorem CloneE_ok (e : Ent) (h : e.ok) : Gf fns 23 [.agg e.v] = some (.agg [.int .i64 e.term, .str e.s, .bool e.conf, intsC e.k e.mem], []) := by
  obtain ⟨term, s, conf, k, mem⟩ := e
  obtain ⟨h1, h2, h3, h4⟩ := h
  simp only at h1 h2 h3
  have c := CloneI_ok k mem h1 h2 h3
  unfold intsC at c ⊢
  refine Gf_start rfl rfl ?_
  rcases h1 with rfl | rfl
  · simp -implicitDefEqProofs (disch := omega) only [go_sem, seval, go_sem] at c
    simp -implicitDefEqProofs (disch := omega) only [go_sem, seval, Ent.v, c]
  · have e3 : ¬ SK.ro = SK.nil := by simp
    simp -implicitDefEqProofs (disch := omega) only [go_sem, seval, e3] at c
    have r7 := iV_ro 6 mem
    have r6 := iV_ro 5 mem
    simp -implicitDefEqProofs (disch := omega) only [go_sem, seval, Ent.v, c, e3, r7, r6]
def ownE (l : List Ent) : V := if l = [] then .sl .nil 0 [] else .osl 4 l.length (rows Ent.v l)
def cloneS (k : SK) (l : List Ent) (i : Nat) (s : St) : Prop := i ≤ l.length ∧ s.t 6 = .sl k l.length (rows Ent.v l) ∧ s.t 7 = .int .i64 (l.length : Int) ∧ s.t 8 = .int .i64 (i : Int) ∧ ((i = 0 ∧ s.t 3 = .sl .nil 0 []) ∨ (0 < i ∧ ∃ g, s.t 3 = .sli 45089856 g 0 i 4 ∧ s.σ 45089856 = ⟨g, .rw, true, rows Ent.v (l.take i)⟩))
theorem CloneEs_ok (k : SK) (l : List Ent) (ho : ∀ e ∈ l, e.ok) (hl : l.length ≤ 1000000000000) : Gf fns 42 [.sl k l.length (rows Ent.v l)] = some (ownE l, []) := by
  have hrl := elen l
  refine GfH_start rfl rfl ?_
  simp -implicitDefEqProofs (disch := omega) only [go_sem, seval, go_sem]
  refine wp_loopS (cloneS k l) (fun i => l.length - i) 0 ⟨by omega, by simp -implicitDefEqProofs (disch := omega) only [go_sem, seval, go_sem], by simp -implicitDefEqProofs (disch := omega) only [go_sem, seval, go_sem], by simp -implicitDefEqProofs (disch := omega) only [go_sem, seval, go_sem], .inl ⟨rfl, by simp -implicitDefEqProofs (disch := omega) only [go_sem, seval, go_sem]⟩⟩ ?_
  rintro i ⟨t, σ⟩ ⟨hi, h6, h7, h8, h3⟩
  simp only at h6 h7 h8 h3
  simp -implicitDefEqProofs (disch := omega) only [go_sem, seval, lp42_0, h7, h8]
  refine condC_dec (fun hc => ?_) (fun hc => ?_)
  · have hm : gt l i ∈ l := by rw [gt_eq hc]; exact List.getElem_mem hc
    have c := CloneE_ok (gt l i) (ho _ hm)
    have hr := erow l i hc
    have htk := take_gt hc
    have hX : rows Ent.v (l.take (i + 1)) = rows Ent.v (l.take i) ++ (gt l i).v := by rw [htk, rows_append]; simp [rows]
    have hlt : (l.take i).length = i := by simp; omega
    have hrt := elen (l.take i)
    rw [hlt] at hrt
    obtain ⟨k1, k2, k3⟩ := ho _ hm
    generalize gt l i = e at *
    obtain ⟨term, s, conf, ke, mem⟩ := e
    simp only at k1 k2 k3
    unfold intsC at c
    rcases k1 with rfl | rfl
    · have k2 := k2 rfl
      subst k2
      simp -implicitDefEqProofs (disch := omega) only [go_sem, seval, Ent.v, List.map_nil, List.length_nil] at c hr hX
      rcases h3 with ⟨rfl, h3⟩ | ⟨h0, g, h3, hb⟩
      · simp only [List.take_zero, rows_nil, List.nil_append, Nat.zero_mul, List.drop_zero] at hX hr
        simp -implicitDefEqProofs (disch := omega) only [go_sem, seval, h3, h6, h8, hr, c]
        exact ⟨1, by omega, by omega, by simp -implicitDefEqProofs (disch := omega) only [go_sem, seval, h6], by simp -implicitDefEqProofs (disch := omega) only [go_sem, seval, h7], by simp -implicitDefEqProofs (disch := omega) only [go_sem, seval, go_sem], .inr ⟨by omega, (σ 45089856).gen + 1, by simp -implicitDefEqProofs (disch := omega) only [go_sem, seval, go_sem], by simp -implicitDefEqProofs (disch := omega) only [go_sem, seval, hX]⟩⟩
      · simp -implicitDefEqProofs (disch := omega) only [go_sem, seval, h3, h6, h8, hr, c, hb]
        exact ⟨i + 1, by omega, by omega, by simp -implicitDefEqProofs (disch := omega) only [go_sem, seval, h6], by simp -implicitDefEqProofs (disch := omega) only [go_sem, seval, h7], by simp -implicitDefEqProofs (disch := omega) only [go_sem, seval, go_sem], .inr ⟨by omega, g + 1, by simp -implicitDefEqProofs (disch := omega) only [go_sem, seval, go_sem], by simp -implicitDefEqProofs (disch := omega) only [go_sem, seval, hX]⟩⟩
    · have e3 : ¬ SK.ro = SK.nil := by simp
      simp -implicitDefEqProofs (disch := omega) only [go_sem, seval, Ent.v, e3] at c hr hX
      have r7 := iV_ro 6 mem
      have r6 := iV_ro 5 mem
      have r5 := iV_ro 4 mem
      rcases h3 with ⟨rfl, h3⟩ | ⟨h0, g, h3, hb⟩
      · simp only [List.take_zero, rows_nil, List.nil_append, Nat.zero_mul, List.drop_zero] at hX hr
        simp -implicitDefEqProofs (disch := omega) only [go_sem, seval, h3, h6, h8, hr, c, r7, r6, r5]
        exact ⟨1, by omega, by omega, by simp -implicitDefEqProofs (disch := omega) only [go_sem, seval, h6], by simp -implicitDefEqProofs (disch := omega) only [go_sem, seval, h7], by simp -implicitDefEqProofs (disch := omega) only [go_sem, seval, go_sem], .inr ⟨by omega, (σ 45089856).gen + 1, by simp -implicitDefEqProofs (disch := omega) only [go_sem, seval, go_sem], by simp -implicitDefEqProofs (disch := omega) only [go_sem, seval, hX]⟩⟩
      · simp -implicitDefEqProofs (disch := omega) only [go_sem, seval, h3, h6, h8, hr, c, hb, r7, r6, r5]
        exact ⟨i + 1, by omega, by omega, by simp -implicitDefEqProofs (disch := omega) only [go_sem, seval, h6], by simp -implicitDefEqProofs (disch := omega) only [go_sem, seval, h7], by simp -implicitDefEqProofs (disch := omega) only [go_sem, seval, go_sem], .inr ⟨by omega, g + 1, by simp -implicitDefEqProofs (disch := omega) only [go_sem, seval, go_sem], by simp -implicitDefEqProofs (disch := omega) only [go_sem, seval, hX]⟩⟩
  · obtain rfl : i = l.length := by omega
    unfold ownE
    rcases h3 with ⟨h0, h3⟩ | ⟨h0, g, h3, hb⟩
    · obtain rfl : l = [] := List.length_eq_zero_iff.1 h0
      simp -implicitDefEqProofs (disch := omega) only [go_sem, seval, h3]
    · rw [take_all (Nat.le_refl _)] at hb
      have hne : ¬ l = [] := by intro h; subst h; simp at h0
      simp -implicitDefEqProofs (disch := omega) only [go_sem, seval, h3, hb, hne]
end Go.Vm.YtholgdogohmdbaaW
