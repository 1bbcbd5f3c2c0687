/- (seval) Raft: a replica that gets whatever messages: entries are copied, where they lie. -/
import Derived.Test.YtholgdogohmdbaaWdM
set_option linter.unusedSectionVars false
set_option linter.unusedSimpArgs false
set_option linter.unusedVariables false
set_option maxHeartbeats 4000000
set_option maxRecDepth 10000
namespace Go.Vm.YtholgdogohmdbaaW
open Go.Proofs
variable {σ : Store} {g : Nat}
/-- What is copied, wherever it lies. -/
def SrcAt (σ : Store) (v : V) (l : List Ent) : Prop := (∃ k, v = .sl k l.length (rows Ent.v l)) ∨ ∃ q gq, q ∈ LOGS ∧ v = .sli q gq 0 l.length 4 ∧ σ q = ⟨gq, .rw, true, rows Ent.v l⟩
theorem LogAt.src {v : V} {l : List Ent} (h : LogAt σ v l) : SrcAt σ v l := by
  rcases h with ⟨k, _, rfl, rfl⟩ | h
  · exact .inl ⟨k, rfl⟩
  · exact .inr h
def cloR (σ0 : Store) (v : V) (l : List Ent) (i : Nat) (s : St) : Prop := i ≤ l.length ∧ s.t 6 = v ∧ s.t 7 = .int .i64 (l.length : Int) ∧ s.t 8 = .int .i64 (i : Int) ∧ ((i = 0 ∧ s.t 3 = .sl .nil 0 []) ∨ (0 < i ∧ ∃ g, s.t 3 = .sli 45089856 g 0 i 4 ∧ s.σ 45089856 = ⟨g, .rw, true, rows Ent.v (l.take i)⟩)) ∧
  ∀ j, j / 1048576 ≠ 42 + 1 → s.σ j = σ0 j
def CloQ (σ : Store) (l : List Ent) (q : V × Store) : Prop :=
  ((l = [] ∧ q.1 = .sl .nil 0 []) ∨ (l ≠ [] ∧ ∃ g, q.1 = .sli 45089856 g 0 l.length 4 ∧ q.2 45089856 = ⟨g, .rw, true, rows Ent.v l⟩)) ∧ ∀ j, j / 1048576 ≠ 42 + 1 → q.2 j = σ j
theorem Clone_r {v : V} {l : List Ent} (hs : SrcAt σ v l) (ho : ∀ e ∈ l, e.ok) (hl : l.length ≤ 1000000000000) : ∃ w σ', Hf fns 42 [v] σ = some (w, σ') ∧ CloQ σ l (w, σ') := by
  have hrl := elen l
  refine Hf_start (f := 42) rfl rfl ?_
  rcases hs with ⟨k, rfl⟩ | ⟨q, gq, hq, rfl, eq⟩
  · simp -implicitDefEqProofs (disch := omega) only [go_sem, seval, go_sem]
    refine wp_loopS (cloR σ (.sl k l.length (rows Ent.v l)) l) (fun i => l.length - i) 0 ⟨by omega, by simp -implicitDefEqProofs (disch := omega) only [go_sem, seval, go_sem], by simp -implicitDefEqProofs (disch := omega) only [go_sem, seval, go_sem], by simp -implicitDefEqProofs (disch := omega) only [go_sem, seval, go_sem], .inl ⟨rfl, by simp -implicitDefEqProofs (disch := omega) only [go_sem, seval, go_sem]⟩, fun _ _ => rfl⟩ ?_
    rintro i ⟨t, σ1⟩ ⟨hi, h6, h7, h8, h3, hfr⟩
    simp only at h6 h7 h8 h3 hfr
    simp -implicitDefEqProofs (disch := omega) only [go_sem, seval, lp42_0, h7, h8]
    refine condC_dec (fun hc => ?_) (fun hc => ?_)
    · have hm : gt l i ∈ l := by rw [gt_eq hc]; exact List.getElem_mem hc
      have c := CloneE_ok (gt l i) (ho _ hm)
      have hr := erow l i hc
      have htk := take_gt hc
      have hX : rows Ent.v (l.take (i + 1)) = rows Ent.v (l.take i) ++ (gt l i).v := by rw [htk, rows_append]; simp [rows]
      have hlt : (l.take i).length = i := by simp; omega
      have hrt := elen (l.take i)
      rw [hlt] at hrt
      obtain ⟨k1, k2, k3⟩ := ho _ hm
      generalize gt l i = e at *
      obtain ⟨term, s, conf, ke, mem⟩ := e
      simp only at k1 k2 k3
      unfold intsC at c
      rcases k1 with rfl | rfl
      · have k2 := k2 rfl
        subst k2
        simp -implicitDefEqProofs (disch := omega) only [go_sem, seval, Ent.v, List.map_nil, List.length_nil] at c hr hX
        rcases h3 with ⟨rfl, h3⟩ | ⟨h0, g, h3, hb⟩
        · simp only [List.take_zero, rows_nil, List.nil_append, Nat.zero_mul, List.drop_zero] at hX hr
          simp -implicitDefEqProofs (disch := omega) only [go_sem, seval, h3, h6, h8, hr, c]
          exact ⟨1, by omega, by omega, by simp -implicitDefEqProofs (disch := omega) only [go_sem, seval, h6], by simp -implicitDefEqProofs (disch := omega) only [go_sem, seval, h7], by simp -implicitDefEqProofs (disch := omega) only [go_sem, seval, go_sem], .inr ⟨by omega, (σ1 45089856).gen + 1, by simp -implicitDefEqProofs (disch := omega) only [go_sem, seval, go_sem], by simp -implicitDefEqProofs (disch := omega) only [go_sem, seval, hX]⟩, by intro j hj; have h := hfr j hj; simp -implicitDefEqProofs (disch := omega) only [go_sem, seval, h]⟩
        · simp -implicitDefEqProofs (disch := omega) only [go_sem, seval, h3, h6, h8, hr, c, hb]
          exact ⟨i + 1, by omega, by omega, by simp -implicitDefEqProofs (disch := omega) only [go_sem, seval, h6], by simp -implicitDefEqProofs (disch := omega) only [go_sem, seval, h7], by simp -implicitDefEqProofs (disch := omega) only [go_sem, seval, go_sem], .inr ⟨by omega, g + 1, by simp -implicitDefEqProofs (disch := omega) only [go_sem, seval, go_sem], by simp -implicitDefEqProofs (disch := omega) only [go_sem, seval, hX]⟩, by intro j hj; have h := hfr j hj; simp -implicitDefEqProofs (disch := omega) only [go_sem, seval, h]⟩
      · have e3 : ¬ SK.ro = SK.nil := by simp
        simp -implicitDefEqProofs (disch := omega) only [go_sem, seval, Ent.v, e3] at c hr hX
        have r7 := iV_ro 6 mem
        have r6 := iV_ro 5 mem
        have r5 := iV_ro 4 mem
        rcases h3 with ⟨rfl, h3⟩ | ⟨h0, g, h3, hb⟩
        · simp only [List.take_zero, rows_nil, List.nil_append, Nat.zero_mul, List.drop_zero] at hX hr
          simp -implicitDefEqProofs (disch := omega) only [go_sem, seval, h3, h6, h8, hr, c, r7, r6, r5]
          exact ⟨1, by omega, by omega, by simp -implicitDefEqProofs (disch := omega) only [go_sem, seval, h6], by simp -implicitDefEqProofs (disch := omega) only [go_sem, seval, h7], by simp -implicitDefEqProofs (disch := omega) only [go_sem, seval, go_sem], .inr ⟨by omega, (σ1 45089856).gen + 1, by simp -implicitDefEqProofs (disch := omega) only [go_sem, seval, go_sem], by simp -implicitDefEqProofs (disch := omega) only [go_sem, seval, hX]⟩, by intro j hj; have h := hfr j hj; simp -implicitDefEqProofs (disch := omega) only [go_sem, seval, h]⟩
        · simp -implicitDefEqProofs (disch := omega) only [go_sem, seval, h3, h6, h8, hr, c, hb, r7, r6, r5]
          exact ⟨i + 1, by omega, by omega, by simp -implicitDefEqProofs (disch := omega) only [go_sem, seval, h6], by simp -implicitDefEqProofs (disch := omega) only [go_sem, seval, h7], by simp -implicitDefEqProofs (disch := omega) only [go_sem, seval, go_sem], .inr ⟨by omega, g + 1, by simp -implicitDefEqProofs (disch := omega) only [go_sem, seval, go_sem], by simp -implicitDefEqProofs (disch := omega) only [go_sem, seval, hX]⟩, by intro j hj; have h := hfr j hj; simp -implicitDefEqProofs (disch := omega) only [go_sem, seval, h]⟩
    · obtain rfl : i = l.length := by omega
      rcases h3 with ⟨h0, h3⟩ | ⟨h0, g, h3, hb⟩
      · simp -implicitDefEqProofs (disch := omega) only [go_sem, seval, h3]
        exact ⟨.inl ⟨List.length_eq_zero_iff.1 h0, rfl⟩, hfr⟩
      · rw [take_all (Nat.le_refl _)] at hb
        have hne : l ≠ [] := by intro h; subst h; simp at h0
        simp -implicitDefEqProofs (disch := omega) only [go_sem, seval, h3]
        exact ⟨.inr ⟨hne, g, rfl, hb⟩, hfr⟩
  · have n5 := nlog hq (k := 45089152) (by simp [LOGS])
    have n14 := nlog hq (k := 45089728) (by simp [LOGS])
    have n15 := nlog hq (k := 45089792) (by simp [LOGS])
    have n16 := nlog hq (k := 45089856) (by simp [LOGS])
    have hq45 : q / 1048576 ≠ 42 + 1 := by
      simp only [LOGS, List.mem_cons, List.not_mem_nil, or_false] at hq
      rcases hq with rfl | rfl | rfl | rfl <;> simp
    simp -implicitDefEqProofs (disch := omega) only [go_sem, seval, go_sem]
    refine wp_loopS (cloR σ (.sli q gq 0 l.length 4) l) (fun i => l.length - i) 0 ⟨by omega, by simp -implicitDefEqProofs (disch := omega) only [go_sem, seval, go_sem], by simp -implicitDefEqProofs (disch := omega) only [go_sem, seval, go_sem], by simp -implicitDefEqProofs (disch := omega) only [go_sem, seval, go_sem], .inl ⟨rfl, by simp -implicitDefEqProofs (disch := omega) only [go_sem, seval, go_sem]⟩, fun _ _ => rfl⟩ ?_
    rintro i ⟨t, σ1⟩ ⟨hi, h6, h7, h8, h3, hfr⟩
    simp only at h6 h7 h8 h3 hfr
    have eq1 := (hfr q hq45).trans eq
    simp -implicitDefEqProofs (disch := omega) only [go_sem, seval, lp42_0, h7, h8]
    refine condC_dec (fun hc => ?_) (fun hc => ?_)
    · have hm : gt l i ∈ l := by rw [gt_eq hc]; exact List.getElem_mem hc
      have c := CloneE_ok (gt l i) (ho _ hm)
      have hr := erow l i hc
      have htk := take_gt hc
      have hX : rows Ent.v (l.take (i + 1)) = rows Ent.v (l.take i) ++ (gt l i).v := by rw [htk, rows_append]; simp [rows]
      have hlt : (l.take i).length = i := by simp; omega
      have hrt := elen (l.take i)
      rw [hlt] at hrt
      obtain ⟨k1, k2, k3⟩ := ho _ hm
      generalize gt l i = e at *
      obtain ⟨term, s, conf, ke, mem⟩ := e
      simp only at k1 k2 k3
      unfold intsC at c
      rcases k1 with rfl | rfl
      · have k2 := k2 rfl
        subst k2
        simp -implicitDefEqProofs (disch := omega) only [go_sem, seval, Ent.v, List.map_nil, List.length_nil] at c hr hX
        rcases h3 with ⟨rfl, h3⟩ | ⟨h0, g, h3, hb⟩
        · simp only [List.take_zero, rows_nil, List.nil_append, Nat.zero_mul, List.drop_zero] at hX hr
          simp -implicitDefEqProofs (disch := omega) only [go_sem, seval, h3, h6, h8, hr, c, eq1, n5, n14, n15, n16]
          exact ⟨1, by omega, by omega, by simp -implicitDefEqProofs (disch := omega) only [go_sem, seval, h6], by simp -implicitDefEqProofs (disch := omega) only [go_sem, seval, h7], by simp -implicitDefEqProofs (disch := omega) only [go_sem, seval, go_sem], .inr ⟨by omega, (σ1 45089856).gen + 1, by simp -implicitDefEqProofs (disch := omega) only [go_sem, seval, go_sem], by simp -implicitDefEqProofs (disch := omega) only [go_sem, seval, hX]⟩, by intro j hj; have h := hfr j hj; simp -implicitDefEqProofs (disch := omega) only [go_sem, seval, h]⟩
        · simp -implicitDefEqProofs (disch := omega) only [go_sem, seval, h3, h6, h8, hr, c, hb, eq1, n5, n14, n15, n16]
          exact ⟨i + 1, by omega, by omega, by simp -implicitDefEqProofs (disch := omega) only [go_sem, seval, h6], by simp -implicitDefEqProofs (disch := omega) only [go_sem, seval, h7], by simp -implicitDefEqProofs (disch := omega) only [go_sem, seval, go_sem], .inr ⟨by omega, g + 1, by simp -implicitDefEqProofs (disch := omega) only [go_sem, seval, go_sem], by simp -implicitDefEqProofs (disch := omega) only [go_sem, seval, hX]⟩, by intro j hj; have h := hfr j hj; simp -implicitDefEqProofs (disch := omega) only [go_sem, seval, h]⟩
      · have e3 : ¬ SK.ro = SK.nil := by simp
        simp -implicitDefEqProofs (disch := omega) only [go_sem, seval, Ent.v, e3] at c hr hX
        have r7 := iV_ro 6 mem
        have r6 := iV_ro 5 mem
        have r5 := iV_ro 4 mem
        rcases h3 with ⟨rfl, h3⟩ | ⟨h0, g, h3, hb⟩
        · simp only [List.take_zero, rows_nil, List.nil_append, Nat.zero_mul, List.drop_zero] at hX hr
          simp -implicitDefEqProofs (disch := omega) only [go_sem, seval, h3, h6, h8, hr, c, r7, r6, r5, eq1, n5, n14, n15, n16]
          exact ⟨1, by omega, by omega, by simp -implicitDefEqProofs (disch := omega) only [go_sem, seval, h6], by simp -implicitDefEqProofs (disch := omega) only [go_sem, seval, h7], by simp -implicitDefEqProofs (disch := omega) only [go_sem, seval, go_sem], .inr ⟨by omega, (σ1 45089856).gen + 1, by simp -implicitDefEqProofs (disch := omega) only [go_sem, seval, go_sem], by simp -implicitDefEqProofs (disch := omega) only [go_sem, seval, hX]⟩, by intro j hj; have h := hfr j hj; simp -implicitDefEqProofs (disch := omega) only [go_sem, seval, h]⟩
        · simp -implicitDefEqProofs (disch := omega) only [go_sem, seval, h3, h6, h8, hr, c, hb, r7, r6, r5, eq1, n5, n14, n15, n16]
          exact ⟨i + 1, by omega, by omega, by simp -implicitDefEqProofs (disch := omega) only [go_sem, seval, h6], by simp -implicitDefEqProofs (disch := omega) only [go_sem, seval, h7], by simp -implicitDefEqProofs (disch := omega) only [go_sem, seval, go_sem], .inr ⟨by omega, g + 1, by simp -implicitDefEqProofs (disch := omega) only [go_sem, seval, go_sem], by simp -implicitDefEqProofs (disch := omega) only [go_sem, seval, hX]⟩, by intro j hj; have h := hfr j hj; simp -implicitDefEqProofs (disch := omega) only [go_sem, seval, h]⟩
    · obtain rfl : i = l.length := by omega
      rcases h3 with ⟨h0, h3⟩ | ⟨h0, g, h3, hb⟩
      · simp -implicitDefEqProofs (disch := omega) only [go_sem, seval, h3]
        exact ⟨.inl ⟨List.length_eq_zero_iff.1 h0, rfl⟩, hfr⟩
      · rw [take_all (Nat.le_refl _)] at hb
        have hne : l ≠ [] := by intro h; subst h; simp at h0
        simp -implicitDefEqProofs (disch := omega) only [go_sem, seval, h3]
        exact ⟨.inr ⟨hne, g, rfl, hb⟩, hfr⟩
end Go.Vm.YtholgdogohmdbaaW
/- (seval) Raft: a replica that gets whatever messages: what is sure is copied. -/
namespace Go.Vm.YtholgdogohmdbaaW
open Go.Proofs
variable {σ : Store} {g : Nat}
theorem CloneZ_ok : Gf fns 21 [.sl .zero 0 []] = some (.osl 1 0 [], []) := by
  refine Gf_start rfl rfl ?_
  simp -implicitDefEqProofs (disch := omega) only [go_sem, seval, show (SK.zero == SK.nil) = false from rfl]
/-- Numbers, wherever they lie. -/
def BsrcAt (σ : Store) (v : V) (l : List Int) : Prop := (v = .sl .zero 0 [] ∧ l = []) ∨ (∃ k, (k = .nil ∨ k = .ro) ∧ (k = .nil → l = []) ∧ v = .sl k l.length (l.map iV)) ∨ ∃ q gq, q ∈ BCS ∧ v = .sli q gq 0 l.length 1 ∧ σ q = ⟨gq, .rw, true, l.map iV⟩
def Clo7Q (σ : Store) (term vote bi bt : Int) (base : List UInt8) (bl : List Int) (l : List Ent) (q : V × Store) : Prop :=
  ∃ bc' lv', q.1 = .agg [.int .i64 term, .int .i64 vote, .int .i64 bi, .int .i64 bt, .str base, bc', lv'] ∧
    ((∃ k, (k = .nil ∨ k = .zero) ∧ bc' = .sl k 0 [] ∧ bl = []) ∨ ∃ g', bc' = .sli 22020736 g' 0 bl.length 1 ∧ q.2 22020736 = ⟨g', .rw, true, bl.map iV⟩) ∧
    ((l = [] ∧ lv' = .sl .nil 0 []) ∨ (l ≠ [] ∧ ∃ g, lv' = .sli 45089856 g 0 l.length 4 ∧ q.2 45089856 = ⟨g, .rw, true, rows Ent.v l⟩)) ∧
    ∀ j, j / 1048576 ≠ 42 + 1 → j / 1048576 ≠ 20 + 1 → q.2 j = σ j
theorem Clone7_r {lv bc : V} {l : List Ent} {bl : List Int} (term vote bi bt : Int) (base : List UInt8) (hb : BsrcAt σ bc bl) (hbl : bl.length ≤ 17592186044416) (hs : SrcAt σ lv l) (ho : ∀ e ∈ l, e.ok) (hl : l.length ≤ 1000000000000) :
    ∃ w σ', Hf fns 20 [.agg [.int .i64 term, .int .i64 vote, .int .i64 bi, .int .i64 bt, .str base, bc, lv]] σ = some (w, σ') ∧ Clo7Q σ term vote bi bt base bl l (w, σ') := by
  refine Hf_start (f := 20) rfl rfl ?_
  simp -implicitDefEqProofs (disch := omega) only [go_sem, seval, go_sem]
  have key := fun σ1 h => Clone_r (σ := σ1) (v := lv) (l := l) h ho hl
  refine contC_exv (key _ ?_) ?_
  · rcases hs with h1 | ⟨q, gq, hq, e1, e2⟩
    · exact .inl h1
    · refine .inr ⟨q, gq, hq, e1, ?_⟩
      have n1 := nlog hq (k := 22020224) (by simp [LOGS])
      have n2 := nlog hq (k := 22020288) (by simp [LOGS])
      simp -implicitDefEqProofs (disch := omega) only [go_sem, seval, n1, n2, e2]
  intro v σ1 ⟨hv, hf⟩
  simp only at hv hf
  have f1 := hf 22020224 (by simp)
  have f2 := hf 22020288 (by simp)
  simp -implicitDefEqProofs (disch := omega) only [go_sem, seval, go_sem] at f1
  simp -implicitDefEqProofs (disch := omega) only [go_sem, seval, go_sem] at f2
  have hvc : v.cells = [v] := by
    rcases hv with ⟨_, rfl⟩ | ⟨_, g, rfl, _⟩ <;> rfl
  have r7 := iV_ro 6 bl
  have e3 : ¬ SK.ro = SK.nil := by simp
  have n9 : 45089856 / 1048576 = 42 + 1 := by simp
  have own : ∀ σ2 : Store, (∀ j, j / 1048576 ≠ 20 + 1 → σ2 j = σ1 j) → ((l = [] ∧ v = .sl .nil 0 []) ∨ (l ≠ [] ∧ ∃ g, v = .sli 45089856 g 0 l.length 4 ∧ σ2 45089856 = ⟨g, .rw, true, rows Ent.v l⟩)) := by
    intro σ2 h
    rcases hv with h1 | ⟨h1, g, h2, h3⟩
    · exact .inl h1
    · exact .inr ⟨h1, g, h2, (h _ (by simp)).trans h3⟩
  rcases hb with ⟨rfl, rfl⟩ | ⟨k, hk, hk0, rfl⟩ | ⟨q, gq, hq, rfl, eq⟩
  · simp -implicitDefEqProofs (disch := omega) only [go_sem, seval, hvc, f1, f2, CloneZ_ok]
    refine ⟨_, _, rfl, .inr ⟨_, rfl, ?_⟩, own _ ?_, ?_⟩
    · simp -implicitDefEqProofs (disch := omega) only [go_sem, seval, List.map_nil]
    · intro j hj
      simp -implicitDefEqProofs (disch := omega) only [go_sem, seval, go_sem]
    · intro j h1 h2
      have h := hf j h1
      simp -implicitDefEqProofs (disch := omega) only [go_sem, seval, go_sem] at h
      simp -implicitDefEqProofs (disch := omega) only [go_sem, seval, h]
  · have hcl := CloneI_ok k bl hk hk0 hbl
    rcases hk with rfl | rfl
    · obtain rfl := hk0 rfl
      simp -implicitDefEqProofs (disch := omega) only [go_sem, seval, intsC, List.length_nil, List.map_nil] at hcl
      simp -implicitDefEqProofs (disch := omega) only [go_sem, seval, hvc, f1, f2, hcl, List.length_nil, List.map_nil]
      refine ⟨_, _, rfl, .inl ⟨.nil, .inl rfl, rfl, rfl⟩, own _ ?_, ?_⟩
      · intro j hj
        simp -implicitDefEqProofs (disch := omega) only [go_sem, seval, go_sem]
      · intro j h1 h2
        have h := hf j h1
        simp -implicitDefEqProofs (disch := omega) only [go_sem, seval, go_sem] at h
        simp -implicitDefEqProofs (disch := omega) only [go_sem, seval, h]
    · simp -implicitDefEqProofs (disch := omega) only [go_sem, seval, intsC, e3] at hcl
      simp -implicitDefEqProofs (disch := omega) only [go_sem, seval, hvc, f1, f2, hcl, r7]
      refine ⟨_, _, rfl, .inr ⟨_, rfl, ?_⟩, own _ ?_, ?_⟩
      · simp -implicitDefEqProofs (disch := omega) only [go_sem, seval, go_sem]
      · intro j hj
        simp -implicitDefEqProofs (disch := omega) only [go_sem, seval, go_sem]
      · intro j h1 h2
        have h := hf j h1
        simp -implicitDefEqProofs (disch := omega) only [go_sem, seval, go_sem] at h
        simp -implicitDefEqProofs (disch := omega) only [go_sem, seval, h]
  · have hcl := CloneI_ok .ro bl (.inr rfl) (fun h => by simp at h) hbl
    have n1 := nbc hq (k := 22020224) (by simp [BCS])
    have n2 := nbc hq (k := 22020288) (by simp [BCS])
    have fq := hf q (by simp only [BCS, List.mem_cons, List.not_mem_nil, or_false] at hq; rcases hq with rfl | rfl <;> simp)
    simp -implicitDefEqProofs (disch := omega) only [go_sem, seval, n1, n2, eq] at fq
    simp -implicitDefEqProofs (disch := omega) only [go_sem, seval, intsC, e3] at hcl
    simp -implicitDefEqProofs (disch := omega) only [go_sem, seval, hvc, f1, f2, hcl, r7, fq, n1, n2, List.length_map]
    refine ⟨_, _, rfl, .inr ⟨_, rfl, ?_⟩, own _ ?_, ?_⟩
    · simp -implicitDefEqProofs (disch := omega) only [go_sem, seval, go_sem]
    · intro j hj
      simp -implicitDefEqProofs (disch := omega) only [go_sem, seval, go_sem]
    · intro j h1 h2
      have h := hf j h1
      simp -implicitDefEqProofs (disch := omega) only [go_sem, seval, go_sem] at h
      simp -implicitDefEqProofs (disch := omega) only [go_sem, seval, h]
end Go.Vm.YtholgdogohmdbaaW
/- (seval) Raft: a replica that gets whatever messages: what it tells of itself. -/
namespace Go.Vm.YtholgdogohmdbaaW
open Go.Proofs
variable {σ : Store} {g : Nat}
def HardQ (σ : Store) (g : Nat) (d : Nd) (bc lv : V) (q : V × Store) : Prop :=
  (∃ (a b c : Int) (e : List UInt8) (x y : V), q.1 = .agg [.int .i64 a, .int .i64 b, .int .i64 d.bi, .int .i64 c, .str e, x, y]) ∧ NodeW q.2 g d bc lv ∧ ∀ j, j < 1048576 → q.2 j = σ j
theorem BcAt.src {v : V} (h : BcAt σ v) : ∃ bl, BsrcAt σ v bl ∧ bl.length ≤ 17592186044416 := by
  rcases h with ⟨k, rfl | rfl, rfl⟩ | ⟨q, gq, bl, hq, e1, e2, e3⟩
  · exact ⟨[], .inr (.inl ⟨.nil, .inl rfl, fun _ => rfl, rfl⟩), by simp⟩
  · exact ⟨[], .inl ⟨rfl, rfl⟩, by simp⟩
  · exact ⟨bl, .inr (.inr ⟨q, gq, hq, e1, e2⟩), e3⟩
theorem Hard_r {d : Nd} {bc lv : V} (hN : NodeW σ g d bc lv) (hok : ∀ e ∈ d.l, e.ok) (hl : d.l.length ≤ 900000) : ∃ w σ', Hf fns 9 [.ptr 4608 g 0] σ = some (w, σ') ∧ HardQ σ g d bc lv (w, σ') := by
  have e := hN.at_
  simp -implicitDefEqProofs (disch := omega) only [go_sem, seval, nw] at e
  obtain ⟨bl, hbl, hbl2⟩ := hN.bcp.src
  refine Hf_start (f := 9) rfl rfl ?_
  simp -implicitDefEqProofs (disch := omega) only [go_sem, seval, e]
  have hN1 := NodeW.scr (k := 10485952) hN (by simp [LOGS, BCS])
  have key := fun σ1 (h : NodeW σ1 g d bc lv) hb => Clone7_r (σ := σ1) (lv := lv) (bc := bc) (l := d.l) (bl := bl) d.term d.vote d.bi d.bt d.base hb hbl2 h.logp.src hok (by omega)
  refine contC_exv (key _ (hN1 _) ?_) ?_
  · rcases hbl with h1 | h1 | ⟨q, gq, hq, e1, e2⟩
    · exact .inl h1
    · exact .inr (.inl h1)
    · refine .inr (.inr ⟨q, gq, hq, e1, ?_⟩)
      have n1 := nbc hq (k := 10485952) (by simp [BCS])
      simp -implicitDefEqProofs (disch := omega) only [go_sem, seval, n1, e2]
  rintro v σ1 ⟨bc', lv', rfl, h1, h2, hf⟩
  simp only at hf
  have f2 := hf 10485952 (by simp) (by simp)
  simp -implicitDefEqProofs (disch := omega) only [go_sem, seval, go_sem] at f2
  have hN2 : NodeW σ1 g d bc lv := (hN1 _).frame fun j hj => by
    refine hf j ?_ ?_ <;> (simp only [LOGS, BCS, List.cons_append, List.nil_append, List.mem_cons, List.not_mem_nil, or_false] at hj; rcases hj with rfl | rfl | rfl | rfl | rfl | rfl | rfl <;> simp)
  simp -implicitDefEqProofs (disch := omega) only [go_sem, seval, f2]
  refine ⟨⟨_, _, _, _, _, _, rfl⟩, NodeW.scr hN2 (by simp [LOGS, BCS]) _, ?_⟩
  intro j hj
  have h := hf j (by omega) (by omega)
  simp -implicitDefEqProofs (disch := omega) only [go_sem, seval, go_sem] at h
  simp -implicitDefEqProofs (disch := omega) only [go_sem, seval, h]
theorem entW_in {d : Nd} {i : Int} (h : d.bi < i ∧ i ≤ d.bi + d.l.length) : entW d i ∈ d.l := by
  have hk : (i - d.bi - 1).toNat < d.l.length := by omega
  unfold entW
  rw [gt_eq hk]
  exact List.getElem_mem hk
theorem Entry_w (d : Nd) (bc : V) (kl : SK) (hb : 0 ≤ d.bi ∧ d.bi ≤ 4294967296) (hl : d.l.length ≤ 1000000) (hc : d.commit ≤ d.bi + d.l.length) (hok : ∀ e ∈ d.l, e.ok) (i : Int) (hi : 0 ≤ i ∧ i ≤ 8589934592) :
    Gf fns 10 [.pt (nw d bc (.sl kl d.l.length (rows Ent.v d.l))) 0, .int .i64 i] = if d.bi < i ∧ i ≤ d.commit then some (.tup [.agg [.int .i64 (entW d i).term, .str (entW d i).s, .bool (entW d i).conf, intsC (entW d i).k (entW d i).mem], .bool true], []) else some (.tup [.agg [.int .i64 0, .str [], .bool false, .sl .nil 0 []], .bool false], []) := by
  have hn := elen d.l
  by_cases c1 : i ≤ d.bi
  · rw [if_neg (by omega)]
    refine Gf_start rfl rfl ?_
    simp -implicitDefEqProofs (disch := omega) only [go_sem, seval, nw, c1]
  · by_cases c2 : d.commit < i
    · rw [if_neg (by omega)]
      refine Gf_start rfl rfl ?_
      simp -implicitDefEqProofs (disch := omega) only [go_sem, seval, nw, c1, c2]
    · rw [if_pos (by omega)]
      have hm := entW_in (d := d) (i := i) (by omega)
      have hcl := CloneE_ok _ (hok _ hm)
      obtain ⟨K, hK⟩ : ∃ K : Nat, i - d.bi - 1 = K := ⟨(i - d.bi - 1).toNat, by omega⟩
      have he : entW d i = gt d.l K := by unfold entW; rw [hK]; rfl
      rw [he] at hcl ⊢
      have hr := erow d.l K (by omega)
      obtain ⟨k1, k2, k3⟩ := hok _ (he ▸ hm)
      generalize gt d.l K = ent at *
      obtain ⟨eterm, etxt, econf, ek, emem⟩ := ent
      simp only at k1 k2 k3
      unfold intsC at hcl ⊢
      refine Gf_start rfl rfl ?_
      simp -implicitDefEqProofs (disch := omega) only [go_sem, seval, nw, c1, c2]
      refine wp_draw_E ?_
      rcases k1 with rfl | rfl
      · obtain rfl := k2 rfl
        simp -implicitDefEqProofs (disch := omega) only [go_sem, seval, Ent.v, List.map_nil, List.length_nil] at hcl hr
        simp -implicitDefEqProofs (disch := omega) only [go_sem, seval, nw, hK, hr, hcl, List.map_nil, List.length_nil]
      · have e3 : ¬ SK.ro = SK.nil := by simp
        simp -implicitDefEqProofs (disch := omega) only [go_sem, seval, Ent.v, e3] at hcl hr
        have r7 := iV_ro 6 emem
        have r6 := iV_ro 5 emem
        have r5 := iV_ro 4 emem
        simp -implicitDefEqProofs (disch := omega) only [go_sem, seval, nw, hK, hr, hcl, r7, r6, r5]
end Go.Vm.YtholgdogohmdbaaW
