/- (seval) Raft: a replica that gets whatever messages: it begins. -/
import Derived.Test.YtholgdogohmdbaaWdS
import Derived.Test.YtholgdogohmdbaaWdE
import Derived.Test.YtholgdogohmdbaaRaftE
set_option linter.unusedSectionVars false
set_option linter.unusedSimpArgs false
set_option linter.unusedVariables false
set_option maxHeartbeats 4000000
set_option maxRecDepth 10000
namespace Go.Vm.YtholgdogohmdbaaW
open Go.Proofs
variable {σ : Store} {p g : Nat}
theorem CloneG_ok (term vote bi bt : Int) (base : List UInt8) (kb : SK) (bl : List Int) (hk : kb = .nil ∨ kb = .ro) (hk0 : kb = .nil → bl = []) (hbl : bl.length ≤ 17592186044416) (k : SK) (l : List Ent) (ho : ∀ e ∈ l, e.ok) (hl : l.length ≤ 1000000) :
    Gf fns 20 [.agg [.int .i64 term, .int .i64 vote, .int .i64 bi, .int .i64 bt, .str base, .sl kb bl.length (bl.map iV), .sl k l.length (rows Ent.v l)]] = some (.agg [.int .i64 term, .int .i64 vote, .int .i64 bi, .int .i64 bt, .str base, intsC kb bl, ownE l], []) := by
  have hcl := CloneI_ok kb bl hk hk0 hbl
  have key := fun σ1 => Clone_r (σ := σ1) (v := .sl k l.length (rows Ent.v l)) (l := l) (.inl ⟨k, rfl⟩) ho (by omega)
  have hrl := elen l
  have e3 : ¬ SK.ro = SK.nil := by simp
  have r7 := iV_ro 6 bl
  have r6 := iV_ro 5 bl
  refine GfH_start rfl rfl ?_
  simp -implicitDefEqProofs (disch := omega) only [go_sem, seval, go_sem]
  refine contC_exv (key _) ?_
  rintro v σ1 ⟨hv, hf⟩
  simp only at hv hf
  have f1 := hf 22020224 (by simp)
  have f2 := hf 22020288 (by simp)
  simp -implicitDefEqProofs (disch := omega) only [go_sem, seval, go_sem] at f1
  simp -implicitDefEqProofs (disch := omega) only [go_sem, seval, go_sem] at f2
  rcases hv with ⟨rfl, rfl⟩ | ⟨hne, g1, rfl, e1⟩
  · rcases hk with rfl | rfl
    · obtain rfl := hk0 rfl
      simp -implicitDefEqProofs (disch := omega) only [go_sem, seval, intsC, List.length_nil, List.map_nil] at hcl
      simp -implicitDefEqProofs (disch := omega) only [go_sem, seval, f1, f2, hcl, List.length_nil, List.map_nil, intsC, ownE]
    · simp -implicitDefEqProofs (disch := omega) only [go_sem, seval, intsC, e3] at hcl
      simp -implicitDefEqProofs (disch := omega) only [go_sem, seval, f1, f2, hcl, r7, r6, intsC, ownE, e3]
  · rcases hk with rfl | rfl
    · obtain rfl := hk0 rfl
      simp -implicitDefEqProofs (disch := omega) only [go_sem, seval, intsC, List.length_nil, List.map_nil] at hcl
      simp -implicitDefEqProofs (disch := omega) only [go_sem, seval, f1, f2, e1, hcl, List.length_nil, List.map_nil, intsC, ownE, hne]
    · simp -implicitDefEqProofs (disch := omega) only [go_sem, seval, intsC, e3] at hcl
      simp -implicitDefEqProofs (disch := omega) only [go_sem, seval, f1, f2, e1, hcl, r7, r6, intsC, ownE, e3, hne]
theorem follow0_r (d : Nd) (bc lv : V) (ht : 0 ≤ d.term ∧ d.term ≤ 2147483647) (e : σ p = ⟨g, .rw, false, (nw d bc lv).set 8 (.int .i64 0)⟩) :
    Hf fns 22 [.ptr p g 0, .int .i64 d.term, .int .i64 (-1)] σ = some (.tup [], upd σ p ⟨g, .rw, false, nw { d with since := 0, tmo := tmoW d.term, leader := -1 } bc lv⟩) := by
  simp -implicitDefEqProofs (disch := omega) only [go_sem, seval, nw] at e
  refine Hf_is (f := 22) rfl rfl ?_
  simp -implicitDefEqProofs (disch := omega) only [go_sem, seval, e]
  refine contC_of (rest_r { d with leader := -1 } bc lv ht ?_) ?_
  · simp -implicitDefEqProofs (disch := omega) only [go_sem, seval, nw]
  simp -implicitDefEqProofs (disch := omega) only [go_sem, seval, nw]
end Go.Vm.YtholgdogohmdbaaW
/- (seval) Raft: a replica that gets whatever messages: it begins. -/
namespace Go.Vm.YtholgdogohmdbaaW
open Go.Proofs
variable {σ : Store} {p g : Nat}
/-- What is begun with. -/
structure HW where
  term : Int
  vote : Int
  bi : Int
  bt : Int
  base : List UInt8
  kb : SK
  bl : List Int
  k : SK
  l : List Ent
def HW.v (h : HW) : List V := [.int .i64 h.term, .int .i64 h.vote, .int .i64 h.bi, .int .i64 h.bt, .str h.base, .sl h.kb h.bl.length (h.bl.map iV), .sl h.k h.l.length (rows Ent.v h.l)]
def HW.may (h : HW) : Prop := 0 ≤ h.term ∧ h.term ≤ 2147483647 ∧ 0 ≤ h.bi ∧ h.bi ≤ 2147483647 ∧ -1 ≤ h.vote ∧ h.vote < 16
def HW.d (h : HW) : Nd := ⟨h.term, h.vote, h.bi, h.bt, h.base, h.l, -1, h.bi, 0, 0, tmoW h.term, 0, 0, []⟩
structure HW.ok (h : HW) : Prop where
  kb : h.kb = .nil ∨ h.kb = .ro
  b0 : h.kb = .nil → h.bl = []
  bl : h.bl.length ≤ 17592186044416
  ol : ∀ e ∈ h.l, e.ok
  ll : h.l.length ≤ 1000000
instance (h : HW) : Decidable h.may := by unfold HW.may; infer_instance
theorem New_no (h : HW) (hm : ¬ h.may) : Gf fns 7 [.int .i64 1, .agg h.v, .sl .nil 0 []] = some (.tup [.nilp, .int .i64 1], []) := by
  obtain ⟨term, vote, bi, bt, base, kb, bl, k, l⟩ := h
  unfold HW.may at hm
  simp only at hm
  refine Gf_start rfl rfl ?_
  simp -implicitDefEqProofs (disch := omega) only [go_sem, seval, HW.v]
  by_cases a1 : term < 0
  · simp -implicitDefEqProofs (disch := omega) only [go_sem, seval, a1]
  by_cases a2 : 2147483647 < term
  · simp -implicitDefEqProofs (disch := omega) only [go_sem, seval, a1, a2]
  by_cases a3 : bi < 0
  · simp -implicitDefEqProofs (disch := omega) only [go_sem, seval, a1, a2, a3]
  by_cases a4 : 2147483647 < bi
  · simp -implicitDefEqProofs (disch := omega) only [go_sem, seval, a1, a2, a3, a4]
  by_cases a5 : vote < -1
  · simp -implicitDefEqProofs (disch := omega) only [go_sem, seval, a1, a2, a3, a4, a5]
  by_cases a6 : 16 ≤ vote
  · simp -implicitDefEqProofs (disch := omega) only [go_sem, seval, a1, a2, a3, a4, a5, a6]
  exfalso; omega
theorem New_ok (h : HW) (hm : h.may) (ho : h.ok) : Gf fns 7 [.int .i64 1, .agg h.v, .sl .nil 0 []] = some (.tup [.opt (nw h.d (intsC h.kb h.bl) (ownE h.l)), .int .i64 0], []) := by
  obtain ⟨term, vote, bi, bt, base, kb, bl, k, l⟩ := h
  obtain ⟨b1, b2, b3, b4, b5⟩ := ho
  unfold HW.may at hm
  simp only at hm b1 b2 b3 b4 b5
  have cl := CloneG_ok term vote bi bt base kb bl b1 b2 b3 k l b4 b5
  have cn := CloneI_ok .nil [] (.inl rfl) (fun _ => rfl) (by simp)
  simp -implicitDefEqProofs (disch := omega) only [go_sem, seval, intsC, List.length_nil, List.map_nil] at cn
  have hrl := elen l
  have a1 : ¬ term < 0 := by omega
  have a2 : ¬ 2147483647 < term := by omega
  have a3 : ¬ bi < 0 := by omega
  have a4 : ¬ 2147483647 < bi := by omega
  have a5 : ¬ vote < -1 := by omega
  have a6 : ¬ 16 ≤ vote := by omega
  have e3 : ¬ SK.ro = SK.nil := by simp
  have r7 := iV_ro 6 bl
  have r6 := iV_ro 5 bl
  have r5 := iV_ro 4 bl
  refine Gf_start rfl rfl ?_
  simp -implicitDefEqProofs (disch := omega) only [go_sem, seval, HW.v, a1, a2, a3, a4, a5, a6]
  refine wp_draw_E ?_
  have hterm : 0 ≤ term ∧ term ≤ 2147483647 := ⟨hm.1, hm.2.1⟩
  by_cases hl0 : l = []
  · rcases b1 with rfl | rfl
    · obtain rfl := b2 rfl
      simp -implicitDefEqProofs (disch := omega) only [go_sem, seval, intsC, ownE, hl0, List.length_nil, List.map_nil, rows_nil] at cl
      simp -implicitDefEqProofs (disch := omega) only [go_sem, seval, cl, cn, hl0, List.length_nil, List.map_nil, rows_nil]
      refine contC_of (follow0_r ⟨term, vote, bi, bt, base, l, -1, bi, 0, 0, 0, 0, 0, []⟩ (.sl .nil 0 []) (.sl .nil 0 []) hterm ?_) ?_
      · simp -implicitDefEqProofs (disch := omega) only [go_sem, seval, go_sem]
        rfl
      simp -implicitDefEqProofs (disch := omega) only [go_sem, seval, nw, HW.d, intsC, ownE]
    · simp -implicitDefEqProofs (disch := omega) only [go_sem, seval, intsC, ownE, hl0, e3, List.length_nil, rows_nil] at cl
      simp -implicitDefEqProofs (disch := omega) only [go_sem, seval, cl, cn, hl0, List.length_nil, List.map_nil, rows_nil, r7, r6, r5]
      refine contC_of (follow0_r ⟨term, vote, bi, bt, base, l, -1, bi, 0, 0, 0, 0, 0, []⟩ (.sli 3072 1 0 bl.length 1) (.sl .nil 0 []) hterm ?_) ?_
      · simp -implicitDefEqProofs (disch := omega) only [go_sem, seval, go_sem]
        rfl
      simp -implicitDefEqProofs (disch := omega) only [go_sem, seval, nw, HW.d, intsC, ownE, e3, r7, r6, r5]
  · obtain ⟨b7, h7⟩ : ∃ b, (rows Ent.v l).any (hasRo 7) = b := ⟨_, rfl⟩
    obtain ⟨b6, h6⟩ : ∃ b, (rows Ent.v l).any (hasRo 6) = b := ⟨_, rfl⟩
    obtain ⟨b5, h5⟩ : ∃ b, (rows Ent.v l).any (hasRo 5) = b := ⟨_, rfl⟩
    rcases b1 with rfl | rfl
    · obtain rfl := b2 rfl
      simp -implicitDefEqProofs (disch := omega) only [go_sem, seval, intsC, ownE, hl0, List.length_nil, List.map_nil, rows_nil] at cl
      simp -implicitDefEqProofs (disch := omega) only [go_sem, seval, cl, cn, hl0, List.length_nil, List.map_nil, rows_nil, h7, h6, h5, ite_self]
      refine contC_of (follow0_r ⟨term, vote, bi, bt, base, l, -1, bi, 0, 0, 0, 0, 0, []⟩ (.sl .nil 0 []) (.sli 3072 1 0 l.length 4) hterm ?_) ?_
      · simp -implicitDefEqProofs (disch := omega) only [go_sem, seval, go_sem]
        rfl
      simp -implicitDefEqProofs (disch := omega) only [go_sem, seval, nw, HW.d, intsC, ownE, hl0, h7, h6, h5, ite_self]
    · simp -implicitDefEqProofs (disch := omega) only [go_sem, seval, intsC, ownE, hl0, e3, List.length_nil, rows_nil] at cl
      simp -implicitDefEqProofs (disch := omega) only [go_sem, seval, cl, cn, hl0, List.length_nil, List.map_nil, rows_nil, r7, r6, r5, h7, h6, h5, ite_self]
      refine contC_of (follow0_r ⟨term, vote, bi, bt, base, l, -1, bi, 0, 0, 0, 0, 0, []⟩ (.sli 3072 1 0 bl.length 1) (.sli 3073 1 0 l.length 4) hterm ?_) ?_
      · simp -implicitDefEqProofs (disch := omega) only [go_sem, seval, go_sem]
        rfl
      simp -implicitDefEqProofs (disch := omega) only [go_sem, seval, nw, HW.d, intsC, ownE, hl0, h7, h6, h5, e3, r7, r6, r5, ite_self]
end Go.Vm.YtholgdogohmdbaaW
/- (seval) Raft: a replica that gets whatever messages: what is asked of lists, and how far it has committed. -/
namespace Go.Vm.YtholgdogohmdbaaW
open Go.Proofs
variable {σ : Store} {g : Nat}
def rmembS (k : SK) (l : List Int) (i : Nat) (s : St) : Prop := i ≤ l.length ∧ s.t 0 = .sl k l.length (l.map iV) ∧ s.t 3 = .int .i64 (i : Int)
theorem Memb_ex (k : SK) (l : List Int) (hl : l.length ≤ 140737488355328) : ∃ b : Bool, Gf fns 5 [.sl k l.length (l.map iV)] = some (.bool b, []) := by
  have : ∃ r, Gf fns 5 [.sl k l.length (l.map iV)] = some r ∧ ∃ b : Bool, r = (.bool b, []) := by
    refine Gf_ex rfl (fnA_start rfl ?_)
    simp -implicitDefEqProofs (disch := omega) only [go_sem, seval, go_sem]
    refine wp_loopS (rmembS k l) (fun i => l.length - i) 0 ⟨by omega, by simp -implicitDefEqProofs (disch := omega) only [go_sem, seval, go_sem], by simp -implicitDefEqProofs (disch := omega) only [go_sem, seval, go_sem]⟩ ?_
    rintro i ⟨t, σ⟩ ⟨hi, h0, h3⟩
    simp only at h0 h3
    simp -implicitDefEqProofs (disch := omega) only [go_sem, seval, lp5_0, h0, h3]
    refine condC_dec (fun hc => ?_) (fun hc => ?_)
    · simp -implicitDefEqProofs (disch := omega) only [go_sem, seval, go_sem]
      refine wp_draw_E ?_
      by_cases h1 : gt l i < 0
      · simp -implicitDefEqProofs (disch := omega) only [go_sem, seval, h0, h3, iV, h1]
        exact ⟨_, rfl⟩
      · by_cases h2 : 15 < gt l i
        · simp -implicitDefEqProofs (disch := omega) only [go_sem, seval, h0, h3, iV, h1, h2]
          exact ⟨_, rfl⟩
        · by_cases h3' : i = 0
          · subst h3'
            simp -implicitDefEqProofs (disch := omega) only [go_sem, seval, h0, h3, iV, h1, h2]
            exact ⟨1, by omega, by omega, by simp -implicitDefEqProofs (disch := omega) only [go_sem, seval, h0, iV], by simp -implicitDefEqProofs (disch := omega) only [go_sem, seval, go_sem]⟩
          · have h30 : 0 < i := by omega
            by_cases h4 : gt l i ≤ gt l (i - 1)
            · simp -implicitDefEqProofs (disch := omega) only [go_sem, seval, h0, h3, iV, h1, h2, h30, h4]
              exact ⟨_, rfl⟩
            · simp -implicitDefEqProofs (disch := omega) only [go_sem, seval, h0, h3, iV, h1, h2, h30, h4]
              exact ⟨i + 1, by omega, by omega, by simp -implicitDefEqProofs (disch := omega) only [go_sem, seval, h0, iV], by simp -implicitDefEqProofs (disch := omega) only [go_sem, seval, go_sem]⟩
    · obtain rfl : i = l.length := by omega
      simp -implicitDefEqProofs (disch := omega) only [go_sem, seval, h0]
      exact ⟨_, rfl⟩
  obtain ⟨r, h1, b, rfl⟩ := this
  exact ⟨b, h1⟩
theorem commit_w (d : Nd) (bc lv : V) : Gf fns 8 [.pt (nw d bc lv) 0] = some (.int .i64 d.commit, []) := by
  refine Gf_start rfl rfl ?_
  simp -implicitDefEqProofs (disch := omega) only [go_sem, seval, nw]
theorem commit_call {d : Nd} {bc lv : V} (h : NodeW σ g d bc lv) (base : Nat) : callR (tabW fns) σ base 8 [.ptr 4608 g 0] = some (.int .i64 d.commit, σ) := by
  obtain ⟨kb, nb, cb, kl, ids, hro, _⟩ := node_ro h
  rw [callr8, bor1 hro (commit_w d _ _) rfl rfl]
  rfl
end Go.Vm.YtholgdogohmdbaaW
/- (seval) Raft: a replica that gets whatever messages: an entry is told. -/
namespace Go.Vm.YtholgdogohmdbaaW
open Go.Proofs
variable {σ : Store} {g : Nat}
/-- What an entry's telling brings. -/
def EntQ (σ : Store) (base : Nat) (d : Nd) (i : Int) (q : V × Store) : Prop :=
  (d.bi < i ∧ i ≤ d.commit ∧ (entW d i).k = .nil ∧ q = (.tup [.agg [.int .i64 (entW d i).term, .str (entW d i).s, .bool (entW d i).conf, .sl .nil 0 []], .bool true], σ)) ∨
  (d.bi < i ∧ i ≤ d.commit ∧ (entW d i).k = .ro ∧ q = (.tup [.agg [.int .i64 (entW d i).term, .str (entW d i).s, .bool (entW d i).conf, .sli base ((σ base).gen + 1) 0 (entW d i).mem.length 1], .bool true], upd σ base ⟨(σ base).gen + 1, .rw, true, (entW d i).mem.map iV⟩)) ∨
  (¬ (d.bi < i ∧ i ≤ d.commit) ∧ q = (.tup [.agg [.int .i64 0, .str [], .bool false, .sl .nil 0 []], .bool false], σ))
theorem entry_call {d : Nd} {bc lv : V} (h : NodeW σ g d bc lv) (hF : FitT d) (hl : d.l.length ≤ 1000000) (i : Int) (hi : 0 ≤ i ∧ i ≤ 8589934592) (base : Nat) : ∃ v σ', callR (tabW fns) σ base 10 [.ptr 4608 g 0, .int .i64 i] = some (v, σ') ∧ EntQ σ base d i (v, σ') := by
  obtain ⟨kb, nb, cb, kl, ids, hro, _⟩ := node_ro h
  have hG := Entry_w d (.sl kb nb cb) kl hF.bi hl hF.cm.2 hF.ok i hi
  have hp : passV σ [.bor, .bor] [.ptr 4608 g 0, .int .i64 i] = some ([.pt (nw d (.sl kb nb cb) (.sl kl d.l.length (rows Ent.v d.l))) 0, .int .i64 i], [], ids) := by
    simp only [passV]
    rw [show dep = 8 from rfl, hro]
    simp [roV]
  rw [callr10, hp]
  by_cases c : d.bi < i ∧ i ≤ d.commit
  · rw [if_pos c] at hG
    have hok := hF.ok _ (entW_in (d := d) (i := i) ⟨c.1, by have := hF.cm; omega⟩)
    unfold EntQ
    generalize entW d i = e at *
    obtain ⟨et, es, ec, ek, em⟩ := e
    obtain ⟨k1, k2, k3, k4⟩ := hok
    simp only at k1 k2 k3 k4 hG ⊢
    have e3 : ¬ SK.ro = SK.nil := by simp
    rcases k1 with rfl | rfl
    · obtain rfl := k2 rfl
      simp -implicitDefEqProofs (disch := omega) only [go_sem, seval, intsC, List.length_nil, List.map_nil] at hG
      refine ⟨_, _, ?_, .inl ⟨c.1, c.2, rfl, rfl⟩⟩
      simp -implicitDefEqProofs (disch := omega) only [go_sem, seval, hG]
    · simp -implicitDefEqProofs (disch := omega) only [go_sem, seval, intsC, e3] at hG
      have r7 := iV_ro 6 em
      have r6 := iV_ro 5 em
      have r5 := iV_ro 4 em
      refine ⟨_, _, ?_, .inr (.inl ⟨c.1, c.2, rfl, rfl⟩)⟩
      simp -implicitDefEqProofs (disch := omega) only [go_sem, seval, hG, r7, r6, r5]
  · rw [if_neg c] at hG
    refine ⟨_, _, ?_, .inr (.inr ⟨c, rfl⟩)⟩
    simp -implicitDefEqProofs (disch := omega) only [go_sem, seval, hG]
end Go.Vm.YtholgdogohmdbaaW
/- (seval) Raft: a replica that gets whatever messages: the law. -/
namespace Go.Vm
theorem wp_cutR {tbl : Tbl} {a b : IC} {Q : Ex → St → Prop} {s : St} (M : St → Prop) (h1 : wpA tbl a (fun e s' => match e with | .normal => M s' | e => Q e s') s) (h2 : ∀ s', M s' → wpA tbl b Q s') : wpA tbl (.seq a b) Q s := by
  refine wpA_mono (c := a) (fun e s' h => ?_) h1
  cases e with
  | normal => exact h2 s' h
  | exit i => exact h
  | ret => exact h
end Go.Vm
namespace Go.Vm.YtholgdogohmdbaaW
open Go.Proofs
variable {σ : Store} {g : Nat}
attribute [-go_sem] callr10 callr8 callr7
theorem awW : Gf fns 6 [] = some (.bool true, []) := by
  rw [hand6]
  exact Go.Vm.Ytholgdogohmdbaa.awake_ok
def NewQ (σ : Store) (h : HW) (q : V × Store) : Prop := ∃ g bc lv, q.1 = .tup [.ptr 4608 g 0, .int .i64 0] ∧ NodeW q.2 g h.d bc lv ∧ ∀ j, j < 4608 → q.2 j = σ j
theorem new_call (h : HW) (may : h.may) (ho : h.ok) : ∃ v σ', callR (tabW fns) σ 4608 7 [.int .i64 1, .agg [.int .i64 h.term, .int .i64 h.vote, .int .i64 h.bi, .int .i64 h.bt, .str h.base, .sl h.kb h.bl.length (h.bl.map iV), .sl h.k h.l.length (rows Ent.v h.l)], .sl .nil 0 []] = some (v, σ') ∧ NewQ σ h (v, σ') := by
  have nn := New_ok h may ho
  obtain ⟨term, vote, bi, bt, base, kb, bl, k, l⟩ := h
  obtain ⟨b1, b2, b3, b4, b5⟩ := ho
  simp only at b1 b2 b3 b4 b5
  have hrl := elen l
  have e3 : ¬ SK.ro = SK.nil := by simp
  have r7 := iV_ro 6 bl
  have r6 := iV_ro 5 bl
  have r5 := iV_ro 4 bl
  have hn0 : (4609 : Nat) ∈ LOGS := by simp [LOGS]
  obtain ⟨b7, h7⟩ : ∃ b, (rows Ent.v l).any (hasRo 7) = b := ⟨_, rfl⟩
  obtain ⟨b6, h6⟩ : ∃ b, (rows Ent.v l).any (hasRo 6) = b := ⟨_, rfl⟩
  obtain ⟨b5, h5⟩ : ∃ b, (rows Ent.v l).any (hasRo 5) = b := ⟨_, rfl⟩
  by_cases hl0 : l = []
  · rcases b1 with rfl | rfl
    · obtain rfl := b2 rfl
      subst hl0
      simp -implicitDefEqProofs (disch := omega) only [go_sem, seval, HW.v, HW.d, nw, intsC, ownE, List.length_nil, List.map_nil, rows_nil] at nn
      simp -implicitDefEqProofs (disch := omega) only [go_sem, seval, callr7, nn, List.length_nil, List.map_nil, rows_nil]
      refine ⟨_, _, rfl, _, .sl .nil 0 [], .sl .nil 0 [], rfl, ⟨?_, .inl ⟨_, .inl rfl, rfl⟩, .inl ⟨_, .inl rfl, rfl, rfl⟩, by simp [idsOf]⟩, ?_⟩
      · simp -implicitDefEqProofs (disch := omega) only [go_sem, seval, HW.d, nw]
      · intro j hj
        simp -implicitDefEqProofs (disch := omega) only [go_sem, seval, go_sem]
    · subst hl0
      simp -implicitDefEqProofs (disch := omega) only [go_sem, seval, HW.v, HW.d, nw, intsC, ownE, e3, List.length_nil, rows_nil] at nn
      simp -implicitDefEqProofs (disch := omega) only [go_sem, seval, callr7, nn, List.length_nil, rows_nil, r7, r6, r5]
      refine ⟨_, _, rfl, _, .sli 4609 ((σ 4609).gen + 1) 0 bl.length 1, .sl .nil 0 [], rfl, ⟨?_, .inr ⟨4609, _, bl, by simp [BCS], rfl, ?_, b3⟩, .inl ⟨_, .inl rfl, rfl, rfl⟩, by simp [idsOf]⟩, ?_⟩
      · simp -implicitDefEqProofs (disch := omega) only [go_sem, seval, HW.d, nw]
      · simp -implicitDefEqProofs (disch := omega) only [go_sem, seval, go_sem]
      · intro j hj
        simp -implicitDefEqProofs (disch := omega) only [go_sem, seval, go_sem]
  · rcases b1 with rfl | rfl
    · obtain rfl := b2 rfl
      simp -implicitDefEqProofs (disch := omega) only [go_sem, seval, HW.v, HW.d, nw, intsC, ownE, hl0, List.length_nil, List.map_nil] at nn
      simp -implicitDefEqProofs (disch := omega) only [go_sem, seval, callr7, nn, List.length_nil, List.map_nil, h7, h6, h5, ite_self]
      refine ⟨_, _, rfl, _, .sl .nil 0 [], .sli 4609 ((σ 4609).gen + 1) 0 l.length 4, rfl, ⟨?_, .inl ⟨_, .inl rfl, rfl⟩, .inr ⟨4609, _, by simp [LOGS], rfl, ?_⟩, by simp [idsOf]⟩, ?_⟩
      · simp -implicitDefEqProofs (disch := omega) only [go_sem, seval, HW.d, nw]
      · simp -implicitDefEqProofs (disch := omega) only [go_sem, seval, go_sem]
        rfl
      · intro j hj
        simp -implicitDefEqProofs (disch := omega) only [go_sem, seval, go_sem]
    · simp -implicitDefEqProofs (disch := omega) only [go_sem, seval, HW.v, HW.d, nw, intsC, ownE, hl0, e3] at nn
      simp -implicitDefEqProofs (disch := omega) only [go_sem, seval, callr7, nn, r7, r6, r5, h7, h6, h5, ite_self]
      refine ⟨_, _, rfl, _, .sli 4609 ((σ 4609).gen + 1) 0 bl.length 1, .sli 4610 ((σ 4610).gen + 1) 0 l.length 4, rfl, ⟨?_, .inr ⟨4609, _, bl, by simp [BCS], rfl, ?_, b3⟩, .inr ⟨4610, _, by simp [LOGS], rfl, ?_⟩, by simp [idsOf]⟩, ?_⟩
      · simp -implicitDefEqProofs (disch := omega) only [go_sem, seval, HW.d, nw]
      · simp -implicitDefEqProofs (disch := omega) only [go_sem, seval, go_sem]
      · simp -implicitDefEqProofs (disch := omega) only [go_sem, seval, go_sem]
        rfl
      · intro j hj
        simp -implicitDefEqProofs (disch := omega) only [go_sem, seval, go_sem]
end Go.Vm.YtholgdogohmdbaaW
