/- (seval) Transactions, in the machine: what may be. -/
import Derived.Test.YtahbkkleholmaaaTxP
set_option linter.unusedSectionVars false
set_option linter.unusedSimpArgs false
set_option linter.unusedVariables false
set_option maxHeartbeats 1000000
set_option maxRecDepth 10000
namespace Go.Vm.Ytahbkkleholmaaa
open Go.Proofs
theorem rdrop (l : List Opn) (i : Nat) (h : i ≤ l.length) : (rows Opn.v l).drop (i * 3) = rows Opn.v (l.drop i) := rows_drop Opn.v_len l i
theorem rlen (l : List Opn) : (rows Opn.v l).length = l.length * 3 := rows_length Opn.v_len l
theorem row_at (l : List Opn) (i : Nat) (h : i < l.length) : ((rows Opn.v l).drop (i * 3)).take 3 = (gt l i).v := rows_row Opn.v_len h
theorem cell_at (l : List Opn) (i j : Nat) (h : i < l.length) (hj : j < 3) : (rows Opn.v l)[i * 3 + j]? = (gt l i).v[j]? := rows_at Opn.v_len h hj
theorem rro (d : Nat) (l : List Opn) : (rows Opn.v l).any (hasRo (d + 1)) = false := by
  induction l with
  | nil => rfl
  | cons o l ih =>
    rw [rows_cons, List.any_append, ih]
    simp [Opn.v, hasRo]
theorem may_ok (o : Opn) (h1 : o.key.length ≤ 140737488355328) (h2 : o.val.length ≤ 140737488355328) : Gf fns 33 [.agg o.v] = some (.bool (okOp o), []) := by
  obtain ⟨k, x, y⟩ := o
  simp only at h1 h2
  refine Gf_start rfl rfl ?_
  unfold okOp
  by_cases c0 : x.length = 0
  · simp -implicitDefEqProofs (disch := omega) only [go_sem, seval, Opn.v, c0]
  · by_cases c1 : x.length ≤ 32
    · by_cases c2 : y.length ≤ 64
      · by_cases k1 : k = 1
        · simp -implicitDefEqProofs (disch := omega) only [go_sem, seval, Opn.v, c0, c1, c2, k1]
        · by_cases k3 : k = 3
          · simp -implicitDefEqProofs (disch := omega) only [go_sem, seval, Opn.v, c0, c1, c2, k1, k3]
          · by_cases k2 : k = 2
            · simp -implicitDefEqProofs (disch := omega) only [go_sem, seval, Opn.v, c0, c1, c2, k1, k2, k3]
            · by_cases k4 : k = 4
              · simp -implicitDefEqProofs (disch := omega) only [go_sem, seval, Opn.v, c0, c1, c2, k1, k2, k3, k4]
              · simp -implicitDefEqProofs (disch := omega) only [go_sem, seval, Opn.v, c0, c1, c2, k1, k2, k3, k4]
      · simp -implicitDefEqProofs (disch := omega) only [go_sem, seval, Opn.v, c0, c1, c2]
    · simp -implicitDefEqProofs (disch := omega) only [go_sem, seval, Opn.v, c0, c1]
theorem mayNot_ok (o : Opn) (h1 : o.key.length ≤ 140737488355328) (h2 : o.val.length ≤ 140737488355328) : Gf fns 32 [.agg o.v] = some (.bool (!okOp o), []) := by
  have h := may_ok o h1 h2
  obtain ⟨k, x, y⟩ := o
  simp -implicitDefEqProofs (disch := omega) only [go_sem, seval, Opn.v] at h
  refine Gf_start rfl rfl ?_
  simp -implicitDefEqProofs (disch := omega) only [go_sem, seval, Opn.v, h]
def smallO (o : Opn) : Prop := o.key.length ≤ 140737488355328 ∧ o.val.length ≤ 140737488355328
def ixS (k : SK) (l : List Opn) (i : Nat) (s : St) : Prop := i ≤ l.length ∧ s.t 0 = .sl k l.length (rows Opn.v l) ∧ s.t 1 = .fn 32 [] ∧ s.t 7 = .int .i64 (l.length : Int) ∧ s.t 8 = .int .i64 (i : Int) ∧ (l.take i).all okOp = true
def badIx (l : List Opn) : Int := if l.all okOp = true then -1 else (l.findIdx (fun o => !okOp o) : Int)
theorem badIx_neg (l : List Opn) : (0 ≤ badIx l) = (l.all okOp = false) := by
  unfold badIx
  split
  · rename_i h; rw [h]; simp
  · rename_i h; simp at h ⊢; exact h
theorem badIx_at {l : List Opn} {i : Nat} (hi : i < l.length) (hb : (l.take i).all okOp = true) (h : okOp (gt l i) = false) : badIx l = (i : Int) := by
  have hn : ¬ l.all okOp = true := fun c => by
    have := List.all_eq_true.1 c (gt l i) (by rw [gt_eq hi]; exact List.getElem_mem hi)
    rw [h] at this; cases this
  unfold badIx
  rw [if_neg hn, (List.findIdx_eq hi).2 ⟨by rw [← gt_eq hi, h]; rfl, fun j hj => by
    have := List.all_eq_true.1 hb (l[j]'(by omega)) (by
      rw [List.mem_take_iff_getElem]
      exact ⟨j, by omega, rfl⟩)
    rw [this]; rfl⟩]
theorem Index_ok (k : SK) (l : List Opn) (hl : l.length ≤ 8) (ho : ∀ o ∈ l, smallO o) : Gf fns 53 [.sl k l.length (rows Opn.v l), .fn 32 []] = some (.int .i64 (badIx l), []) := by
  refine Gf_start rfl rfl ?_
  simp -implicitDefEqProofs (disch := omega) only [go_sem, seval, go_sem]
  refine wp_loopS (ixS k l) (fun i => l.length - i) 0 ⟨by omega, by simp -implicitDefEqProofs (disch := omega) only [go_sem, seval, go_sem], by simp -implicitDefEqProofs (disch := omega) only [go_sem, seval, go_sem], by simp -implicitDefEqProofs (disch := omega) only [go_sem, seval, go_sem], by simp -implicitDefEqProofs (disch := omega) only [go_sem, seval, go_sem], rfl⟩ ?_
  rintro i ⟨t, σ⟩ ⟨hi, h0, h1, h7, h8, hb⟩
  simp only at h0 h1 h7 h8
  have hr := rlen l
  simp -implicitDefEqProofs (disch := omega) only [go_sem, seval, lp53_0, h7, h8]
  refine condC_dec (fun hc => ?_) (fun hc => ?_)
  · have hm : gt l i ∈ l := by rw [gt_eq hc]; exact List.getElem_mem hc
    have hq := mayNot_ok (gt l i) (ho _ hm).1 (ho _ hm).2
    have hra := row_at l i hc
    have hbx := badIx_at hc hb
    have htk : okOp (gt l i) = true → (l.take (i + 1)).all okOp = true := fun h => by rw [take_gt hc, List.all_append, hb]; simp [h]
    generalize gt l i = o at *
    obtain ⟨kk, xx, yy⟩ := o
    cases hok : okOp ⟨kk, xx, yy⟩
    · rw [hok] at hq
      have hbx := hbx hok
      simp -implicitDefEqProofs (disch := omega) only [go_sem, seval, Opn.v] at hq hra
      simp -implicitDefEqProofs (disch := omega) only [go_sem, seval, h0, h1, h8, hra, callV_T at32, hq, hbx]
    · rw [hok] at hq
      simp -implicitDefEqProofs (disch := omega) only [go_sem, seval, Opn.v] at hq hra
      simp -implicitDefEqProofs (disch := omega) only [go_sem, seval, h0, h1, h8, hra, callV_T at32, hq]
      exact ⟨i + 1, by omega, by omega, by simp -implicitDefEqProofs (disch := omega) only [go_sem, seval, h0], by simp -implicitDefEqProofs (disch := omega) only [go_sem, seval, h1], by simp -implicitDefEqProofs (disch := omega) only [go_sem, seval, h7], by simp -implicitDefEqProofs (disch := omega) only [go_sem, seval, go_sem], htk hok⟩
  · obtain rfl : i = l.length := by omega
    rw [take_all (Nat.le_refl _)] at hb
    have hx : badIx l = -1 := by unfold badIx; rw [if_pos hb]
    simp -implicitDefEqProofs (disch := omega) only [go_sem, seval, hx]
theorem Contains_ok (k : SK) (l : List Opn) (hl : l.length ≤ 8) (ho : ∀ o ∈ l, smallO o) : Gf fns 31 [.sl k l.length (rows Opn.v l), .fn 32 []] = some (.bool (!l.all okOp), []) := by
  have h := Index_ok k l hl ho
  have e := badIx_neg l
  have hr := rlen l
  refine Gf_start rfl rfl ?_
  cases hb : l.all okOp
  · rw [hb] at e
    simp -implicitDefEqProofs (disch := omega) only [go_sem, seval, h, e]
  · rw [hb] at e
    simp -implicitDefEqProofs (disch := omega) only [go_sem, seval, h, e]
theorem Check_ok (t : Tn) (k : SK) (hk : k ≠ .zero) (hl : t.ops.length ≤ 140737488355328) (ho : ∀ o ∈ t.ops, smallO o) : Gf fns 20 [.agg (t.v (t.os k))] = some (.int .i64 (if okTx t = true then 0 else 40), []) := by
  obtain ⟨c, n, l⟩ := t
  simp only at ho hl
  have e0 : (n.toNat < 1) = (n = 0) := propext ⟨fun h => UInt64.toNat_inj.1 (by show n.toNat = 0; omega), fun h => by rw [h]; decide⟩
  have hr := rlen l
  refine Gf_start rfl rfl ?_
  unfold okTx
  by_cases c0 : n = 0
  · subst c0
    have z1 : (0 : UInt64).toNat = 0 := rfl
    simp -implicitDefEqProofs (disch := omega) only [go_sem, seval, Tn.v, Tn.os, z1]
  · by_cases c1 : 1 ≤ l.length
    · by_cases c2 : l.length ≤ 8
      · have h := Contains_ok k l c2 ho
        cases c4 : l.all okOp
        · rw [c4] at h
          simp -implicitDefEqProofs (disch := omega) only [go_sem, seval, Tn.v, Tn.os, e0, c0, c1, c2, c4, h]
        · rw [c4] at h
          simp -implicitDefEqProofs (disch := omega) only [go_sem, seval, Tn.v, Tn.os, e0, c0, c1, c2, c4, h]
      · simp -implicitDefEqProofs (disch := omega) only [go_sem, seval, Tn.v, Tn.os, e0, c0, c1, c2]
    · simp -implicitDefEqProofs (disch := omega) only [go_sem, seval, Tn.v, Tn.os, e0, c0, c1]
end Go.Vm.Ytahbkkleholmaaa
/- Transactions, in the machine: the reference's check and bytes. -/
namespace Go.Vm.Ytahbkkleholmaaa
open Go.Proofs
def rcS (t : Tn) (k : SK) (i : Nat) (s : St) : Prop := i ≤ t.ops.length ∧ s.t 1 = .ptr 128 1 0 ∧ s.σ 128 = ⟨1, .rw, false, [.int .u64 (t.c.toNat : Int), .int .u64 (t.n.toNat : Int), .sl k t.ops.length (rows Opn.v t.ops)]⟩ ∧ s.t 3 = .int .i64 (i : Int) ∧ (t.ops.take i).all okOp = true
theorem RCheck_ok (t : Tn) (k : SK) (hl : t.ops.length ≤ 140737488355328) (ho : ∀ o ∈ t.ops, smallO o) : Gf fns 22 [.agg (t.v (t.os k))] = some (.int .i64 (if okTx t = true then 0 else 40), []) := by
  obtain ⟨c, n, l⟩ := t
  simp only at ho hl
  have e0 : (n.toNat = 0) = (n = 0) := propext ⟨fun h => UInt64.toNat_inj.1 h, fun h => by rw [h]; rfl⟩
  have hr := rlen l
  refine Gf_start rfl rfl ?_
  by_cases c0 : n = 0
  · subst c0
    have z1 : (0 : UInt64).toNat = 0 := rfl
    have hx : okTx ⟨c, 0, l⟩ = false := by unfold okTx; simp
    simp -implicitDefEqProofs (disch := omega) only [go_sem, seval, Tn.v, Tn.os, z1, hx]
  by_cases c1 : 1 ≤ l.length
  case neg =>
    have hx : okTx ⟨c, n, l⟩ = false := by unfold okTx; simp [c1]
    simp -implicitDefEqProofs (disch := omega) only [go_sem, seval, Tn.v, Tn.os, e0, c0, c1, hx]
  by_cases c2 : l.length ≤ 8
  case neg =>
    have hx : okTx ⟨c, n, l⟩ = false := by unfold okTx; simp [c2]
    simp -implicitDefEqProofs (disch := omega) only [go_sem, seval, Tn.v, Tn.os, e0, c0, c1, c2, hx]
  simp -implicitDefEqProofs (disch := omega) only [go_sem, seval, Tn.v, Tn.os, e0, c0, c1, c2]
  refine wp_loopS (rcS ⟨c, n, l⟩ k) (fun i => l.length - i) 0 ⟨by omega, by simp -implicitDefEqProofs (disch := omega) only [go_sem, seval, go_sem], by simp -implicitDefEqProofs (disch := omega) only [go_sem, seval, go_sem], by simp -implicitDefEqProofs (disch := omega) only [go_sem, seval, go_sem], rfl⟩ ?_
  rintro i ⟨t, σ⟩ ⟨hi, h1, h2, h3, hb⟩
  simp only at h1 h2 h3 hi hb
  simp -implicitDefEqProofs (disch := omega) only [go_sem, seval, lp22_0, h1, h2, h3]
  refine condC_dec (fun hc => ?_) (fun hc => ?_)
  · have hm : gt l i ∈ l := by rw [gt_eq hc]; exact List.getElem_mem hc
    have hs := ho _ hm
    have hra := row_at l i hc
    have htk : okOp (gt l i) = true → (l.take (i + 1)).all okOp = true := fun h => by rw [take_gt hc, List.all_append, hb]; simp [h]
    have hno : okOp (gt l i) = false → okTx ⟨c, n, l⟩ = false := fun h => by
      have : l.all okOp = false := by rw [List.all_eq_false]; exact ⟨_, hm, by rw [h]; simp⟩
      unfold okTx; simp only [this, Bool.and_false]
    generalize gt l i = o at *
    obtain ⟨kk, xx, yy⟩ := o
    obtain ⟨s1, s2⟩ := hs
    simp only at s1 s2
    simp -implicitDefEqProofs (disch := omega) only [go_sem, seval, Opn.v] at hra
    have exx : (xx = []) = (xx.length = 0) := by simp
    have eyy : (yy = []) = (yy.length = 0) := by simp
    by_cases d0 : xx.length = 0
    · have hx := hno (by unfold okOp; simp [d0])
      have : xx = [] := by simpa using d0
      simp -implicitDefEqProofs (disch := omega) only [go_sem, seval, h1, h2, h3, hra, this, hx]
    by_cases d1 : xx.length ≤ 32
    case neg =>
      have hx := hno (by unfold okOp; simp [d1])
      simp -implicitDefEqProofs (disch := omega) only [go_sem, seval, h1, h2, h3, hra, exx, d0, d1, hx]
    by_cases d2 : yy.length ≤ 64
    case neg =>
      have hx := hno (by unfold okOp; simp [d2])
      simp -implicitDefEqProofs (disch := omega) only [go_sem, seval, h1, h2, h3, hra, exx, d0, d1, d2, hx]
    have xne : ¬ xx = [] := by simpa using d0
    by_cases d3 : kk = 1 ∨ kk = 3
    · have hx : okOp ⟨kk, xx, yy⟩ = true := by unfold okOp; simp [d1, d2, d3, xne]
      rcases d3 with rfl | rfl
      · simp -implicitDefEqProofs (disch := omega) only [go_sem, seval, h1, h2, h3, hra, exx, d0, d1, d2]
        exact ⟨i + 1, by omega, (by show i + 1 ≤ l.length; omega), by simp -implicitDefEqProofs (disch := omega) only [go_sem, seval, h1], by simp -implicitDefEqProofs (disch := omega) only [go_sem, seval, h2], by simp -implicitDefEqProofs (disch := omega) only [go_sem, seval, go_sem], htk hx⟩
      · simp -implicitDefEqProofs (disch := omega) only [go_sem, seval, h1, h2, h3, hra, exx, d0, d1, d2]
        exact ⟨i + 1, by omega, (by show i + 1 ≤ l.length; omega), by simp -implicitDefEqProofs (disch := omega) only [go_sem, seval, h1], by simp -implicitDefEqProofs (disch := omega) only [go_sem, seval, h2], by simp -implicitDefEqProofs (disch := omega) only [go_sem, seval, go_sem], htk hx⟩
    by_cases d4 : kk = 2 ∨ kk = 4
    · by_cases d5 : yy = []
      · have hx : okOp ⟨kk, xx, yy⟩ = true := by unfold okOp; simp [d1, d4, d5, xne]
        rcases d4 with rfl | rfl
        · simp -implicitDefEqProofs (disch := omega) only [go_sem, seval, h1, h2, h3, hra, exx, d0, d1, d2, d5]
          exact ⟨i + 1, by omega, (by show i + 1 ≤ l.length; omega), by simp -implicitDefEqProofs (disch := omega) only [go_sem, seval, h1], by simp -implicitDefEqProofs (disch := omega) only [go_sem, seval, h2], by simp -implicitDefEqProofs (disch := omega) only [go_sem, seval, go_sem], htk hx⟩
        · simp -implicitDefEqProofs (disch := omega) only [go_sem, seval, h1, h2, h3, hra, exx, d0, d1, d2, d5]
          exact ⟨i + 1, by omega, (by show i + 1 ≤ l.length; omega), by simp -implicitDefEqProofs (disch := omega) only [go_sem, seval, h1], by simp -implicitDefEqProofs (disch := omega) only [go_sem, seval, h2], by simp -implicitDefEqProofs (disch := omega) only [go_sem, seval, go_sem], htk hx⟩
      · have hx := hno (by unfold okOp; simp only [d3, d5]; simp)
        rcases d4 with rfl | rfl
        · simp -implicitDefEqProofs (disch := omega) only [go_sem, seval, h1, h2, h3, hra, exx, d0, d1, d2, d5, hx]
        · simp -implicitDefEqProofs (disch := omega) only [go_sem, seval, h1, h2, h3, hra, exx, d0, d1, d2, d5, hx]
    · have hx := hno (by unfold okOp; simp only [d3, d4]; simp)
      by_cases d6 : kk < 1
      · simp -implicitDefEqProofs (disch := omega) only [go_sem, seval, h1, h2, h3, hra, exx, d0, d1, d2, d6, hx]
      · have d7 : 4 < kk := by omega
        simp -implicitDefEqProofs (disch := omega) only [go_sem, seval, h1, h2, h3, hra, exx, d0, d1, d2, d6, d7, hx]
  · obtain rfl : i = l.length := by omega
    rw [take_all (Nat.le_refl _)] at hb
    have hx : okTx ⟨c, n, l⟩ = true := by unfold okTx; simp only [hb]; simp [c0, c2]; omega
    simp -implicitDefEqProofs (disch := omega) only [go_sem, seval, hx]
end Go.Vm.Ytahbkkleholmaaa
/- Transactions, in the machine: as the reference has them. -/
namespace Go.Vm.Ytahbkkleholmaaa
open Go.Proofs
theorem cells3 (l : List Opn) (i : Nat) (h : i < l.length) : (rows Opn.v l)[i * 3]? = some (.int .i64 (gt l i).kind) ∧ (rows Opn.v l)[i * 3 + 1]? = some (.str (gt l i).key) ∧ (rows Opn.v l)[i * 3 + 2]? = some (.str (gt l i).val) :=
  ⟨cell_at l i 0 h (by omega), cell_at l i 1 h (by omega), cell_at l i 2 h (by omega)⟩
def rowsO (c n : UInt64) (l : List Opn) (b q : Nat) (σ : Store) : Prop := (l = [] ∧ σ b = ⟨1, .rw, false, [.int .u64 (c.toNat : Int), .int .u64 (n.toNat : Int), .sl .nil 0 []]⟩) ∨ (l ≠ [] ∧ ∃ gq, σ b = ⟨1, .rw, false, [.int .u64 (c.toNat : Int), .int .u64 (n.toNat : Int), .sli q gq 0 l.length 3]⟩ ∧ σ q = ⟨gq, .rw, true, rows Opn.v l⟩)
def refS (t : Tn) (k : SK) (i : Nat) (s : St) : Prop := i ≤ t.ops.length ∧ i ≤ 9 ∧ s.t 1 = .ptr 128 1 0 ∧ s.σ 128 = ⟨1, .rw, false, [.int .u64 (t.c.toNat : Int), .int .u64 (t.n.toNat : Int), .sl k t.ops.length (rows Opn.v t.ops)]⟩ ∧ s.t 2 = .ptr 192 1 0 ∧ s.σ 192 = ⟨1, .rw, false, [.int .u64 0, .int .u64 0, .sl .nil 0 []]⟩ ∧ s.t 3 = .ptr 256 1 0 ∧ s.t 4 = .int .i64 (i : Int) ∧ rowsO t.c t.n (t.ops.take i) 256 2816 s.σ
theorem Ref_ok (t : Tn) (k : SK) (hl : t.ops.length ≤ 140737488355328) : Gf fns 23 [.agg (t.v (t.os k))] = some (.agg (t.v (ownRows (t.ops.take 9))), []) := by
  obtain ⟨c, n, l⟩ := t
  simp only at hl
  have hr := rlen l
  refine Gf_start rfl rfl ?_
  simp -implicitDefEqProofs (disch := omega) only [go_sem, seval, Tn.v, Tn.os]
  refine wp_loopS (refS ⟨c, n, l⟩ k) (fun i => 9 - i) 0 ⟨by omega, by omega, by simp -implicitDefEqProofs (disch := omega) only [go_sem, seval, go_sem], by simp -implicitDefEqProofs (disch := omega) only [go_sem, seval, go_sem], by simp -implicitDefEqProofs (disch := omega) only [go_sem, seval, go_sem], by simp -implicitDefEqProofs (disch := omega) only [go_sem, seval, go_sem], by simp -implicitDefEqProofs (disch := omega) only [go_sem, seval, go_sem], by simp -implicitDefEqProofs (disch := omega) only [go_sem, seval, go_sem], .inl ⟨rfl, by simp -implicitDefEqProofs (disch := omega) only [go_sem, seval, go_sem]⟩⟩ ?_
  rintro i ⟨t, σ⟩ ⟨hi, hi9, h1, s1, h2, s2, h3, h4, ho⟩
  simp only at h1 s1 h2 s2 h3 h4 hi
  by_cases hc : i < l.length
  · by_cases hc9 : i < 9
    · obtain ⟨e0, e1, e2⟩ := cells3 l i hc
      have htk := take_gt hc
      have hlt : (l.take i).length = i := by simp; omega
      have hrt := rlen (l.take i)
      rw [hlt] at hrt
      have hX : rows Opn.v (l.take (i + 1)) = rows Opn.v (l.take i) ++ [.int .i64 (gt l i).kind, .str (gt l i).key, .str (gt l i).val] := by rw [htk, rows_append]; rfl
      have hne : l.take (i + 1) ≠ [] := by rw [htk]; simp
      have hln : (l.take (i + 1)).length = i + 1 := by simp; omega
      rcases ho with ⟨hn, sb⟩ | ⟨hn, gq, sb, sq⟩
      · simp only at sb
        have hi0 : i = 0 := by rw [hn] at hlt; simpa using hlt.symm
        subst hi0
        rw [show rows Opn.v (l.take 0) = [] from rfl, List.nil_append] at hX
        simp -implicitDefEqProofs (disch := omega) only [go_sem, seval, lp23_0, h1, s1, h3, h4, hc, hc9]
        refine wp_draw_E ?_
        simp -implicitDefEqProofs (disch := omega) only [go_sem, seval, h1, s1, h3, sb, h4, e0, e1, e2]
        exact ⟨1, by omega, (by show 1 ≤ l.length; omega), by omega, by simp -implicitDefEqProofs (disch := omega) only [go_sem, seval, h1], by simp -implicitDefEqProofs (disch := omega) only [go_sem, seval, s1], by simp -implicitDefEqProofs (disch := omega) only [go_sem, seval, h2], by simp -implicitDefEqProofs (disch := omega) only [go_sem, seval, s2], by simp -implicitDefEqProofs (disch := omega) only [go_sem, seval, h3], by simp -implicitDefEqProofs (disch := omega) only [go_sem, seval, go_sem], .inr ⟨hne, (σ 2816).gen + 1, by simp -implicitDefEqProofs (disch := omega) only [go_sem, seval, hln], by simp -implicitDefEqProofs (disch := omega) only [go_sem, seval, hX]⟩⟩
      · simp only at sb sq
        rw [hlt] at sb
        simp -implicitDefEqProofs (disch := omega) only [go_sem, seval, lp23_0, h1, s1, h3, h4, hc, hc9]
        refine wp_draw_E ?_
        simp -implicitDefEqProofs (disch := omega) only [go_sem, seval, h1, s1, h3, sb, sq, h4, e0, e1, e2]
        exact ⟨i + 1, by omega, (by show i + 1 ≤ l.length; omega), by omega, by simp -implicitDefEqProofs (disch := omega) only [go_sem, seval, h1], by simp -implicitDefEqProofs (disch := omega) only [go_sem, seval, s1], by simp -implicitDefEqProofs (disch := omega) only [go_sem, seval, h2], by simp -implicitDefEqProofs (disch := omega) only [go_sem, seval, s2], by simp -implicitDefEqProofs (disch := omega) only [go_sem, seval, h3], by simp -implicitDefEqProofs (disch := omega) only [go_sem, seval, go_sem], .inr ⟨hne, gq + 1, by simp -implicitDefEqProofs (disch := omega) only [go_sem, seval, hln], by simp -implicitDefEqProofs (disch := omega) only [go_sem, seval, hX]⟩⟩
    · have e9 : l.take 9 = l.take i := by rw [show i = 9 by omega]
      have hlt : (l.take i).length = i := by simp; omega
      rcases ho with ⟨hn, sb⟩ | ⟨hn, gq, sb, sq⟩
      · rw [hn] at hlt; simp at hlt; omega
      · simp only at sb sq
        have hrt := rlen (l.take i)
        rw [hlt] at hrt
        simp -implicitDefEqProofs (disch := omega) only [go_sem, seval, lp23_0, h1, s1, h2, s2, h3, sb, sq, h4, hc, hc9, e9, ownRows, hn]
  · have e9 : l.take 9 = l.take i := by rw [take_all (show l.length ≤ 9 by omega), take_all (show l.length ≤ i by omega)]
    rcases ho with ⟨hn, sb⟩ | ⟨hn, gq, sb, sq⟩
    · simp only at sb
      simp -implicitDefEqProofs (disch := omega) only [go_sem, seval, lp23_0, h1, s1, h2, s2, h3, sb, h4, hc, e9, ownRows, hn]
    · simp only at sb sq
      have hn2 : ¬ l = [] := fun h => hn (by simp [h])
      simp -implicitDefEqProofs (disch := omega) only [go_sem, seval, lp23_0, h1, s1, h2, s2, h3, sb, sq, h4, hc, e9, ownRows, hn2]
def rbS (t : Tn) (k : SK) (i : Nat) (s : St) : Prop := i ≤ t.ops.length ∧ s.t 1 = .ptr 128 1 0 ∧ s.σ 128 = ⟨1, .rw, false, [.int .u64 (t.c.toNat : Int), .int .u64 (t.n.toNat : Int), .sl k t.ops.length (rows Opn.v t.ops)]⟩ ∧ s.t 4 = .int .i64 (i : Int) ∧ s.t 3 = .str (numB t.c 8 ++ numB t.n 8 ++ numB (UInt64.ofNat t.ops.length) 4 ++ opsB (t.ops.take i))
theorem u64_len {n : Nat} (h : n ≤ 140737488355328) : (n : Int) = ((UInt64.ofNat n).toNat : Int) := by
  rw [UInt64.toNat_ofNat_of_lt' (by show n < 18446744073709551616; omega)]
theorem bytes_bad {r : Rd} (h : r.err ≠ 0) (n : Int) : r.bytes n = (r, []) := by unfold Rd.bytes; rw [if_pos h]
theorem number_bad {r : Rd} (h : r.err ≠ 0) (n : Int) : (r.number n).1 = r := by
  unfold Rd.number
  rw [if_neg (fun c => h c.1), bytes_bad h]
theorem count_bad {r : Rd} (h : r.err ≠ 0) (n : Int) : (r.count n).1 = r := by
  unfold Rd.count
  simp only
  rw [if_pos (by rw [number_bad h]; exact h)]
  exact number_bad h 4
theorem bytes_err {r : Rd} {n : Int} (h : (r.bytes n).1.err ≠ 0) : (r.bytes n).2 = [] := by
  unfold Rd.bytes at h ⊢
  repeat' split
  · rfl
  · rfl
  · rfl
  · rename_i a b c
    simp only [if_neg a, if_neg b, if_neg c] at h
    exact absurd h a
theorem text_alt {r : Rd} (h : r.ok) (n : Int) : (r.text n) = (if ((r.count n).1.bytes (r.count n).2).1.err ≠ 0 then (⟨r.s, r.at', if r.err = 0 then ((r.count n).1.bytes (r.count n).2).1.err else r.err⟩, []) else ((r.count n).1.bytes (r.count n).2)) := by
  have h1 := Rd.count_ok h n
  have h2 := Rd.bytes_ok h1.1 (r.count n).2
  unfold Rd.text
  simp only
  by_cases hp : ((r.count n).1.bytes (r.count n).2).1.err ≠ 0
  · rw [if_pos hp, if_pos hp, bytes_err hp, h2.2, h1.2]
    by_cases hr : r.err = 0
    · rw [if_pos hr]
    · rw [if_neg hr]
      have e := count_bad hr n
      have e2 : ((r.count n).1.bytes (r.count n).2).1.err = r.err := by rw [bytes_bad (by rw [e]; exact hr), e]
      rw [e2]
  · rw [if_neg hp, if_neg hp]
end Go.Vm.Ytahbkkleholmaaa
