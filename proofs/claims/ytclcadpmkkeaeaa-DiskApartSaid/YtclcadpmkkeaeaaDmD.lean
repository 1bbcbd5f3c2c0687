/- (seval) The disk, in the machine: the power fails. -/
import Derived.Test.YtclcadpmkkeaeaaDkH
set_option linter.unusedSectionVars false
set_option linter.unusedSimpArgs false
set_option linter.unusedVariables false
set_option maxHeartbeats 40000000
set_option maxRecDepth 10000
namespace Go.Vm
def leftF (e : DE) (kp : Bool) (torn : Int) : Bool × Tx :=
  if kp = true then (e.a, e.s) else
  if e.how = 1 ∧ min (max torn 0) (e.s.length : Int) ≠ 0 then (true, e.s.take (min (max torn 0) (e.s.length : Int)).toNat ++ e.s2.drop (min (min (max torn 0) (e.s.length : Int)).toNat e.s2.length)) else (e.b, e.s2)
def leftT (kp : Bool) (torn : Int) : Int := if kp = true then torn else 0
def newF (e : DE) (f : Bool × Tx) : DE := ⟨e.n, f.1, f.2, f.1, f.2, 0⟩
end Go.Vm
namespace Go.Vm.Ytclcadpmkkeaeaa
open Go.Proofs
theorem Left_ok (e : DE) (kp : Bool) (torn : Int) (h1 : e.s.length ≤ 1000000) (h2 : e.s2.length ≤ 1000000) : Gf fns 35 [.agg e.v, .bool kp, .opt [.int .i64 torn]] = some (.agg [.bool (leftF e kp torn).1, .str (leftF e kp torn).2], [.opt [.int .i64 (leftT kp torn)]]) := by
  obtain ⟨n, a, s, b, s2, how⟩ := e
  simp only at h1 h2
  unfold leftF leftT
  cases kp
  · simp only [Bool.false_eq_true, if_false]
    obtain ⟨z, hz⟩ : ∃ z, z = min (max torn 0) (s.length : Int) := ⟨_, rfl⟩
    have hz1 : 0 ≤ z ∧ z ≤ s.length := by omega
    rw [← hz]
    by_cases hh : how = 1
    · subst hh
      by_cases h0 : z = 0
      · have hn : ¬ ((1 : Nat) = 1 ∧ z ≠ 0) := fun c => c.2 h0
        rw [if_neg hn]
        refine Gf_start rfl rfl ?_
        simp -implicitDefEqProofs (disch := omega) only [go_sem, seval, DE.v]
        refine wp_draw_E ?_
        simp -implicitDefEqProofs (disch := omega) only [go_sem, seval, ← hz, h0]
      · rw [if_pos ⟨rfl, h0⟩]
        obtain ⟨p, rfl⟩ : ∃ p : Nat, z = (p : Int) := ⟨z.toNat, by omega⟩
        have hm : min (p : Int) (s2.length : Int) = ((min p s2.length : Nat) : Int) := by omega
        have hp : p ≤ s.length := by omega
        have hl1 : (s.take p).length = p := by simp; omega
        have hl2 : (s2.drop (min p s2.length)).length = s2.length - min p s2.length := by simp
        refine Gf_start rfl rfl ?_
        simp -implicitDefEqProofs (disch := omega) only [go_sem, seval, DE.v]
        refine wp_draw_E ?_
        simp -implicitDefEqProofs (disch := omega) only [go_sem, seval, ← hz, h0]
        refine wp_draw_E ?_
        simp -implicitDefEqProofs (disch := omega) only [go_sem, seval, hm, hl1, hl2, Int.toNat_natCast]
    · have hi : ¬ (how : Int) = 1 := by omega
      have hn : ¬ (how = 1 ∧ z ≠ 0) := fun c => hh c.1
      rw [if_neg hn]
      refine Gf_start rfl rfl ?_
      simp -implicitDefEqProofs (disch := omega) only [go_sem, seval, DE.v]
      refine wp_draw_E ?_
      simp -implicitDefEqProofs (disch := omega) only [go_sem, seval, ← hz, hi]
  · refine Gf_start rfl rfl ?_
    simp -implicitDefEqProofs (disch := omega) only [go_sem, seval, DE.v]
end Go.Vm.Ytclcadpmkkeaeaa
/- (seval) The disk, in the machine: the power fails; all files. -/
namespace Go.Vm
def keepB (keep : Int) (bit : Nat) : Bool := if bit < 62 then decide (Go.bits .and .i64 (Int.fdiv keep (2 ^ bit)) 1 = 1) else false
abbrev CrA := List (DE × DE) × Nat × Int
def crS (kf : Nat → Bool) (p : CrA) (e : DE) : CrA :=
  if looE e = true then (p.1 ++ [(e, newF e (leftF e (kf p.2.1) p.2.2))], p.2.1 + 1, leftT (kf p.2.1) p.2.2) else (p.1 ++ [(e, e)], p.2.1, p.2.2)
def crA (kf : Nat → Bool) (torn : Int) (l : List DE) : CrA := l.foldl (crS kf) ([], 0, torn)
theorem crA_snoc (kf : Nat → Bool) (torn : Int) (l : List DE) (e : DE) : crA kf torn (l ++ [e]) = crS kf (crA kf torn l) e := by unfold crA; rw [List.foldl_append]; rfl
theorem crA_succ (kf : Nat → Bool) (torn : Int) {l : List DE} {i : Nat} (h : i < l.length) : crA kf torn (l.take (i + 1)) = crS kf (crA kf torn (l.take i)) (gt l i) := by rw [take_gt h, crA_snoc]
theorem snoc_ind {α : Type} {P : List α → Prop} (h0 : P []) (h1 : ∀ l e, P l → P (l ++ [e])) : ∀ l, P l := by
  intro l
  rw [← List.reverse_reverse l]
  induction l.reverse with
  | nil => exact h0
  | cons a r ih => rw [List.reverse_cons]; exact h1 _ _ ih
theorem crA_fst (kf : Nat → Bool) (torn : Int) : ∀ l : List DE, (crA kf torn l).1.map Prod.fst = l := by
  refine snoc_ind rfl fun l e ih => ?_
  rw [crA_snoc]
  unfold crS
  split <;> simp [ih]
theorem crA_len (kf : Nat → Bool) (torn : Int) (l : List DE) : (crA kf torn l).1.length = l.length := by
  have := congrArg List.length (crA_fst kf torn l)
  simpa using this
theorem crA_bit (kf : Nat → Bool) (torn : Int) : ∀ l : List DE, (crA kf torn l).2.1 ≤ l.length := by
  refine snoc_ind (by simp [crA]) fun l e ih => ?_
  rw [crA_snoc]
  unfold crS
  split <;> simp <;> omega
def crP (kf : Nat → Bool) (torn : Int) (l : List DE) (i : Nat) : List DE := (crA kf torn (l.take i)).1.map Prod.snd ++ l.drop i
def crL (kf : Nat → Bool) (torn : Int) (l : List DE) : List DE := (crA kf torn l).1.map Prod.snd
theorem crP_len (kf : Nat → Bool) (torn : Int) (l : List DE) (i : Nat) : (crP kf torn l i).length = l.length := by
  unfold crP
  simp [crA_len]
  omega
theorem crP_gt (kf : Nat → Bool) (torn : Int) {l : List DE} {i : Nat} (h : i < l.length) : gt (crP kf torn l i) i = gt l i := by
  rw [gt_eq (by rw [crP_len]; exact h), gt_eq h]
  unfold crP
  have hl : ((crA kf torn (l.take i)).1.map Prod.snd).length = i := by simp [crA_len]; omega
  rw [List.getElem_append_right (by omega), List.getElem_drop]
  congr 1
  omega
theorem crP_same (kf : Nat → Bool) (torn : Int) {l : List DE} {i : Nat} (h : i < l.length) (hn : looE (gt l i) = false) : crP kf torn l (i + 1) = crP kf torn l i ∧ (crA kf torn (l.take (i + 1))).2 = (crA kf torn (l.take i)).2 := by
  unfold crP
  rw [crA_succ kf torn h]
  unfold crS
  rw [if_neg (by rw [hn]; simp)]
  refine ⟨?_, rfl⟩
  rw [List.drop_eq_getElem_cons h, List.map_append, List.append_assoc, ← gt_eq h]
  rfl
theorem crP_new (kf : Nat → Bool) (torn : Int) {l : List DE} {i : Nat} (h : i < l.length) (hn : looE (gt l i) = true) : crP kf torn l (i + 1) = (crP kf torn l i).set i (newF (gt l i) (leftF (gt l i) (kf (crA kf torn (l.take i)).2.1) (crA kf torn (l.take i)).2.2)) ∧ (crA kf torn (l.take (i + 1))).2.1 = (crA kf torn (l.take i)).2.1 + 1 ∧ (crA kf torn (l.take (i + 1))).2.2 = leftT (kf (crA kf torn (l.take i)).2.1) (crA kf torn (l.take i)).2.2 := by
  unfold crP
  rw [crA_succ kf torn h]
  have hl : ((crA kf torn (l.take i)).1.map Prod.snd).length = i := by simp [crA_len]; omega
  generalize crA kf torn (l.take i) = A at *
  unfold crS
  rw [if_pos hn]
  refine ⟨?_, rfl, rfl⟩
  rw [List.set_append_right _ _ (by omega), hl, Nat.sub_self, List.map_append, List.append_assoc, List.drop_eq_getElem_cons h]
  rfl
end Go.Vm
namespace Go.Vm.Ytclcadpmkkeaeaa
open Go.Proofs
def cS (l : List DE) (lim keep torn : Int) (ch : Nat) (i : Nat) (s : St) : Prop := i ≤ l.length ∧ s.t 0 = .ptr 0 1 0 ∧ s.t 1 = .int .i64 keep ∧ s.σ 0 = ⟨1, .rw, false, dkv (.sli 1 1 0 l.length 6) lim ch false⟩ ∧ s.σ 1 = ⟨1, .rw, true, rows DE.v (crP (keepB keep) torn l i)⟩ ∧ s.t 5 = .ptr 384 1 0 ∧ s.σ 384 = ⟨1, .rw, false, [.int .i64 (crA (keepB keep) torn (l.take i)).2.2]⟩ ∧ s.t 6 = .int .i64 ((crA (keepB keep) torn (l.take i)).2.1 : Int) ∧ s.t 15 = .sli 1 1 0 l.length 6 ∧ s.t 16 = .int .i64 (l.length : Int) ∧ s.t 17 = .int .i64 (i : Int)
theorem Crash_own (l : List DE) (lim keep torn : Int) (ch : Nat) (hl : l.length ≤ 900) (hB : ∀ e ∈ l, e.s.length ≤ 1000000 ∧ e.s2.length ≤ 1000000) : Gf fns 11 [.opt (dkv (.osl 6 l.length (rows DE.v l)) lim ch false), .int .i64 keep, .int .i64 torn] = some (.tup [], [.opt (dkv (.osl 6 (kept (crL (keepB keep) torn l)).length (rows DE.v (kept (crL (keepB keep) torn l)))) lim ch true)]) := by
  have d := Dead_ok lim ch false (.sl .ro l.length (rows DE.v l))
  have hel := elen l
  simp -implicitDefEqProofs (disch := omega) only [go_sem, seval, dkv] at d
  refine Gf_start rfl rfl ?_
  simp -implicitDefEqProofs (disch := omega) only [go_sem, seval, dkv, hel, ero, d]
  refine wp_loopS (cS l lim keep torn ch) (fun i => l.length - i) 0 ⟨by omega, by simp -implicitDefEqProofs (disch := omega) only [go_sem, seval, go_sem], by simp -implicitDefEqProofs (disch := omega) only [go_sem, seval, go_sem], by simp -implicitDefEqProofs (disch := omega) only [go_sem, seval, dkv], by simp -implicitDefEqProofs (disch := omega) only [go_sem, seval, crP, crA]; rfl, by simp -implicitDefEqProofs (disch := omega) only [go_sem, seval, go_sem], by simp -implicitDefEqProofs (disch := omega) only [go_sem, seval, crA]; rfl, by simp -implicitDefEqProofs (disch := omega) only [go_sem, seval, crA]; rfl, by simp -implicitDefEqProofs (disch := omega) only [go_sem, seval, go_sem], by simp -implicitDefEqProofs (disch := omega) only [go_sem, seval, go_sem], by simp -implicitDefEqProofs (disch := omega) only [go_sem, seval, go_sem]⟩ ?_
  rintro i ⟨t, σ⟩ ⟨hi, h0, h1, s0, s1, h5, s5, h6, h15, h16, h17⟩
  simp only at h0 h1 s0 s1 h5 s5 h6 h15 h16 h17
  unfold dkv at s0
  have hel := elen (crP (keepB keep) torn l i)
  have hsl := crP_len (keepB keep) torn l i
  rw [hsl] at hel
  simp -implicitDefEqProofs (disch := omega) only [go_sem, seval, lp11_0, h16, h17]
  refine condC_dec (fun hc => ?_) (fun hc => ?_)
  · have rr := erow (crP (keepB keep) torn l i) i (by omega)
    have hput := fun g => e_put (l := crP (keepB keep) torn l i) (i := i) (by omega) g
    have hb := crA_bit (keepB keep) torn (l.take i)
    have hbt : (l.take i).length ≤ i := by simp; omega
    have hLo := Left_ok (gt l i) (keepB keep (crA (keepB keep) torn (l.take i)).2.1) (crA (keepB keep) torn (l.take i)).2.2 (hB _ (by rw [gt_eq hc]; exact List.getElem_mem hc)).1 (hB _ (by rw [gt_eq hc]; exact List.getElem_mem hc)).2
    have hsame := crP_same (keepB keep) torn hc
    have hnew := crP_new (keepB keep) torn hc
    rw [crP_gt _ _ hc] at rr
    have q2 : i * 6 + 6 ≤ l.length * 6 := by omega
    generalize gt l i = g at *
    obtain ⟨gn, ga, gs, gb, gs2, gh⟩ := g
    generalize crA (keepB keep) torn (l.take i) = A at *
    obtain ⟨Ap, Ab, At⟩ := A
    simp only at *
    by_cases hlo : looE ⟨gn, ga, gs, gb, gs2, gh⟩ = true
    · obtain ⟨e1, e2, e3⟩ := hnew hlo
      have hpt := hput (newF ⟨gn, ga, gs, gb, gs2, gh⟩ (leftF ⟨gn, ga, gs, gb, gs2, gh⟩ (keepB keep Ab) At))
      rw [← e1] at hpt
      have hsp : (splice (rows DE.v (crP (keepB keep) torn l i)) (i * 6) (newF ⟨gn, ga, gs, gb, gs2, gh⟩ (leftF ⟨gn, ga, gs, gb, gs2, gh⟩ (keepB keep Ab) At)).v).length = l.length * 6 := by rw [hpt, elen, crP_len]
      clear hput hsame hnew e1
      generalize crP (keepB keep) torn l i = C at *
      generalize hC2 : crP (keepB keep) torn l (i + 1) = C2 at *
      obtain ⟨kb, hkb⟩ : ∃ kb, keepB keep Ab = kb := ⟨_, rfl⟩
      rw [hkb] at hLo hpt hsp e3
      generalize leftF ⟨gn, ga, gs, gb, gs2, gh⟩ kb At = F at *
      obtain ⟨Fa, Fs⟩ := F
      simp -implicitDefEqProofs (disch := omega) only [go_sem, seval, newF, DE.v] at hpt hsp hLo
      have hdif : ga = gb → ¬ gs = gs2 := by
        intro h1 h2
        subst h1; subst h2
        simp [looE] at hlo
      unfold keepB at hkb
      by_cases e5 : ga = gb
      · have e6 := hdif e5
        subst e5
        simp -implicitDefEqProofs (disch := omega) only [go_sem, seval, h0, h1, s0, s1, h5, s5, h6, h15, h16, h17, rr, hel, q2, DE.v, e6]
        refine wp_draw_E ?_
        by_cases hbit : Ab < 62
        · rw [if_pos hbit] at hkb
          simp -implicitDefEqProofs (disch := omega) only [go_sem, seval, h0, h1, s0, s1, h5, s5, h6, h15, h16, h17, rr, hel, q2, DE.v, hbit, hkb, callV_T at35, hLo]
          refine wp_draw_E ?_
          simp -implicitDefEqProofs (disch := omega) only [go_sem, seval, h0, s0, s1, h6, h16, h17, hel, q2, hpt, hsp]
          exact ⟨i + 1, by omega, by omega, by simp -implicitDefEqProofs (disch := omega) only [go_sem, seval, h0], by simp -implicitDefEqProofs (disch := omega) only [go_sem, seval, h1], by simp -implicitDefEqProofs (disch := omega) only [go_sem, seval, s0, dkv], by simp -implicitDefEqProofs (disch := omega) only [go_sem, seval, s1, hC2], by simp -implicitDefEqProofs (disch := omega) only [go_sem, seval, h5], by simp -implicitDefEqProofs (disch := omega) only [go_sem, seval, e3], by simp -implicitDefEqProofs (disch := omega) only [go_sem, seval, e2], by simp -implicitDefEqProofs (disch := omega) only [go_sem, seval, h15], by simp -implicitDefEqProofs (disch := omega) only [go_sem, seval, h16], by simp -implicitDefEqProofs (disch := omega) only [go_sem, seval, go_sem]⟩
        · rw [if_neg hbit] at hkb
          subst hkb
          simp -implicitDefEqProofs (disch := omega) only [go_sem, seval, h0, h1, s0, s1, h5, s5, h6, h15, h16, h17, rr, hel, q2, DE.v, hbit, callV_T at35, hLo]
          refine wp_draw_E ?_
          simp -implicitDefEqProofs (disch := omega) only [go_sem, seval, h0, s0, s1, h6, h16, h17, hel, q2, hpt, hsp]
          exact ⟨i + 1, by omega, by omega, by simp -implicitDefEqProofs (disch := omega) only [go_sem, seval, h0], by simp -implicitDefEqProofs (disch := omega) only [go_sem, seval, h1], by simp -implicitDefEqProofs (disch := omega) only [go_sem, seval, s0, dkv], by simp -implicitDefEqProofs (disch := omega) only [go_sem, seval, s1, hC2], by simp -implicitDefEqProofs (disch := omega) only [go_sem, seval, h5], by simp -implicitDefEqProofs (disch := omega) only [go_sem, seval, e3], by simp -implicitDefEqProofs (disch := omega) only [go_sem, seval, e2], by simp -implicitDefEqProofs (disch := omega) only [go_sem, seval, h15], by simp -implicitDefEqProofs (disch := omega) only [go_sem, seval, h16], by simp -implicitDefEqProofs (disch := omega) only [go_sem, seval, go_sem]⟩
      · clear hdif
        simp -implicitDefEqProofs (disch := omega) only [go_sem, seval, h0, h1, s0, s1, h5, s5, h6, h15, h16, h17, rr, hel, q2, DE.v, e5]
        refine wp_draw_E ?_
        by_cases hbit : Ab < 62
        · rw [if_pos hbit] at hkb
          simp -implicitDefEqProofs (disch := omega) only [go_sem, seval, h0, h1, s0, s1, h5, s5, h6, h15, h16, h17, rr, hel, q2, DE.v, hbit, hkb, callV_T at35, hLo]
          refine wp_draw_E ?_
          simp -implicitDefEqProofs (disch := omega) only [go_sem, seval, h0, s0, s1, h6, h16, h17, hel, q2, hpt, hsp]
          exact ⟨i + 1, by omega, by omega, by simp -implicitDefEqProofs (disch := omega) only [go_sem, seval, h0], by simp -implicitDefEqProofs (disch := omega) only [go_sem, seval, h1], by simp -implicitDefEqProofs (disch := omega) only [go_sem, seval, s0, dkv], by simp -implicitDefEqProofs (disch := omega) only [go_sem, seval, s1, hC2], by simp -implicitDefEqProofs (disch := omega) only [go_sem, seval, h5], by simp -implicitDefEqProofs (disch := omega) only [go_sem, seval, e3], by simp -implicitDefEqProofs (disch := omega) only [go_sem, seval, e2], by simp -implicitDefEqProofs (disch := omega) only [go_sem, seval, h15], by simp -implicitDefEqProofs (disch := omega) only [go_sem, seval, h16], by simp -implicitDefEqProofs (disch := omega) only [go_sem, seval, go_sem]⟩
        · rw [if_neg hbit] at hkb
          subst hkb
          simp -implicitDefEqProofs (disch := omega) only [go_sem, seval, h0, h1, s0, s1, h5, s5, h6, h15, h16, h17, rr, hel, q2, DE.v, hbit, callV_T at35, hLo]
          refine wp_draw_E ?_
          simp -implicitDefEqProofs (disch := omega) only [go_sem, seval, h0, s0, s1, h6, h16, h17, hel, q2, hpt, hsp]
          exact ⟨i + 1, by omega, by omega, by simp -implicitDefEqProofs (disch := omega) only [go_sem, seval, h0], by simp -implicitDefEqProofs (disch := omega) only [go_sem, seval, h1], by simp -implicitDefEqProofs (disch := omega) only [go_sem, seval, s0, dkv], by simp -implicitDefEqProofs (disch := omega) only [go_sem, seval, s1, hC2], by simp -implicitDefEqProofs (disch := omega) only [go_sem, seval, h5], by simp -implicitDefEqProofs (disch := omega) only [go_sem, seval, e3], by simp -implicitDefEqProofs (disch := omega) only [go_sem, seval, e2], by simp -implicitDefEqProofs (disch := omega) only [go_sem, seval, h15], by simp -implicitDefEqProofs (disch := omega) only [go_sem, seval, h16], by simp -implicitDefEqProofs (disch := omega) only [go_sem, seval, go_sem]⟩
    · have hlo2 : looE ⟨gn, ga, gs, gb, gs2, gh⟩ = false := by simpa using hlo
      obtain ⟨e1, e2⟩ := hsame hlo2
      have e5 : ga = gb ∧ gs = gs2 := by
        unfold looE at hlo2
        simpa using hlo2
      obtain ⟨rfl, rfl⟩ := e5
      simp -implicitDefEqProofs (disch := omega) only [go_sem, seval, h0, h1, s0, s1, h5, s5, h6, h15, h16, h17, rr, hel, q2, DE.v]
      exact ⟨i + 1, by omega, by omega, by simp -implicitDefEqProofs (disch := omega) only [go_sem, seval, h0], by simp -implicitDefEqProofs (disch := omega) only [go_sem, seval, h1], by simp -implicitDefEqProofs (disch := omega) only [go_sem, seval, s0, dkv], by simp -implicitDefEqProofs (disch := omega) only [go_sem, seval, s1, e1], by simp -implicitDefEqProofs (disch := omega) only [go_sem, seval, h5], by simp -implicitDefEqProofs (disch := omega) only [go_sem, seval, s5, e2], by simp -implicitDefEqProofs (disch := omega) only [go_sem, seval, h6, e2], by simp -implicitDefEqProofs (disch := omega) only [go_sem, seval, h15], by simp -implicitDefEqProofs (disch := omega) only [go_sem, seval, h16], by simp -implicitDefEqProofs (disch := omega) only [go_sem, seval, go_sem]⟩
  · obtain rfl : i = l.length := by omega
    have eC : crP (keepB keep) torn l l.length = crL (keepB keep) torn l := by unfold crP crL; rw [List.take_length, List.drop_length, List.append_nil]
    rw [eC] at s1 hel hsl
    have td := Tidy_ok (crL (keepB keep) torn l) lim ch (by omega)
    have hek := elen (kept (crL (keepB keep) torn l))
    generalize kept (crL (keepB keep) torn l) = K at *
    generalize crL (keepB keep) torn l = M at *
    rw [hsl] at td
    simp -implicitDefEqProofs (disch := omega) only [go_sem, seval, dkv] at td
    simp -implicitDefEqProofs (disch := omega) only [go_sem, seval, h0, s0, s1, hel, ero]
    simp -implicitDefEqProofs (disch := omega) only [go_sem, seval, callr33, h0, s0, s1, td, hel, hek, ero]
theorem Crash_nil (lim keep torn : Int) (ch : Nat) : Gf fns 11 [.opt (dkv (.sl .nil 0 []) lim ch false), .int .i64 keep, .int .i64 torn] = some (.tup [], [.opt (dkv (.sl .nil 0 []) lim ch true)]) := by
  have d := Dead_ok lim ch false (.sl .nil 0 [])
  have td := Tidy_nil lim ch
  simp -implicitDefEqProofs (disch := omega) only [go_sem, seval, dkv] at d td
  refine Gf_start rfl rfl ?_
  simp -implicitDefEqProofs (disch := omega) only [go_sem, seval, dkv, d, ↓wp_unroll, lp11_0]
  simp -implicitDefEqProofs (disch := omega) only [go_sem, seval, callr33, td]
theorem Up_ok {lv : V} {l : List DE} (ho : OwL lv l) (lim : Int) (ch : Nat) : Gf fns 12 [.opt (dkv lv lim ch true)] = some (.bool true, [.opt (dkv lv lim ch false)]) := by
  have hel := elen l
  rcases ho with rfl | ⟨rfl, rfl⟩
  · refine Gf_start rfl rfl ?_
    simp -implicitDefEqProofs (disch := omega) only [go_sem, seval, dkv, hel, ero]
  · refine Gf_start rfl rfl ?_
    simp -implicitDefEqProofs (disch := omega) only [go_sem, seval, dkv]
end Go.Vm.Ytclcadpmkkeaeaa
