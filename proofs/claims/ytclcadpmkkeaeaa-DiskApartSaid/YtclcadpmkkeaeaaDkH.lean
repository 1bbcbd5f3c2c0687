/- (seval) The disk, in the machine: what is let go; all made sure. -/
import Derived.Test.YtclcadpmkkeaeaaDkD
import Derived.Test.YtclcadpmkkeaeaaDkG
set_option linter.unusedSectionVars false
set_option linter.unusedSimpArgs false
set_option linter.unusedVariables false
set_option maxHeartbeats 40000000
set_option maxRecDepth 10000
namespace Go.Vm
def gone (e : DE) : Bool := !e.a && !e.b
def kept (l : List DE) : List DE := l.filter fun e => !gone e
theorem kept_len (l : List DE) : (kept l).length ≤ l.length := List.length_filter_le _ _
theorem kept_succ (l : List DE) (j : Nat) (hj : j < l.length) : kept (l.take (j + 1)) = if gone (gt l j) = true then kept (l.take j) else kept (l.take j) ++ [gt l j] := by
  unfold kept
  rw [take_gt hj, List.filter_append]
  by_cases h : gone (gt l j) = true <;> simp [h]
theorem kept_no (l : List DE) (h : ∀ e ∈ l, gone e = false) : kept l = l := by
  unfold kept
  rw [List.filter_eq_self]
  intro x hx
  simp [h x hx]
theorem kept_sync (l : List DE) : kept (l.map syncE) = syncL l := by
  unfold kept syncL
  congr 1
  funext e
  cases h1 : e.a <;> cases h2 : e.b <;> simp [gone, h1, h2]
def syP (l : List DE) (i : Nat) : List DE := (l.take i).map syncE ++ l.drop i
theorem syP_len (l : List DE) (i : Nat) : (syP l i).length = l.length := by
  unfold syP
  simp
  omega
theorem syP_gt {l : List DE} {i : Nat} (h : i < l.length) : gt (syP l i) i = gt l i := by
  rw [gt_eq (by rw [syP_len]; exact h), gt_eq h]
  unfold syP
  have hl : ((l.take i).map syncE).length = i := by simp; omega
  rw [List.getElem_append_right (by omega), List.getElem_drop]
  congr 1
  omega
theorem syP_succ {l : List DE} {i : Nat} (h : i < l.length) : syP l (i + 1) = (syP l i).set i (syncE (gt l i)) := by
  unfold syP
  have hl : ((l.take i).map syncE).length = i := by simp; omega
  rw [List.set_append_right _ _ (by omega), hl, Nat.sub_self, take_gt h, List.map_append, List.append_assoc]
  congr 1
  rw [List.drop_eq_getElem_cons h]
  rfl
theorem syP_all (l : List DE) : syP l l.length = l.map syncE := by
  unfold syP
  simp
theorem e_sync {l : List DE} {i : Nat} (h : i < l.length) : (splice (rows DE.v l) (i * 6 + 3) [.bool (gt l i).a, .str (gt l i).s]).set (i * 6 + 5) (.int .i64 0) = rows DE.v (l.set i (syncE (gt l i))) := by
  have e1 : splice (rows DE.v l) (i * 6 + 3) [.bool (gt l i).a, .str (gt l i).s] = rows DE.v (l.set i { gt l i with b := (gt l i).a, s2 := (gt l i).s }) := rows_splice DE.v_len h (by simp) rfl
  have hi : i < (l.set i { gt l i with b := (gt l i).a, s2 := (gt l i).s }).length := by simp; exact h
  have hq : i * 6 + 6 ≤ l.length * 6 := by omega
  rw [set_eq_splice _ _ _ (by rw [e1, elen]; simp; omega), e1]
  have := e_set2 hi 0
  rw [show ((0 : Nat) : Int) = 0 from rfl] at this
  rw [this, List.set_set]
  congr 2
  unfold syncE
  rw [gt_eq hi, List.getElem_set_self]
theorem e_put {l : List DE} {i : Nat} (h : i < l.length) (g : DE) : splice (rows DE.v l) (i * 6) g.v = rows DE.v (l.set i g) := by
  have := rows_splice (f := DE.v) (c := 6) (j := 0) (cs := g.v) (e := g) DE.v_len h (by simp [DE.v]) (by unfold splice; simp [DE.v])
  simpa using this
end Go.Vm
namespace Go.Vm.Ytclcadpmkkeaeaa
open Go.Proofs
theorem T1_ok (e : DE) : Gf fns 49 [.agg e.v] = some (.bool (gone e), []) := by
  refine Gf_start rfl rfl ?_
  obtain ⟨n, a, s, b, s2, how⟩ := e
  cases a
  · cases b
    · simp -implicitDefEqProofs (disch := omega) only [go_sem, seval, DE.v, gone]
    · simp -implicitDefEqProofs (disch := omega) only [go_sem, seval, DE.v, gone]
  · simp -implicitDefEqProofs (disch := omega) only [go_sem, seval, DE.v, gone]
def ixS (l : List DE) (i : Nat) (s : St) : Prop := i ≤ l.length ∧ s.t 0 = .sl .ro l.length (rows DE.v l) ∧ s.t 1 = .fn 49 [] ∧ s.t 7 = .int .i64 (l.length : Int) ∧ s.t 8 = .int .i64 (i : Int) ∧ ∀ e ∈ l.take i, gone e = false
theorem Ix_ok (l : List DE) (hl : l.length ≤ 10000) : ∃ r : Int, Gf fns 53 [.sl .ro l.length (rows DE.v l), .fn 49 []] = some (.int .i64 r, []) ∧
    (r = -1 ∧ (∀ e ∈ l, gone e = false) ∨ ∃ i : Nat, r = (i : Int) ∧ i < l.length ∧ gone (gt l i) = true ∧ ∀ e ∈ l.take i, gone e = false) := by
  obtain ⟨r, h1, h2⟩ := Gf_ex (fs := fns) (f := 53) (xs := [.sl .ro l.length (rows DE.v l), .fn 49 []]) (Q := fun r => ∃ q : Int, r = (.int .i64 q, []) ∧ (q = -1 ∧ (∀ e ∈ l, gone e = false) ∨ ∃ i : Nat, q = (i : Int) ∧ i < l.length ∧ gone (gt l i) = true ∧ ∀ e ∈ l.take i, gone e = false)) rfl (by
    refine fnA_start rfl ?_
    simp -implicitDefEqProofs (disch := omega) only [go_sem, seval, go_sem]
    refine wp_loopS (ixS l) (fun i => l.length - i) 0 ⟨by omega, by simp -implicitDefEqProofs (disch := omega) only [go_sem, seval, go_sem], by simp -implicitDefEqProofs (disch := omega) only [go_sem, seval, go_sem], by simp -implicitDefEqProofs (disch := omega) only [go_sem, seval, go_sem], by simp -implicitDefEqProofs (disch := omega) only [go_sem, seval, go_sem], by simp⟩ ?_
    rintro i ⟨t, σ⟩ ⟨hi, h0, h1, h7, h8, ha⟩
    simp only at h0 h1 h7 h8
    simp -implicitDefEqProofs (disch := omega) only [go_sem, seval, lp53_0, h7, h8]
    refine condC_dec (fun hc => ?_) (fun hc => ?_)
    · have hE := T1_ok (gt l i)
      have rr := erow l i hc
      obtain ⟨q1, q2⟩ := eto l i hc
      have hst : gone (gt l i) = false → ∀ e ∈ l.take (i + 1), gone e = false := by
        intro hg e he
        rw [take_gt hc, List.mem_append, List.mem_singleton] at he
        rcases he with he | rfl
        · exact ha e he
        · exact hg
      have hfd : gone (gt l i) = true → ∃ q : Int, (V.int .i64 (i : Int), ([] : List V)) = (.int .i64 q, []) ∧ (q = -1 ∧ (∀ e ∈ l, gone e = false) ∨ ∃ i : Nat, q = (i : Int) ∧ i < l.length ∧ gone (gt l i) = true ∧ ∀ e ∈ l.take i, gone e = false) := fun hx => ⟨(i : Int), rfl, .inr ⟨i, rfl, hc, hx, ha⟩⟩
      generalize gt l i = g at *
      simp -implicitDefEqProofs (disch := omega) only [go_sem, seval, DE.v] at hE
      cases hx : gone g
      · rw [hx] at hE
        simp -implicitDefEqProofs (disch := omega) only [go_sem, seval, h0, h1, h8, rr, q1, q2, DE.v, callV_T at49, hE]
        exact ⟨i + 1, by omega, by omega, by simp -implicitDefEqProofs (disch := omega) only [go_sem, seval, h0], by simp -implicitDefEqProofs (disch := omega) only [go_sem, seval, h1], by simp -implicitDefEqProofs (disch := omega) only [go_sem, seval, h7], by simp -implicitDefEqProofs (disch := omega) only [go_sem, seval, go_sem], hst hx⟩
      · rw [hx] at hE
        simp -implicitDefEqProofs (disch := omega) only [go_sem, seval, h0, h1, h8, rr, q1, q2, DE.v, callV_T at49, hE]
        exact hfd hx
    · obtain rfl : i = l.length := by omega
      rw [take_all (Nat.le_refl _)] at ha
      simp -implicitDefEqProofs (disch := omega) only [go_sem, seval, go_sem]
      exact ⟨-1, rfl, .inl ⟨rfl, ha⟩⟩)
  obtain ⟨q, rfl, h3⟩ := h2
  exact ⟨q, h1, h3⟩
structure DL where
  j : Nat
  i : Nat
  C : List DE
def delS (l : List DE) (p : DL) (s : St) : Prop := p.i < p.j ∧ p.j ≤ l.length ∧ p.C.length = l.length ∧ p.C.take p.i = kept (l.take p.j) ∧ p.C.drop p.j = l.drop p.j ∧
  s.t 0 = .sli 0 1 0 l.length 6 ∧ s.t 1 = .fn 49 [] ∧ s.t 5 = .int .i64 (p.i : Int) ∧ s.t 6 = .int .i64 (p.j : Int) ∧ s.σ 0 = ⟨1, .rw, true, rows DE.v p.C⟩
theorem Del_ok (l : List DE) (hl : l.length ≤ 10000) : Gf fns 48 [.osl 6 l.length (rows DE.v l), .fn 49 []] = some (.osl 6 (kept l).length (rows DE.v (kept l)), []) := by
  obtain ⟨r, hr, hcase⟩ := Ix_ok l hl
  have hel := elen l
  refine Gf_start rfl rfl ?_
  rcases hcase with ⟨rfl, hn⟩ | ⟨i, rfl, hi, hg, hn⟩
  · rw [kept_no l hn]
    simp -implicitDefEqProofs (disch := omega) only [go_sem, seval, hr, hel, ero]
  · have hne : ¬ (i : Int) = -1 := by omega
    simp -implicitDefEqProofs (disch := omega) only [go_sem, seval, hr, hne, hel, ero]
    refine wp_loopS (delS l) (fun p => l.length - p.j) ⟨i + 1, i, l⟩ ⟨by simp only; omega, by simp only; omega, rfl, by simp only; rw [kept_succ l i hi, if_pos hg, kept_no _ hn], rfl, by simp -implicitDefEqProofs (disch := omega) only [go_sem, seval, go_sem], by simp -implicitDefEqProofs (disch := omega) only [go_sem, seval, go_sem], by simp -implicitDefEqProofs (disch := omega) only [go_sem, seval, go_sem], by simp -implicitDefEqProofs (disch := omega) only [go_sem, seval, go_sem], by simp -implicitDefEqProofs (disch := omega) only [go_sem, seval, go_sem]⟩ ?_
    rintro ⟨j, q, C⟩ ⟨t, σ⟩ ⟨hqj, hj, hC, ht, hd, h0, h1, h5, h6, s0⟩
    simp only at hqj hj hC ht hd h0 h1 h5 h6 s0
    have hCl := elen C
    rw [hC] at hCl
    simp -implicitDefEqProofs (disch := omega) only [go_sem, seval, lp48_0, h0, h6]
    refine condC_dec (fun hc => ?_) (fun hc => ?_)
    · have hgl : gt C j = gt l j := by
        have := congrArg (fun x => x[0]?) hd
        simp only [List.getElem?_drop, Nat.add_zero] at this
        rw [gt_eq hc, gt_eq (by omega)]
        rw [List.getElem?_eq_getElem (by omega), List.getElem?_eq_getElem hc] at this
        exact Option.some.inj this
      have hE := T1_ok (gt C j)
      have hs := kept_succ l j hc
      have rr := erow C j (by omega)
      have q2 : j * 6 + 6 ≤ l.length * 6 := by omega
      have q3 : q * 6 + 6 ≤ l.length * 6 := by omega
      have hput := e_put (l := C) (i := q) (by omega) (gt C j)
      have hnext : gone (gt C j) = false → (C.set q (gt C j)).take (q + 1) = kept (l.take (j + 1)) ∧ (C.set q (gt C j)).drop (j + 1) = l.drop (j + 1) := by
        intro hx
        constructor
        · rw [hs, if_neg (by rw [← hgl, hx]; simp), ← hgl, ← ht, List.take_succ_eq_append_getElem (by simp; omega), List.take_set_of_le (by omega)]
          simp
        · rw [List.drop_set_of_lt (by omega), ← List.drop_drop, hd, List.drop_drop]
      have hskip : gone (gt C j) = true → C.take q = kept (l.take (j + 1)) ∧ C.drop (j + 1) = l.drop (j + 1) := by
        intro hx
        constructor
        · rw [hs, if_pos (by rw [← hgl]; exact hx)]; exact ht
        · rw [← List.drop_drop, hd, List.drop_drop]
      have hsl : (C.set q (gt C j)).length = l.length := by simp [hC]
      clear hgl hs
      generalize gt C j = g at *
      generalize C.set q g = C2 at *
      simp -implicitDefEqProofs (disch := omega) only [go_sem, seval, DE.v] at hE hput
      cases hx : gone g
      · rw [hx] at hE
        simp -implicitDefEqProofs (disch := omega) only [go_sem, seval, h0, h1, h5, h6, s0, rr, hCl, q2, q3, hput, DE.v, callV_T at49, hE]
        exact ⟨⟨j + 1, q + 1, C2⟩, by simp only; omega, by simp only; omega, by simp only; omega, hsl, (hnext hx).1, (hnext hx).2, by simp -implicitDefEqProofs (disch := omega) only [go_sem, seval, h0], by simp -implicitDefEqProofs (disch := omega) only [go_sem, seval, h1], by simp -implicitDefEqProofs (disch := omega) only [go_sem, seval, go_sem], by simp -implicitDefEqProofs (disch := omega) only [go_sem, seval, go_sem], by simp -implicitDefEqProofs (disch := omega) only [go_sem, seval, s0]⟩
      · rw [hx] at hE
        simp -implicitDefEqProofs (disch := omega) only [go_sem, seval, h0, h1, h5, h6, s0, rr, hCl, q2, q3, DE.v, callV_T at49, hE]
        exact ⟨⟨j + 1, q, C⟩, by simp only; omega, by simp only; omega, by simp only; omega, hC, (hskip hx).1, (hskip hx).2, by simp -implicitDefEqProofs (disch := omega) only [go_sem, seval, h0], by simp -implicitDefEqProofs (disch := omega) only [go_sem, seval, h1], by simp -implicitDefEqProofs (disch := omega) only [go_sem, seval, h5], by simp -implicitDefEqProofs (disch := omega) only [go_sem, seval, go_sem], by simp -implicitDefEqProofs (disch := omega) only [go_sem, seval, s0]⟩
    · obtain rfl : j = l.length := by omega
      rw [take_all (Nat.le_refl _)] at ht
      have hlq : (kept l).length = q := by rw [← ht]; simp; omega
      have hrl : ((List.replicate (l.length - q) [V.str [], V.bool false, V.str [], V.bool false, V.str [], V.int .i64 0]).flatten).length = (l.length - q) * 6 := by simp
      have hspl : (splice (rows DE.v C) (q * 6) (List.replicate (l.length - q) [V.str [], V.bool false, V.str [], V.bool false, V.str [], V.int .i64 0]).flatten).length = l.length * 6 := by rw [splice_length _ _ _ (by omega), hCl]
      have htk : List.take (q * 6) (splice (rows DE.v C) (q * 6) (List.replicate (l.length - q) [V.str [], V.bool false, V.str [], V.bool false, V.str [], V.int .i64 0]).flatten) = rows DE.v (kept l) := by
        unfold splice
        rw [List.append_assoc, List.take_append_of_le_length (by simp; omega), List.take_take, Nat.min_self, ← ht, rows_take DE.v_len]
      simp -implicitDefEqProofs (disch := omega) only [go_sem, seval, h0, h5, s0, hspl, htk, hlq]
end Go.Vm.Ytclcadpmkkeaeaa
/- (seval) The disk, in the machine: all made sure; names; what is loose. -/
namespace Go.Vm
def nmP (l : List DE) (i : Nat) : List Tx := ((l.take i).filter (·.a)).map DE.n
theorem nmP_succ {l : List DE} {i : Nat} (h : i < l.length) : nmP l (i + 1) = if (gt l i).a = true then nmP l i ++ [(gt l i).n] else nmP l i := by
  unfold nmP
  rw [take_gt h, List.filter_append, List.map_append]
  cases hx : (gt l i).a <;> simp [hx]
theorem nmP_len (l : List DE) (i : Nat) : (nmP l i).length ≤ i := by
  unfold nmP
  have := List.length_filter_le (fun e : DE => e.a) (l.take i)
  simp at this ⊢
  omega
theorem nmP_all (l : List DE) : nmP l l.length = (nowL l).map DF.n := by
  unfold nmP nowL
  rw [List.take_length, List.map_map]
  rfl
def loC (l : List DE) (i : Nat) : Nat := ((l.take i).filter looE).length
theorem loC_succ {l : List DE} {i : Nat} (h : i < l.length) : loC l (i + 1) = if looE (gt l i) = true then loC l i + 1 else loC l i := by
  unfold loC
  rw [take_gt h, List.filter_append]
  cases hx : looE (gt l i) <;> simp [hx]
theorem loC_le (l : List DE) (i : Nat) : loC l i ≤ i := by
  unfold loC
  have := List.length_filter_le looE (l.take i)
  simp at this ⊢
  omega
end Go.Vm
namespace Go.Vm.Ytclcadpmkkeaeaa
open Go.Proofs
theorem Tidy_ok (l : List DE) (lim : Int) (ch : Nat) (hl : l.length ≤ 10000) : Gf fns 33 [.opt (dkv (.osl 6 l.length (rows DE.v l)) lim ch false)] = some (.tup [], [.opt (dkv (.osl 6 (kept l).length (rows DE.v (kept l))) lim ch false)]) := by
  have d := Del_ok l hl
  have hel := elen l
  have hek := elen (kept l)
  generalize kept l = K at *
  refine Gf_start rfl rfl ?_
  simp -implicitDefEqProofs (disch := omega) only [go_sem, seval, dkv, d, hel, hek, ero]
theorem Tidy_nil (lim : Int) (ch : Nat) : Gf fns 33 [.opt (dkv (.sl .nil 0 []) lim ch false)] = some (.tup [], [.opt (dkv (.sl .nil 0 []) lim ch false)]) := by
  have i : Gf fns 53 [.sl .nil 0 [], .fn 49 []] = some (.int .i64 (-1), []) := by
    refine Gf_start rfl rfl ?_
    simp -implicitDefEqProofs (disch := omega) only [go_sem, seval, ↓wp_unroll, lp53_0]
  have d : Gf fns 48 [.sl .nil 0 [], .fn 49 []] = some (.sl .nil 0 [], []) := by
    refine Gf_start rfl rfl ?_
    simp -implicitDefEqProofs (disch := omega) only [go_sem, seval, i]
  refine Gf_start rfl rfl ?_
  simp -implicitDefEqProofs (disch := omega) only [go_sem, seval, dkv, d]
def sS (l : List DE) (lim : Int) (ch : Nat) (i : Nat) (s : St) : Prop := i ≤ l.length ∧ s.t 0 = .ptr 0 1 0 ∧ s.σ 0 = ⟨1, .rw, false, dkv (.sli 1 1 0 l.length 6) lim ch false⟩ ∧ s.σ 1 = ⟨1, .rw, true, rows DE.v (syP l i)⟩ ∧ s.t 10 = .int .i64 (l.length : Int) ∧ s.t 11 = .int .i64 (i : Int)
theorem DSync_own (l : List DE) (lim : Int) (ch : Nat) (hl : l.length ≤ 10000) : Gf fns 8 [.opt (dkv (.osl 6 l.length (rows DE.v l)) lim ch false)] = some (.int .i64 0, [.opt (dkv (.osl 6 (syncL l).length (rows DE.v (syncL l))) lim ch false)]) := by
  have d := Dead_ok lim ch false (.sl .ro l.length (rows DE.v l))
  have hel := elen l
  simp -implicitDefEqProofs (disch := omega) only [go_sem, seval, dkv] at d
  refine Gf_start rfl rfl ?_
  simp -implicitDefEqProofs (disch := omega) only [go_sem, seval, dkv, hel, ero, d]
  refine wp_loopS (sS l lim ch) (fun i => l.length - i) 0 ⟨by omega, by simp -implicitDefEqProofs (disch := omega) only [go_sem, seval, go_sem], by simp -implicitDefEqProofs (disch := omega) only [go_sem, seval, dkv], by simp -implicitDefEqProofs (disch := omega) only [go_sem, seval, syP], by simp -implicitDefEqProofs (disch := omega) only [go_sem, seval, go_sem], by simp -implicitDefEqProofs (disch := omega) only [go_sem, seval, go_sem]⟩ ?_
  rintro i ⟨t, σ⟩ ⟨hi, h0, s0, s1, h10, h11⟩
  simp only at h0 s0 s1 h10 h11
  unfold dkv at s0
  have hel := elen (syP l i)
  have hsl := syP_len l i
  rw [hsl] at hel
  simp -implicitDefEqProofs (disch := omega) only [go_sem, seval, lp8_0, h10, h11]
  refine condC_dec (fun hc => ?_) (fun hc => ?_)
  · have ef := e_face (syP l i) i (by omega)
    have es := e_sync (l := syP l i) (i := i) (by omega)
    have hsp : (splice (rows DE.v (syP l i)) (i * 6 + 3) [.bool (gt (syP l i) i).a, .str (gt (syP l i) i).s]).length = l.length * 6 := by rw [splice_length _ _ _ (by simp; omega), hel]
    rw [syP_gt hc] at ef es hsp
    rw [← syP_succ hc] at es
    have q2 : i * 6 + 6 ≤ l.length * 6 := by omega
    generalize gt l i = g at *
    simp -implicitDefEqProofs (disch := omega) only [go_sem, seval, h0, h11]
    refine wp_draw_E ?_
    simp -implicitDefEqProofs (disch := omega) only [go_sem, seval, h0, s0, s1, h11, ef, hel, q2, hsp, es]
    exact ⟨i + 1, by omega, by omega, by simp -implicitDefEqProofs (disch := omega) only [go_sem, seval, h0], by simp -implicitDefEqProofs (disch := omega) only [go_sem, seval, s0, dkv], by simp -implicitDefEqProofs (disch := omega) only [go_sem, seval, s1], by simp -implicitDefEqProofs (disch := omega) only [go_sem, seval, h10], by simp -implicitDefEqProofs (disch := omega) only [go_sem, seval, go_sem]⟩
  · obtain rfl : i = l.length := by omega
    rw [syP_all] at s1 hel hsl
    have td := Tidy_ok (l.map syncE) lim ch (by omega)
    rw [kept_sync] at td
    have hek := elen (syncL l)
    generalize syncL l = K at *
    generalize l.map syncE = M at *
    rw [hsl] at td
    simp -implicitDefEqProofs (disch := omega) only [go_sem, seval, dkv] at td
    simp -implicitDefEqProofs (disch := omega) only [go_sem, seval, h0, s0, s1, hel, ero]
    simp -implicitDefEqProofs (disch := omega) only [go_sem, seval, callr33, s0, s1, td, hel, hek, ero]
theorem DSync_nil (lim : Int) (ch : Nat) : Gf fns 8 [.opt (dkv (.sl .nil 0 []) lim ch false)] = some (.int .i64 0, [.opt (dkv (.sl .nil 0 []) lim ch false)]) := by
  have d := Dead_ok lim ch false (.sl .nil 0 [])
  have td := Tidy_nil lim ch
  simp -implicitDefEqProofs (disch := omega) only [go_sem, seval, dkv] at d td
  refine Gf_start rfl rfl ?_
  simp -implicitDefEqProofs (disch := omega) only [go_sem, seval, dkv, d, ↓wp_unroll, lp8_0]
  simp -implicitDefEqProofs (disch := omega) only [go_sem, seval, callr33, td]
def nS (k : SK) (l : List DE) (i : Nat) (s : St) : Prop := i ≤ l.length ∧ s.t 11 = .sl k l.length (rows DE.v l) ∧ s.t 12 = .int .i64 (l.length : Int) ∧ s.t 13 = .int .i64 (i : Int) ∧
  ((nmP l i = [] ∧ s.t 3 = .sl .nil 0 []) ∨ ∃ gq, s.t 3 = .sli 1600 gq 0 (nmP l i).length 1 ∧ s.σ 1600 = ⟨gq, .rw, true, (nmP l i).map V.str⟩)
theorem Names_ok (k : SK) (l : List DE) (lim : Int) (ch : Nat) (off : Bool) (hl : l.length ≤ 10000) : Gf fns 27 [.pt (dkv (.sl k l.length (rows DE.v l)) lim ch off) 0] = some (.osl 1 (nowL l).length (((nowL l).map DF.n).map V.str), []) ∨ nowL l = [] ∧ Gf fns 27 [.pt (dkv (.sl k l.length (rows DE.v l)) lim ch off) 0] = some (.sl .nil 0 [], []) := by
  obtain ⟨r, h1, h2⟩ := Gf_ex (fs := fns) (f := 27) (xs := [.pt (dkv (.sl k l.length (rows DE.v l)) lim ch off) 0]) (Q := fun r => r = (.osl 1 (nowL l).length (((nowL l).map DF.n).map V.str), []) ∨ nowL l = [] ∧ r = (.sl .nil 0 [], [])) rfl (by
    refine fnA_start rfl ?_
    simp -implicitDefEqProofs (disch := omega) only [go_sem, seval, dkv]
    refine wp_loopS (nS k l) (fun i => l.length - i) 0 ⟨by omega, by simp -implicitDefEqProofs (disch := omega) only [go_sem, seval, go_sem], by simp -implicitDefEqProofs (disch := omega) only [go_sem, seval, go_sem], by simp -implicitDefEqProofs (disch := omega) only [go_sem, seval, go_sem], .inl ⟨rfl, by simp -implicitDefEqProofs (disch := omega) only [go_sem, seval, go_sem]⟩⟩ ?_
    rintro i ⟨t, σ⟩ ⟨hi, h11, h12, h13, h3⟩
    simp only at h11 h12 h13 h3
    simp -implicitDefEqProofs (disch := omega) only [go_sem, seval, lp27_0, h12, h13]
    refine condC_dec (fun hc => ?_) (fun hc => ?_)
    · have rr := erow l i hc
      obtain ⟨q1, q2⟩ := eto l i hc
      have hn := nmP_succ hc
      have hln := nmP_len l i
      have hll : ((nmP l i).map V.str).length = (nmP l i).length := List.length_map _
      cases hx : (gt l i).a
      · rw [if_neg (by rw [hx]; simp)] at hn
        generalize gt l i = g at *
        simp -implicitDefEqProofs (disch := omega) only [go_sem, seval, h11, h12, h13, rr, q1, q2, DE.v, hx]
        refine ⟨i + 1, by omega, by omega, by simp -implicitDefEqProofs (disch := omega) only [go_sem, seval, h11], by simp -implicitDefEqProofs (disch := omega) only [go_sem, seval, h12], by simp -implicitDefEqProofs (disch := omega) only [go_sem, seval, go_sem], ?_⟩
        rw [hn]
        rcases h3 with ⟨e, h3⟩ | ⟨gq, h3, s3⟩
        · exact .inl ⟨e, by simp -implicitDefEqProofs (disch := omega) only [go_sem, seval, h3]⟩
        · exact .inr ⟨gq, by simp -implicitDefEqProofs (disch := omega) only [go_sem, seval, h3], by simp -implicitDefEqProofs (disch := omega) only [go_sem, seval, s3]⟩
      · rw [if_pos hx] at hn
        generalize gt l i = g at *
        rcases h3 with ⟨e, h3⟩ | ⟨gq, h3, s3⟩
        · rw [e, List.nil_append] at hn
          simp -implicitDefEqProofs (disch := omega) only [go_sem, seval, h11, h12, h13, h3, rr, q1, q2, DE.v, hx]
          exact ⟨i + 1, by omega, by omega, by simp -implicitDefEqProofs (disch := omega) only [go_sem, seval, h11], by simp -implicitDefEqProofs (disch := omega) only [go_sem, seval, h12], by simp -implicitDefEqProofs (disch := omega) only [go_sem, seval, go_sem], .inr ⟨(σ 1600).gen + 1, by simp -implicitDefEqProofs (disch := omega) only [go_sem, seval, hn], by simp -implicitDefEqProofs (disch := omega) only [go_sem, seval, hn]⟩⟩
        · generalize nmP l i = O at *
          simp -implicitDefEqProofs (disch := omega) only [go_sem, seval, h11, h12, h13, h3, s3, rr, q1, q2, DE.v, hx, hll]
          exact ⟨i + 1, by omega, by omega, by simp -implicitDefEqProofs (disch := omega) only [go_sem, seval, h11], by simp -implicitDefEqProofs (disch := omega) only [go_sem, seval, h12], by simp -implicitDefEqProofs (disch := omega) only [go_sem, seval, go_sem], .inr ⟨gq + 1, by simp -implicitDefEqProofs (disch := omega) only [go_sem, seval, hn], by simp -implicitDefEqProofs (disch := omega) only [go_sem, seval, hn]⟩⟩
    · obtain rfl : i = l.length := by omega
      rw [nmP_all] at h3
      rcases h3 with ⟨e, h3⟩ | ⟨gq, h3, s3⟩
      · simp -implicitDefEqProofs (disch := omega) only [go_sem, seval, h3]
        exact .inr (by simpa using e)
      · have hll : (((nowL l).map DF.n).map V.str).length = (nowL l).length := by simp
        rw [List.length_map] at h3
        generalize (nowL l).map DF.n = O at *
        simp -implicitDefEqProofs (disch := omega) only [go_sem, seval, h3, s3, hll])
  rcases h2 with rfl | ⟨e, rfl⟩
  · exact .inl h1
  · exact .inr ⟨e, h1⟩
def lS (k : SK) (l : List DE) (i : Nat) (s : St) : Prop := i ≤ l.length ∧ s.t 11 = .sl k l.length (rows DE.v l) ∧ s.t 12 = .int .i64 (l.length : Int) ∧ s.t 13 = .int .i64 (i : Int) ∧ s.t 3 = .int .i64 (loC l i : Int)
theorem DLoose_ok (k : SK) (l : List DE) (lim : Int) (ch : Nat) (off : Bool) (hl : l.length ≤ 10000) : Gf fns 29 [.pt (dkv (.sl k l.length (rows DE.v l)) lim ch off) 0] = some (.int .i64 ((l.filter looE).length : Int), []) := by
  refine Gf_start rfl rfl ?_
  simp -implicitDefEqProofs (disch := omega) only [go_sem, seval, dkv]
  refine wp_loopS (lS k l) (fun i => l.length - i) 0 ⟨by omega, by simp -implicitDefEqProofs (disch := omega) only [go_sem, seval, go_sem], by simp -implicitDefEqProofs (disch := omega) only [go_sem, seval, go_sem], by simp -implicitDefEqProofs (disch := omega) only [go_sem, seval, go_sem], by simp -implicitDefEqProofs (disch := omega) only [go_sem, seval, loC]; rfl⟩ ?_
  rintro i ⟨t, σ⟩ ⟨hi, h11, h12, h13, h3⟩
  simp only at h11 h12 h13 h3
  simp -implicitDefEqProofs (disch := omega) only [go_sem, seval, lp29_0, h12, h13]
  refine condC_dec (fun hc => ?_) (fun hc => ?_)
  · have rr := erow l i hc
    obtain ⟨q1, q2⟩ := eto l i hc
    have hn := loC_succ hc
    have hln := loC_le l i
    generalize gt l i = g at *
    obtain ⟨gn, ga, gs, gb, gs2, gh⟩ := g
    generalize loC l i = C at *
    by_cases e1 : ga = gb
    · subst e1
      by_cases e2 : gs = gs2
      · rw [if_neg (by simp [looE, e2])] at hn
        simp -implicitDefEqProofs (disch := omega) only [go_sem, seval, h11, h12, h13, h3, rr, q1, q2, DE.v, e2]
        exact ⟨i + 1, by omega, by omega, by simp -implicitDefEqProofs (disch := omega) only [go_sem, seval, h11], by simp -implicitDefEqProofs (disch := omega) only [go_sem, seval, h12], by simp -implicitDefEqProofs (disch := omega) only [go_sem, seval, go_sem], by simp -implicitDefEqProofs (disch := omega) only [go_sem, seval, h3, hn]⟩
      · rw [if_pos (by simp [looE, e2])] at hn
        simp -implicitDefEqProofs (disch := omega) only [go_sem, seval, h11, h12, h13, h3, rr, q1, q2, DE.v, e2]
        exact ⟨i + 1, by omega, by omega, by simp -implicitDefEqProofs (disch := omega) only [go_sem, seval, h11], by simp -implicitDefEqProofs (disch := omega) only [go_sem, seval, h12], by simp -implicitDefEqProofs (disch := omega) only [go_sem, seval, go_sem], by simp -implicitDefEqProofs (disch := omega) only [go_sem, seval, hn]⟩
    · rw [if_pos (by simp [looE, e1])] at hn
      simp -implicitDefEqProofs (disch := omega) only [go_sem, seval, h11, h12, h13, h3, rr, q1, q2, DE.v, e1]
      exact ⟨i + 1, by omega, by omega, by simp -implicitDefEqProofs (disch := omega) only [go_sem, seval, h11], by simp -implicitDefEqProofs (disch := omega) only [go_sem, seval, h12], by simp -implicitDefEqProofs (disch := omega) only [go_sem, seval, go_sem], by simp -implicitDefEqProofs (disch := omega) only [go_sem, seval, hn]⟩
  · obtain rfl : i = l.length := by omega
    unfold loC at h3
    rw [take_all (Nat.le_refl _)] at h3
    simp -implicitDefEqProofs (disch := omega) only [go_sem, seval, h3]
theorem Read_ok (k : SK) (l : List DE) (lim : Int) (ch : Nat) (x : Tx) (hs : Srt DE.n l) (hl : l.length ≤ 10000) (hx : x.length ≤ 140737488355328) : Gf fns 13 [.pt (dkv (.sl k l.length (rows DE.v l)) lim ch false) 0, .str x] = some (.tup [.str (if opC l x true = 0 then faceS l x else []), .int .i64 (opC l x true)], []) := by
  have o := Open_ok k l lim ch x true hs hl hx
  generalize (if opC l x true = 0 then faceS l x else []) = S at *
  generalize (decide (opC l x true = 0) && faceA l x) = A at *
  generalize opC l x true = q at *
  simp -implicitDefEqProofs (disch := omega) only [go_sem, seval, dkv] at o
  refine Gf_start rfl rfl ?_
  simp -implicitDefEqProofs (disch := omega) only [go_sem, seval, dkv, o]
theorem Changes_ok (lv : V) (lim : Int) (ch : Nat) (off : Bool) : Gf fns 28 [.pt (dkv lv lim ch off) 0] = some (.int .i64 (ch : Int), []) := by
  refine Gf_start rfl rfl ?_
  simp -implicitDefEqProofs (disch := omega) only [go_sem, seval, dkv]
theorem Room_ok {lv : V} {l : List DE} (ho : OwL lv l) (lim n : Int) (ch : Nat) : Gf fns 18 [.opt (dkv lv lim ch false), .int .i64 n] = some (.tup [], [.opt (dkv lv n ch false)]) := by
  have hel := elen l
  rcases ho with rfl | ⟨rfl, rfl⟩
  · refine Gf_start rfl rfl ?_
    simp -implicitDefEqProofs (disch := omega) only [go_sem, seval, dkv, hel, ero]
  · refine Gf_start rfl rfl ?_
    simp -implicitDefEqProofs (disch := omega) only [go_sem, seval, dkv]
theorem New_ok : Gf fns 20 [] = some (.opt (dkv (.sl .nil 0 []) (-1) 0 false), []) := by
  refine Gf_start rfl rfl ?_
  simp -implicitDefEqProofs (disch := omega) only [go_sem, seval, dkv]
end Go.Vm.Ytclcadpmkkeaeaa
