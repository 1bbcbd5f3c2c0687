/- (seval) Files of the document, in the machine. -/
import Derived.Test.YtclcadpmkkeaeaaDkP
import Derived.Test.YtclcadpmkkeaeaaIr
set_option linter.unusedSectionVars false
set_option linter.unusedSimpArgs false
set_option linter.unusedVariables false
set_option maxHeartbeats 1000000
set_option maxRecDepth 10000
namespace Go.Vm
theorem DF.v_len (f : DF) : f.v.length = 3 := rfl
theorem flen (l : List DF) : (rows DF.v l).length = l.length * 3 := rows_length DF.v_len l
theorem frow (l : List DF) (i : Nat) (h : i < l.length) : ((rows DF.v l).drop (i * 3)).take 3 = (gt l i).v := rows_row DF.v_len h
theorem fcell0 (l : List DF) (i : Nat) (h : i < l.length) : (rows DF.v l)[i * 3]? = some (.str (gt l i).n) := rows_at (j := 0) DF.v_len h (by omega)
theorem fcell1 (l : List DF) (i : Nat) (h : i < l.length) : (rows DF.v l)[i * 3 + 1]? = some (.str (gt l i).s) := rows_at (j := 1) DF.v_len h (by omega)
theorem fto (l : List DF) (i : Nat) (h : i < l.length) : (rows DF.v l).length = l.length * 3 ∧ i * 3 + 3 ≤ l.length * 3 := ⟨flen l, by omega⟩
theorem fro {d : Nat} (l : List DF) : (rows DF.v l).any (hasRo (d + 1)) = false := by
  induction l with
  | nil => rfl
  | cons a l ih => rw [rows_cons, List.any_append, ih]; simp [DF.v, hasRo]
def fD (o : Option DF) : DF := o.getD ⟨[], [], false⟩
theorem fD_some (g : DF) : fD (some g) = g := rfl
theorem fD_none : fD none = ⟨[], [], false⟩ := rfl
theorem fnd_snoc {α : Type} [Inhabited α] {key : α → Tx} {l : List α} {x : Tx} {i : Nat} (hi : i < l.length) (h : fnd key (l.take i) x = none) : fnd key (l.take (i + 1)) x = if key (gt l i) = x then some (gt l i) else none := by
  unfold fnd at *
  rw [take_gt hi, List.find?_append, h]
  by_cases hx : key (gt l i) = x <;> simp [hx]
theorem fnd_at {α : Type} [Inhabited α] {key : α → Tx} {l : List α} {x : Tx} {i : Nat} (hi : i < l.length) (h : fnd key (l.take i) x = none) (hx : key (gt l i) = x) : fnd key l x = some (gt l i) := by
  have h1 := fnd_snoc hi h
  rw [if_pos hx] at h1
  unfold fnd at *
  have e : l.find? (fun e => decide (key e = x)) = (l.take (i + 1) ++ l.drop (i + 1)).find? (fun e => decide (key e = x)) := by rw [List.take_append_drop]
  rw [e, List.find?_append, h1]
  rfl
theorem wo_succ (l : List DF) (x : Tx) (i : Nat) (hi : i < l.length) : woF (l.take (i + 1)) x = if (gt l i).n = x then woF (l.take i) x else woF (l.take i) x ++ [gt l i] := by
  unfold woF
  rw [take_gt hi, List.filter_append]
  by_cases h : (gt l i).n = x <;> simp [h]
theorem wo_len (l : List DF) (x : Tx) : (woF l x).length ≤ l.length := List.length_filter_le _ _
theorem with_len (l : List DF) (f : DF) : (withF l f).length ≤ l.length + 1 := by
  unfold withF
  have h1 := wo_len l f.n
  simp
  omega
/-- What stands behind so many steps of putting one in its place. -/
def wiO (r : List DF) (f : DF) (i : Nat) : List DF := if i ≤ pos DF.n r f.n then r.take i else (r.take (pos DF.n r f.n) ++ f :: r.drop (pos DF.n r f.n)).take (i + 1)
theorem ins_take {α : Type} [Inhabited α] (r : List α) (f : α) (P i : Nat) (hP : P ≤ i) (hi : i < r.length) : (r.take P ++ f :: r.drop P).take (i + 2) = (r.take P ++ f :: r.drop P).take (i + 1) ++ [gt r i] := by
  have hl : (r.take P ++ f :: r.drop P).length = r.length + 1 := by simp; omega
  rw [List.take_succ_eq_append_getElem (by omega : i + 1 < _)]
  congr 2
  apply Option.some.inj
  rw [← List.getElem?_eq_getElem, gt_eq hi, ← List.getElem?_eq_getElem, List.getElem?_append_right (by simp; omega)]
  have e : i + 1 - (r.take P).length = (i - P) + 1 := by simp; omega
  rw [e, List.getElem?_cons_succ, List.getElem?_drop]
  congr 1
  omega
theorem wiO_lt {r : List DF} {f : DF} {i : Nat} (h : i < pos DF.n r f.n) (hi : i < r.length) : wiO r f (i + 1) = wiO r f i ++ [gt r i] := by
  unfold wiO
  rw [if_pos (by omega), if_pos (by omega), take_gt hi]
theorem wiO_eq {r : List DF} {f : DF} {i : Nat} (h : i = pos DF.n r f.n) (hi : i < r.length) : wiO r f (i + 1) = wiO r f i ++ [f] ++ [gt r i] := by
  unfold wiO
  rw [if_neg (by omega), if_pos (by omega), ins_take r f _ i (by omega) hi, ← h]
  congr 1
  have hl : (r.take i).length = i := by simp; omega
  rw [List.take_append, hl, List.take_of_length_le (by omega), show i + 1 - i = 1 by omega]
  rfl
theorem wiO_gt {r : List DF} {f : DF} {i : Nat} (h : pos DF.n r f.n < i) (hi : i < r.length) : wiO r f (i + 1) = wiO r f i ++ [gt r i] := by
  unfold wiO
  rw [if_neg (by omega), if_neg (by omega), ins_take r f _ i (by omega) hi]
theorem wiO_end {r : List DF} {f : DF} (h : pos DF.n r f.n < r.length) : wiO r f r.length = r.take (pos DF.n r f.n) ++ f :: r.drop (pos DF.n r f.n) := by
  unfold wiO
  rw [if_neg (by omega), List.take_of_length_le (by simp; omega)]
theorem wiO_end2 {r : List DF} {f : DF} (h : pos DF.n r f.n = r.length) : wiO r f r.length = r ∧ r ++ [f] = r.take (pos DF.n r f.n) ++ f :: r.drop (pos DF.n r f.n) := by
  unfold wiO
  rw [if_pos (by omega), h]
  simp
theorem wiO_len (r : List DF) (f : DF) (i : Nat) : (wiO r f i).length ≤ i + 1 := by
  unfold wiO
  split <;> simp <;> omega
end Go.Vm
namespace Go.Vm.Ytclcadpmkkeaeaa
open Go.Proofs
def fiS (k : SK) (l : List DF) (x : Tx) (i : Nat) (s : St) : Prop := i ≤ l.length ∧ s.t 0 = .sl k l.length (rows DF.v l) ∧ s.t 1 = .str x ∧ s.t 4 = .ptr 320 1 0 ∧ s.σ 320 = ⟨1, .rw, false, [.str [], .str [], .bool false]⟩ ∧ s.t 6 = .int .i64 (i : Int) ∧ fnd DF.n (l.take i) x = none
theorem Find_ok (k : SK) (l : List DF) (x : Tx) (hl : l.length ≤ 10000) : Gf fns 14 [.sl k l.length (rows DF.v l), .str x] = some (.tup [.agg (fD (fnd DF.n l x)).v, .bool (fnd DF.n l x).isSome], []) := by
  refine Gf_start rfl rfl ?_
  simp -implicitDefEqProofs (disch := omega) only [go_sem, seval, go_sem]
  refine wp_loopS (fiS k l x) (fun i => l.length - i) 0 ⟨by omega, by simp -implicitDefEqProofs (disch := omega) only [go_sem, seval, go_sem], by simp -implicitDefEqProofs (disch := omega) only [go_sem, seval, go_sem], by simp -implicitDefEqProofs (disch := omega) only [go_sem, seval, go_sem], by simp -implicitDefEqProofs (disch := omega) only [go_sem, seval, go_sem], by simp -implicitDefEqProofs (disch := omega) only [go_sem, seval, go_sem], rfl⟩ ?_
  rintro i ⟨t, σ⟩ ⟨hi, h0, h1, h4, s4, h6, ha⟩
  simp only at h0 h1 h4 s4 h6
  simp -implicitDefEqProofs (disch := omega) only [go_sem, seval, lp14_0, h0, h6]
  refine condC_dec (fun hc => ?_) (fun hc => ?_)
  · have r := frow l i hc
    have c0 := fcell0 l i hc
    obtain ⟨q1, q2⟩ := fto l i hc
    by_cases hx : (gt l i).n = x
    · have e := fnd_at hc ha hx
      rw [e]
      generalize gt l i = g at *
      simp -implicitDefEqProofs (disch := omega) only [go_sem, seval, h0, h1, h4, s4, h6, c0, r, q1, q2, hx, DF.v, fD_some, Option.isSome_some]
    · have e := fnd_snoc hc ha
      rw [if_neg hx] at e
      generalize gt l i = g at *
      simp -implicitDefEqProofs (disch := omega) only [go_sem, seval, h0, h1, h4, s4, h6, c0, r, q1, q2, hx]
      exact ⟨i + 1, by omega, by omega, by simp -implicitDefEqProofs (disch := omega) only [go_sem, seval, h0], by simp -implicitDefEqProofs (disch := omega) only [go_sem, seval, h1], by simp -implicitDefEqProofs (disch := omega) only [go_sem, seval, h4], by simp -implicitDefEqProofs (disch := omega) only [go_sem, seval, s4], by simp -implicitDefEqProofs (disch := omega) only [go_sem, seval, go_sem], e⟩
  · obtain rfl : i = l.length := by omega
    rw [take_all (Nat.le_refl _)] at ha
    rw [ha]
    simp -implicitDefEqProofs (disch := omega) only [go_sem, seval, h4, s4, DF.v, fD_none, Option.isSome_none]
def woS (k : SK) (l : List DF) (x : Tx) (i : Nat) (s : St) : Prop := i ≤ l.length ∧ s.t 0 = .sl k l.length (rows DF.v l) ∧ s.t 1 = .str x ∧ s.t 6 = .int .i64 (i : Int) ∧ ∃ q gq, q ∈ [512, 1792] ∧ s.t 5 = .sli q gq 0 (woF (l.take i) x).length 3 ∧ s.σ q = ⟨gq, .rw, true, rows DF.v (woF (l.take i) x)⟩
theorem Wo_ok (k : SK) (l : List DF) (x : Tx) (hl : l.length ≤ 10000) : Gf fns 45 [.sl k l.length (rows DF.v l), .str x] = some (.osl 3 (woF l x).length (rows DF.v (woF l x)), []) := by
  refine Gf_start rfl rfl ?_
  simp -implicitDefEqProofs (disch := omega) only [go_sem, seval, go_sem]
  refine wp_loopS (woS k l x) (fun i => l.length - i) 0 ⟨by omega, by simp -implicitDefEqProofs (disch := omega) only [go_sem, seval, go_sem], by simp -implicitDefEqProofs (disch := omega) only [go_sem, seval, go_sem], by simp -implicitDefEqProofs (disch := omega) only [go_sem, seval, go_sem], 512, 1, by simp, by simp -implicitDefEqProofs (disch := omega) only [go_sem, seval, woF]; rfl, by simp -implicitDefEqProofs (disch := omega) only [go_sem, seval, woF]; rfl⟩ ?_
  rintro i ⟨t, σ⟩ ⟨hi, h0, h1, h6, q, gq, hq, h5, sq⟩
  simp only at h0 h1 h6 h5 sq
  have hq0 : (q == 1728) = false := beq_no (by simp at hq; omega)
  simp -implicitDefEqProofs (disch := omega) only [go_sem, seval, lp45_0, h0, h6]
  refine condC_dec (fun hc => ?_) (fun hc => ?_)
  · have r := frow l i hc
    have c0 := fcell0 l i hc
    obtain ⟨q1, q2⟩ := fto l i hc
    have hw := wo_succ l x i hc
    have hwl := wo_len (l.take i) x
    have hwr := flen (woF (l.take i) x)
    rw [List.length_take] at hwl
    by_cases hx : (gt l i).n = x
    · rw [if_pos hx] at hw
      generalize gt l i = g at *
      generalize woF (l.take i) x = W at *
      simp -implicitDefEqProofs (disch := omega) only [go_sem, seval, h0, h1, h6, c0, r, q1, q2, hx]
      exact ⟨i + 1, by omega, by omega, by simp -implicitDefEqProofs (disch := omega) only [go_sem, seval, h0], by simp -implicitDefEqProofs (disch := omega) only [go_sem, seval, h1], by simp -implicitDefEqProofs (disch := omega) only [go_sem, seval, go_sem], q, gq, hq, by simp -implicitDefEqProofs (disch := omega) only [go_sem, seval, h5, hw], by simp -implicitDefEqProofs (disch := omega) only [go_sem, seval, sq, hw]⟩
    · rw [if_neg hx] at hw
      generalize gt l i = g at *
      generalize woF (l.take i) x = W at *
      simp -implicitDefEqProofs (disch := omega) only [go_sem, seval, h0, h1, h5, sq, hq0, h6, c0, r, q1, q2, hx, DF.v, hwr]
      exact ⟨i + 1, by omega, by omega, by simp -implicitDefEqProofs (disch := omega) only [go_sem, seval, h0], by simp -implicitDefEqProofs (disch := omega) only [go_sem, seval, h1], by simp -implicitDefEqProofs (disch := omega) only [go_sem, seval, go_sem], 1792, (σ 1792).gen + 1, by simp, by simp -implicitDefEqProofs (disch := omega) only [go_sem, seval, hw], by simp -implicitDefEqProofs (disch := omega) only [go_sem, seval, hw]; simp [rows, DF.v]⟩
  · obtain rfl : i = l.length := by omega
    rw [take_all (Nat.le_refl _)] at h5 sq
    have hwr := flen (woF l x)
    generalize woF l x = W at *
    simp -implicitDefEqProofs (disch := omega) only [go_sem, seval, h5, sq, hwr]
/-- What stands behind so many steps of putting one in its place. -/
def wiS (r : List DF) (f : DF) (i : Nat) (s : St) : Prop := i ≤ r.length ∧ s.t 3 = .ptr 256 1 0 ∧ s.σ 256 = ⟨1, .rw, false, [.str f.n, .str f.s, .bool f.p]⟩ ∧ s.t 7 = .sli 896 1 0 r.length 3 ∧ s.σ 896 = ⟨1, .rw, true, rows DF.v r⟩ ∧ s.t 8 = .int .i64 (i : Int) ∧ s.t 6 = .bool (decide (pos DF.n r f.n < i)) ∧
  ∃ q gq, q ∈ [640, 2752] ∧ s.t 5 = .sli q gq 0 (wiO r f i).length 3 ∧ s.σ q = ⟨gq, .rw, true, rows DF.v (wiO r f i)⟩
theorem With_ok (k : SK) (l : List DF) (f : DF) (hs : Srt DF.n l) (hl : l.length ≤ 10000) : Gf fns 34 [.sl k l.length (rows DF.v l), .agg f.v] = some (.osl 3 (withF l f).length (rows DF.v (withF l f)), []) := by
  have hw := Wo_ok k l f.n hl
  have hwl := wo_len l f.n
  have hsw := srt_wo hs f.n
  have hne : ∀ g ∈ woF l f.n, g.n ≠ f.n := fun g hg => (mem_wo.1 hg).2
  unfold withF
  generalize woF l f.n = r at *
  have hr := flen r
  have hp1 := pos_take (key := DF.n) r f.n
  have hp2 := hsw.pos_drop f.n
  have hpl := pos_le (key := DF.n) r f.n
  obtain ⟨R, hR⟩ : ∃ R, R = r.take (pos DF.n r f.n) ++ f :: r.drop (pos DF.n r f.n) := ⟨_, rfl⟩
  rw [← hR]
  refine Gf_start rfl rfl ?_
  simp -implicitDefEqProofs (disch := omega) only [go_sem, seval, DF.v, hw, hr, fro]
  refine wp_loopS (wiS r f) (fun i => r.length - i) 0 ⟨by omega, by simp -implicitDefEqProofs (disch := omega) only [go_sem, seval, go_sem], by simp -implicitDefEqProofs (disch := omega) only [go_sem, seval, go_sem], by simp -implicitDefEqProofs (disch := omega) only [go_sem, seval, go_sem], by simp -implicitDefEqProofs (disch := omega) only [go_sem, seval, go_sem], by simp -implicitDefEqProofs (disch := omega) only [go_sem, seval, go_sem], by simp -implicitDefEqProofs (disch := omega) only [go_sem, seval, go_sem], 640, 1, by simp, by simp -implicitDefEqProofs (disch := omega) only [go_sem, seval, wiO], by simp -implicitDefEqProofs (disch := omega) only [go_sem, seval, wiO]; rfl⟩ ?_
  rintro i ⟨t, σ⟩ ⟨hi, h3, s3, h7, s7, h8, h6, q, gq, hq, h5, sq⟩
  simp only at h3 s3 h7 s7 h8 h6 h5 sq
  have hq0 : (q == 2240) = false := beq_no (by simp at hq; omega)
  have hq1 : (q == 2304) = false := beq_no (by simp at hq; omega)
  have hq2 : (q == 2688) = false := beq_no (by simp at hq; omega)
  have hq3 : (q == 3072) = false := beq_no (by simp at hq; omega)
  have hq4 : (q == 3136) = false := beq_no (by simp at hq; omega)
  have hq5 : (896 == q) = false := beq_no (by simp at hq; omega)
  have hq6 : (256 == q) = false := beq_no (by simp at hq; omega)
  have hol := wiO_len r f i
  have hor := flen (wiO r f i)
  simp -implicitDefEqProofs (disch := omega) only [go_sem, seval, lp34_0, h7, h8]
  refine condC_dec (fun hc => ?_) (fun hc => ?_)
  · have rr := frow r i hc
    have c0 := fcell0 r i hc
    obtain ⟨q1, q2⟩ := fto r i hc
    have hx : ¬ (gt r i).n = f.n := hne _ (by rw [gt_eq hc]; exact List.getElem_mem hc)
    have hmt : i < pos DF.n r f.n → tl (gt r i).n f.n = true := fun h => hp1 _ (by rw [gt_eq hc]; exact List.mem_take_iff_getElem.2 ⟨i, by omega, rfl⟩)
    have hmd : pos DF.n r f.n ≤ i → tl (gt r i).n f.n = false := fun h => hp2 _ (by rw [gt_eq hc]; exact List.mem_drop_iff_getElem.2 ⟨i - pos DF.n r f.n, by omega, by congr 1; omega⟩)
    have A := fun h => wiO_lt (r := r) (f := f) (i := i) h hc
    have B := fun h => wiO_eq (r := r) (f := f) (i := i) h hc
    have C := fun h => wiO_gt (r := r) (f := f) (i := i) h hc
    generalize gt r i = g at *
    generalize wiO r f i = O at *
    rcases Nat.lt_trichotomy i (pos DF.n r f.n) with hp | hp | hp
    · have a := A hp
      have m := hmt hp
      have e1 : ¬ pos DF.n r f.n < i := by omega
      have e2 : ¬ pos DF.n r f.n < i + 1 := by omega
      simp -implicitDefEqProofs (disch := omega) only [go_sem, seval, h3, s3, h7, s7, h8, h6, h5, sq, e1]
      refine wp_draw_E ?_
      simp -implicitDefEqProofs (disch := omega) only [go_sem, seval, h3, s3, h7, s7, h8, h6, h5, sq, c0, rr, q1, q2, hx, m, e1, hq0, hq1, hq2, hq5, hq6, hor, DF.v]
      exact ⟨i + 1, by omega, by omega, by simp -implicitDefEqProofs (disch := omega) only [go_sem, seval, h3], by simp -implicitDefEqProofs (disch := omega) only [go_sem, seval, s3, hq6], by simp -implicitDefEqProofs (disch := omega) only [go_sem, seval, h7], by simp -implicitDefEqProofs (disch := omega) only [go_sem, seval, s7, hq5], by simp -implicitDefEqProofs (disch := omega) only [go_sem, seval, go_sem], by simp -implicitDefEqProofs (disch := omega) only [go_sem, seval, h6, e1, e2], 2752, (σ 2752).gen + 1, by simp, by simp -implicitDefEqProofs (disch := omega) only [go_sem, seval, a], by simp -implicitDefEqProofs (disch := omega) only [go_sem, seval, a]; simp [rows, DF.v]⟩
    · have a := B hp
      have m := hmd (by omega)
      have e1 : ¬ pos DF.n r f.n < i := by omega
      have e2 : pos DF.n r f.n < i + 1 := by omega
      simp -implicitDefEqProofs (disch := omega) only [go_sem, seval, h3, s3, h7, s7, h8, h6, h5, sq, e1]
      refine wp_draw_E ?_
      simp -implicitDefEqProofs (disch := omega) only [go_sem, seval, h3, s3, h7, s7, h8, h6, h5, sq, c0, rr, q1, q2, hx, m, e1, hq0, hq1, hq2, hq5, hq6, hor, DF.v]
      exact ⟨i + 1, by omega, by omega, by simp -implicitDefEqProofs (disch := omega) only [go_sem, seval, h3], by simp -implicitDefEqProofs (disch := omega) only [go_sem, seval, s3, hq6], by simp -implicitDefEqProofs (disch := omega) only [go_sem, seval, h7], by simp -implicitDefEqProofs (disch := omega) only [go_sem, seval, s7, hq5], by simp -implicitDefEqProofs (disch := omega) only [go_sem, seval, go_sem], by simp -implicitDefEqProofs (disch := omega) only [go_sem, seval, h6, e1, e2], 2752, _, by simp, by simp -implicitDefEqProofs (disch := omega) only [go_sem, seval, a]; rfl, by simp -implicitDefEqProofs (disch := omega) only [go_sem, seval, a]; rw [List.take_of_length_le (by simp [hor]; omega)]; simp [rows, DF.v]⟩
    · have a := C hp
      have m := hmd (by omega)
      have e1 : pos DF.n r f.n < i := by omega
      have e2 : pos DF.n r f.n < i + 1 := by omega
      simp -implicitDefEqProofs (disch := omega) only [go_sem, seval, h3, s3, h7, s7, h8, h6, h5, sq, e1]
      refine wp_draw_E ?_
      simp -implicitDefEqProofs (disch := omega) only [go_sem, seval, h3, s3, h7, s7, h8, h6, h5, sq, c0, rr, q1, q2, hx, m, e1, hq0, hq1, hq2, hq5, hq6, hor, DF.v]
      exact ⟨i + 1, by omega, by omega, by simp -implicitDefEqProofs (disch := omega) only [go_sem, seval, h3], by simp -implicitDefEqProofs (disch := omega) only [go_sem, seval, s3, hq6], by simp -implicitDefEqProofs (disch := omega) only [go_sem, seval, h7], by simp -implicitDefEqProofs (disch := omega) only [go_sem, seval, s7, hq5], by simp -implicitDefEqProofs (disch := omega) only [go_sem, seval, go_sem], by simp -implicitDefEqProofs (disch := omega) only [go_sem, seval, h6, e1, e2], 2752, (σ 2752).gen + 1, by simp, by simp -implicitDefEqProofs (disch := omega) only [go_sem, seval, a], by simp -implicitDefEqProofs (disch := omega) only [go_sem, seval, a]; simp [rows, DF.v]⟩
  · obtain rfl : i = r.length := by omega
    by_cases hp : pos DF.n r f.n < r.length
    · rw [wiO_end hp, ← hR] at h5 sq
      have hRr := flen R
      simp -implicitDefEqProofs (disch := omega) only [go_sem, seval, h6, h5, sq, hp, hRr]
    · obtain ⟨w1, w2⟩ := wiO_end2 (r := r) (f := f) (by omega)
      rw [w1] at h5 sq
      rw [hR, ← w2]
      simp -implicitDefEqProofs (disch := omega) only [go_sem, seval, h3, s3, h6, h5, sq, hp, hr, hq3, hq4, hq6]
      rw [List.take_of_length_le (by simp [hr]; omega)]
      simp [rows, DF.v]
end Go.Vm.Ytclcadpmkkeaeaa
