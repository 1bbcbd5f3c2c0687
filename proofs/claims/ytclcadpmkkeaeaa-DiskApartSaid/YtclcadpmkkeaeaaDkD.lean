/- (seval) The disk, in the machine: where a name stands, what a file is. -/
import Derived.Test.YtclcadpmkkeaeaaDkB
import Derived.Test.YtclcadpmkkeaeaaDkP
set_option linter.unusedSectionVars false
set_option linter.unusedSimpArgs false
set_option linter.unusedVariables false
set_option maxHeartbeats 40000000
set_option maxRecDepth 10000
namespace Go.Vm
def sgnS (a b : Tx) : Int := if a = b then 0 else if tl a b = true then -1 else 1
theorem sgn_lt (a b : Tx) : (sgnS a b < 0) ↔ tl a b = true := by
  unfold sgnS
  by_cases h : a = b
  · subst h; simp [tl_irr]
  · rw [if_neg h]; by_cases h2 : tl a b = true <;> simp [h2]
theorem sgn_0 (a b : Tx) : (sgnS a b = 0) ↔ a = b := by
  unfold sgnS
  by_cases h : a = b
  · simp [h]
  · rw [if_neg h]; by_cases h2 : tl a b = true <;> simp [h, h2]
end Go.Vm
namespace Go.Vm.Ytclcadpmkkeaeaa
open Go.Proofs
theorem Cmp_ok (a b : Tx) : Gf fns 59 [.str a, .str b] = some (.int .i64 (sgnS a b), []) := by
  have c : Gf fns 62 [.str a, .str b] = some (.int .i64 (cmpS a b), []) := by
    refine Gf_start rfl rfl ?_
    simp -implicitDefEqProofs (disch := omega) only [go_sem, seval, go_sem]
  rw [show sgnS a b = cmpS a b from (cmpS_tl a b).symm]
  refine Gf_start rfl rfl ?_
  simp -implicitDefEqProofs (disch := omega) only [go_sem, seval, c]
theorem P1_ok (e : DE) (x : Tx) : Gf fns 58 [.agg e.v, .str x] = some (.int .i64 (sgnS e.n x), []) := by
  refine Gf_start rfl rfl ?_
  simp -implicitDefEqProofs (disch := omega) only [go_sem, seval, DE.v, Cmp_ok]
def bsS (k : SK) (l : List DE) (x : Tx) (p : Nat × Nat) (s : St) : Prop := p.1 ≤ p.2 ∧ p.2 ≤ l.length ∧ s.t 0 = .sl k l.length (rows DE.v l) ∧ s.t 1 = .str x ∧ s.t 2 = .fn 58 [] ∧ s.t 8 = .int .i64 (l.length : Int) ∧ s.t 9 = .int .i64 (p.1 : Int) ∧ s.t 10 = .int .i64 (p.2 : Int) ∧
  (∀ e ∈ l.take p.1, tl e.n x = true) ∧ ∀ e ∈ l.drop p.2, tl e.n x = false
theorem Bs_ok (k : SK) (l : List DE) (x : Tx) (hs : Srt DE.n l) (hl : l.length ≤ 10000) : Gf fns 57 [.sl k l.length (rows DE.v l), .str x, .fn 58 []] = some (.tup [.int .i64 (pos DE.n l x : Int), .bool (fnd DE.n l x).isSome], []) := by
  have hph := pos_hit hs x
  refine Gf_start rfl rfl ?_
  simp -implicitDefEqProofs (disch := omega) only [go_sem, seval, go_sem]
  refine wp_loopS (bsS k l x) (fun p => p.2 - p.1) (0, l.length) ⟨by simp, by simp, by simp -implicitDefEqProofs (disch := omega) only [go_sem, seval, go_sem], by simp -implicitDefEqProofs (disch := omega) only [go_sem, seval, go_sem], by simp -implicitDefEqProofs (disch := omega) only [go_sem, seval, go_sem], by simp -implicitDefEqProofs (disch := omega) only [go_sem, seval, go_sem], by simp -implicitDefEqProofs (disch := omega) only [go_sem, seval, go_sem], by simp -implicitDefEqProofs (disch := omega) only [go_sem, seval, go_sem], by simp, by simp⟩ ?_
  rintro ⟨i, j⟩ ⟨t, σ⟩ ⟨hij, hj, h0, h1, h2, h8, h9, h10, ha, hb⟩
  simp only at hij hj h0 h1 h2 h8 h9 h10 ha hb
  simp -implicitDefEqProofs (disch := omega) only [go_sem, seval, lp57_0, h9, h10]
  refine condC_dec (fun hc => ?_) (fun hc => ?_)
  · obtain ⟨h, hh⟩ : ∃ h, h = (i + j) / 2 := ⟨_, rfl⟩
    have hfd : Int.fdiv ((i + j : Nat) : Int) 2 = (h : Int) := by rw [Int.fdiv_eq_ediv_of_nonneg _ (by omega)]; omega
    have hh1 : i ≤ h ∧ h < j := by omega
    have hhl : h < l.length := by omega
    have hP := P1_ok (gt l h) x
    have hup := hs.up hhl (x := x)
    have hdn := hs.down hhl (x := x)
    have rr := erow l h hhl
    obtain ⟨q1, q2⟩ := eto l h hhl
    have hsg := sgn_lt (gt l h).n x
    generalize gt l h = g at *
    simp -implicitDefEqProofs (disch := omega) only [go_sem, seval, DE.v] at hP
    by_cases hx : tl g.n x = true
    · have hx2 := hsg.2 hx
      simp -implicitDefEqProofs (disch := omega) only [go_sem, seval, h0, h1, h2, h9, h10, hfd, rr, q1, q2, DE.v, callV_T at58, hP, hx2]
      refine ⟨(h + 1, j), by simp only; omega, by simp only; omega, by simp only; omega, by simp -implicitDefEqProofs (disch := omega) only [go_sem, seval, h0], by simp -implicitDefEqProofs (disch := omega) only [go_sem, seval, h1], by simp -implicitDefEqProofs (disch := omega) only [go_sem, seval, h2], by simp -implicitDefEqProofs (disch := omega) only [go_sem, seval, h8], by simp -implicitDefEqProofs (disch := omega) only [go_sem, seval, go_sem], by simp -implicitDefEqProofs (disch := omega) only [go_sem, seval, h10], hup hx, hb⟩
    · have hx2 : ¬ sgnS g.n x < 0 := fun c => hx (hsg.1 c)
      simp -implicitDefEqProofs (disch := omega) only [go_sem, seval, h0, h1, h2, h9, h10, hfd, rr, q1, q2, DE.v, callV_T at58, hP, hx2]
      refine ⟨(i, h), by simp only; omega, by simp only; omega, by simp only; omega, by simp -implicitDefEqProofs (disch := omega) only [go_sem, seval, h0], by simp -implicitDefEqProofs (disch := omega) only [go_sem, seval, h1], by simp -implicitDefEqProofs (disch := omega) only [go_sem, seval, h2], by simp -implicitDefEqProofs (disch := omega) only [go_sem, seval, h8], by simp -implicitDefEqProofs (disch := omega) only [go_sem, seval, h9], by simp -implicitDefEqProofs (disch := omega) only [go_sem, seval, go_sem], ha, hdn (by simpa using hx)⟩
  · obtain rfl : i = j := by omega
    have hp := pos_eq hj ha hb
    rw [hp] at hph ⊢
    by_cases hil : i < l.length
    · rw [if_pos hil] at hph
      have hP := P1_ok (gt l i) x
      have rr := erow l i hil
      obtain ⟨q1, q2⟩ := eto l i hil
      have hsg := sgn_0 (gt l i).n x
      generalize gt l i = g at *
      simp -implicitDefEqProofs (disch := omega) only [go_sem, seval, DE.v] at hP
      by_cases hx : g.n = x
      · rw [if_pos hx] at hph
        have hx2 := hsg.2 hx
        rw [hph]
        simp -implicitDefEqProofs (disch := omega) only [go_sem, seval, h0, h1, h2, h8, h9, hil, rr, q1, q2, DE.v, callV_T at58, hP, hx2, Option.isSome_some]
      · rw [if_neg hx] at hph
        have hx2 : ¬ sgnS g.n x = 0 := fun c => hx (hsg.1 c)
        rw [hph]
        simp -implicitDefEqProofs (disch := omega) only [go_sem, seval, h0, h1, h2, h8, h9, hil, rr, q1, q2, DE.v, callV_T at58, hP, hx2, Option.isSome_none]
    · rw [if_neg hil] at hph
      rw [hph]
      simp -implicitDefEqProofs (disch := omega) only [go_sem, seval, h0, h1, h2, h8, h9, hil, Option.isSome_none]
def dkv (l : V) (lim : Int) (ch : Nat) (off : Bool) : List V := [l, .int .i64 lim, .sl .nil 0 [], .int .i64 (ch : Int), .bool off]
section
variable (k : SK) (l : List DE) (lim : Int) (ch : Nat) (off : Bool)
theorem Dead_ok (lv : V) : Gf fns 25 [.pt (dkv lv lim ch off) 0] = some (.bool off, []) := by
  refine Gf_start rfl rfl ?_
  cases off
  · simp -implicitDefEqProofs (disch := omega) only [go_sem, seval, dkv]
  · simp -implicitDefEqProofs (disch := omega) only [go_sem, seval, dkv]
theorem Place_ok (x : Tx) (hs : Srt DE.n l) (hl : l.length ≤ 10000) : Gf fns 54 [.pt (dkv (.sl k l.length (rows DE.v l)) lim ch off) 0, .str x] = some (.tup [.int .i64 (pos DE.n l x : Int), .bool (fnd DE.n l x).isSome], []) := by
  have h := Bs_ok k l x hs hl
  refine Gf_start rfl rfl ?_
  simp -implicitDefEqProofs (disch := omega) only [go_sem, seval, dkv, h]
theorem Face_ok (x : Tx) (hs : Srt DE.n l) (hl : l.length ≤ 10000) : Gf fns 50 [.pt (dkv (.sl k l.length (rows DE.v l)) lim ch off) 0, .str x] = some (.agg [.bool (faceA l x), .str (faceS l x)], []) := by
  have h := Place_ok k l lim ch off x hs hl
  have hph := pos_hit hs x
  simp -implicitDefEqProofs (disch := omega) only [go_sem, seval, dkv] at h
  by_cases hi : pos DE.n l x < l.length
  · by_cases hx : (gt l (pos DE.n l x)).n = x
    · obtain ⟨f1, f2⟩ := face_hit hs hi hx
      rw [if_pos hi, if_pos hx] at hph
      rw [hph, Option.isSome_some] at h
      rw [f1, f2]
      have ef := e_face l _ hi
      obtain ⟨q1, q2⟩ := eto l _ hi
      generalize gt l (pos DE.n l x) = g at *
      generalize pos DE.n l x = i at *
      refine Gf_start rfl rfl ?_
      simp -implicitDefEqProofs (disch := omega) only [go_sem, seval, dkv, h, ef, q1, q2]
    · rw [if_pos hi, if_neg hx] at hph
      obtain ⟨f1, f2⟩ := face_miss hph
      rw [hph, Option.isSome_none] at h
      rw [f1, f2]
      refine Gf_start rfl rfl ?_
      simp -implicitDefEqProofs (disch := omega) only [go_sem, seval, dkv, h]
  · rw [if_neg hi] at hph
    obtain ⟨f1, f2⟩ := face_miss hph
    rw [hph, Option.isSome_none] at h
    rw [f1, f2]
    refine Gf_start rfl rfl ?_
    simp -implicitDefEqProofs (disch := omega) only [go_sem, seval, dkv, h]
def opC (l : List DE) (x : Tx) (must : Bool) : Int := if nameB x = false then 110 else if (must && !faceA l x) = true then 2 else 0
theorem Open_ok (x : Tx) (must : Bool) (hs : Srt DE.n l) (hl : l.length ≤ 10000) (hx : x.length ≤ 140737488355328) : Gf fns 36 [.pt (dkv (.sl k l.length (rows DE.v l)) lim ch false) 0, .str x, .bool must] = some (.tup [.agg [.bool (decide (opC l x must = 0) && faceA l x), .str (if opC l x must = 0 then faceS l x else [])], .int .i64 (opC l x must)], []) := by
  have d := Dead_ok lim ch false (.sl k l.length (rows DE.v l))
  have f := Face_ok k l lim ch false x hs hl
  have n := Name_ok x hx
  simp -implicitDefEqProofs (disch := omega) only [go_sem, seval, dkv] at d f
  unfold opC
  generalize faceA l x = A at *
  generalize faceS l x = S at *
  refine Gf_start rfl rfl ?_
  cases hN : nameB x
  · simp -implicitDefEqProofs (disch := omega) only [go_sem, seval, dkv, d, n, hN]
  · cases must <;> cases A
    all_goals simp -implicitDefEqProofs (disch := omega) only [go_sem, seval, dkv, d, n, f, hN]
end
end Go.Vm.Ytclcadpmkkeaeaa
/- (seval) The disk, in the machine: what is laid. -/
namespace Go.Vm
def usS (l : List DE) (i : Nat) : Nat := usedL (l.take i)
theorem used_succ {l : List DE} {i : Nat} (hi : i < l.length) : usS l (i + 1) = usS l i + (gt l i).s.length := by
  unfold usS usedL
  rw [take_gt hi, List.map_append, List.sum_append]
  simp
theorem used_le (l : List DE) (i : Nat) : usS l i ≤ usedL l := by
  unfold usS
  conv => rhs; rw [← List.take_append_drop i l]
  unfold usedL
  rw [List.map_append, List.sum_append]
  omega
end Go.Vm
namespace Go.Vm.Ytclcadpmkkeaeaa
open Go.Proofs
def uS (k : SK) (l : List DE) (i : Nat) (s : St) : Prop := i ≤ l.length ∧ s.t 11 = .sl k l.length (rows DE.v l) ∧ s.t 12 = .int .i64 (l.length : Int) ∧ s.t 3 = .int .i64 (usS l i : Int) ∧ s.t 13 = .int .i64 (i : Int)
theorem Used_ok (k : SK) (l : List DE) (lim : Int) (ch : Nat) (off : Bool) (hl : l.length ≤ 10000) (hb : usedL l ≤ 1000000) : Gf fns 17 [.pt (dkv (.sl k l.length (rows DE.v l)) lim ch off) 0] = some (.int .i64 (usedL l : Int), []) := by
  refine Gf_start rfl rfl ?_
  simp -implicitDefEqProofs (disch := omega) only [go_sem, seval, dkv]
  refine wp_loopS (uS k l) (fun i => l.length - i) 0 ⟨by omega, by simp -implicitDefEqProofs (disch := omega) only [go_sem, seval, go_sem], by simp -implicitDefEqProofs (disch := omega) only [go_sem, seval, go_sem], by simp -implicitDefEqProofs (disch := omega) only [go_sem, seval, usS, usedL]; rfl, by simp -implicitDefEqProofs (disch := omega) only [go_sem, seval, go_sem]⟩ ?_
  rintro i ⟨t, σ⟩ ⟨hi, h11, h12, h3, h13⟩
  simp only at h11 h12 h3 h13
  simp -implicitDefEqProofs (disch := omega) only [go_sem, seval, lp17_0, h12, h13]
  refine condC_dec (fun hc => ?_) (fun hc => ?_)
  · have rr := erow l i hc
    obtain ⟨q1, q2⟩ := eto l i hc
    have e := used_succ hc
    have e2 := used_le l (i + 1)
    rw [e] at e2
    generalize gt l i = g at *
    simp -implicitDefEqProofs (disch := omega) only [go_sem, seval, h3, h11, h12, h13, rr, q1, q2, DE.v]
    exact ⟨i + 1, by omega, by omega, by simp -implicitDefEqProofs (disch := omega) only [go_sem, seval, h11], by simp -implicitDefEqProofs (disch := omega) only [go_sem, seval, h12], by simp -implicitDefEqProofs (disch := omega) only [go_sem, seval, e], by simp -implicitDefEqProofs (disch := omega) only [go_sem, seval, go_sem]⟩
  · obtain rfl : i = l.length := by omega
    have e : usS l l.length = usedL l := by unfold usS; rw [take_all (Nat.le_refl _)]
    rw [e] at h3
    simp -implicitDefEqProofs (disch := omega) only [go_sem, seval, h3]
/-- A disk's entries as they are owned. -/
def OwL (lv : V) (l : List DE) : Prop := lv = .osl 6 l.length (rows DE.v l) ∨ (lv = .sl .nil 0 [] ∧ l = [])
theorem goes_ok {lv : V} {l : List DE} (ho : OwL lv l) (lim : Int) (ch : Nat) (hch : ch ≤ 1000) : Gf fns 51 [.opt (dkv lv lim ch false)] = some (.bool true, [.opt (dkv lv lim (ch + 1) false)]) := by
  have hel := elen l
  rcases ho with rfl | ⟨rfl, rfl⟩
  · refine Gf_start rfl rfl ?_
    simp -implicitDefEqProofs (disch := omega) only [go_sem, seval, dkv, hel, ero, ↓wp_unroll, lp51_0]
  · refine Gf_start rfl rfl ?_
    simp -implicitDefEqProofs (disch := omega) only [go_sem, seval, dkv, ↓wp_unroll, lp51_0]
theorem Ins_own (l : List DE) (i : Nat) (e : DE) (hi : i ≤ l.length) (hl : l.length ≤ 10000) : Gf fns 56 [.osl 6 l.length (rows DE.v l), .int .i64 (i : Int), .osl 6 1 e.v] = some (.osl 6 (l.length + 1) (rows DE.v (l.take i ++ e :: l.drop i)), []) := by
  rw [hand56]
  unfold insG
  simp only
  rw [if_pos ⟨trivial, trivial, elen l, rfl, by omega, by omega, by omega⟩]
  rw [show (i : Int).toNat = i by omega, rows_take DE.v_len, rows_drop DE.v_len, rows_append, rows_cons, List.append_assoc]
theorem Ins_nil (e : DE) : Gf fns 56 [.sl .nil 0 [], .int .i64 0, .osl 6 1 e.v] = some (.osl 6 1 e.v, []) := by
  rw [hand56]
  unfold insG
  simp only
  rw [if_pos ⟨by decide, trivial, rfl, trivial⟩]
theorem Lay_ok {lv : V} {l : List DE} (ho : OwL lv l) (lim : Int) (ch : Nat) (x : Tx) (a : Bool) (s : Tx) (how : Nat) (hs : Srt DE.n l) (hl : l.length ≤ 1000) : Gf fns 52 [.opt (dkv lv lim ch false), .str x, .agg [.bool a, .str s], .int .i64 (how : Int)] = some (.tup [], [.opt (dkv (.osl 6 (layL l x a s how).length (rows DE.v (layL l x a s how))) lim ch false)]) := by
  have hel := elen l
  have hph := pos_hit hs x
  have hpl := pos_le (key := DE.n) l x
  have hin := Ins_own l (pos DE.n l x) (e0 x) hpl (by omega)
  rcases ho with rfl | ⟨rfl, rfl⟩
  · have h := Place_ok .ro l lim ch false x hs (by omega)
    simp -implicitDefEqProofs (disch := omega) only [go_sem, seval, dkv] at h
    by_cases hhit : pos DE.n l x < l.length ∧ (gt l (pos DE.n l x)).n = x
    · obtain ⟨hi, hx⟩ := hhit
      rw [if_pos hi, if_pos hx] at hph
      rw [hph, Option.isSome_some] at h
      have eq := lay_hit hs hi hx a s how
      have es := e_set hi a s how
      have hlen : (layL l x a s how).length = l.length := by rw [eq]; simp
      rw [← eq] at es
      have hel2 := elen (layL l x a s how)
      rw [hlen] at hel2
      rw [hlen]
      have es1 := e_set1 hi a s
      have esl : (splice (rows DE.v l) (pos DE.n l x * 6 + 1) [.bool a, .str s]).length = l.length * 6 := by rw [es1, elen]; simp
      rw [← set_eq_splice _ _ _ (by omega)] at es
      generalize layL l x a s how = L at *
      generalize pos DE.n l x = i at *
      have q2 : i * 6 + 6 ≤ l.length * 6 := by omega
      refine Gf_start rfl rfl ?_
      simp -implicitDefEqProofs (disch := omega) only [go_sem, seval, dkv, hel, ero, h]
      refine wp_draw_E ?_
      simp -implicitDefEqProofs (disch := omega) only [go_sem, seval, hel, q2, esl, es, hel2, ero]
    · have hnone : fnd DE.n l x = none := by
        rw [hph]
        by_cases hi : pos DE.n l x < l.length
        · rw [if_pos hi, if_neg (fun c => hhit ⟨hi, c⟩)]
        · rw [if_neg hi]
      rw [hnone, Option.isSome_none] at h
      obtain ⟨eq, hg⟩ := lay_miss hnone a s how
      have hlen : (layL l x a s how).length = l.length + 1 := by rw [eq]; simp; omega
      have hl1 : (l.take (pos DE.n l x) ++ e0 x :: l.drop (pos DE.n l x)).length = l.length + 1 := by simp; omega
      have hi : pos DE.n l x < (l.take (pos DE.n l x) ++ e0 x :: l.drop (pos DE.n l x)).length := by omega
      have es := e_set hi a s how
      have es1 := e_set1 hi a s
      rw [hg, ← eq] at es
      have esl : (splice (rows DE.v (l.take (pos DE.n l x) ++ e0 x :: l.drop (pos DE.n l x))) (pos DE.n l x * 6 + 1) [.bool a, .str s]).length = (l.length + 1) * 6 := by rw [es1, elen]; simp; omega
      have hel1 := elen (l.take (pos DE.n l x) ++ e0 x :: l.drop (pos DE.n l x))
      rw [hl1] at hel1
      have hel2 := elen (layL l x a s how)
      rw [hlen] at hel2
      rw [hlen]
      clear eq hhit hph hg es1 hi hl1
      rw [← set_eq_splice _ _ _ (by omega)] at es
      generalize layL l x a s how = L at *
      generalize l.take (pos DE.n l x) ++ e0 x :: l.drop (pos DE.n l x) = L1 at *
      generalize pos DE.n l x = i at *
      have q2 : i * 6 + 6 ≤ (l.length + 1) * 6 := by omega
      simp -implicitDefEqProofs (disch := omega) only [go_sem, seval, DE.v, e0] at hin
      refine Gf_start rfl rfl ?_
      simp -implicitDefEqProofs (disch := omega) only [go_sem, seval, dkv, hel, ero, h, hin, hel1]
      refine wp_draw_E ?_
      simp -implicitDefEqProofs (disch := omega) only [go_sem, seval, hel1, q2, esl, es, hel2, ero]
  · have h := Place_ok .nil [] lim ch false x hs (by omega)
    have hi := Ins_nil (e0 x)
    have eL : layL [] x a s how = [newE x a s how] := rfl
    have ep : pos DE.n [] x = 0 := rfl
    have ef : fnd DE.n [] x = none := rfl
    rw [ep, ef, Option.isSome_none] at h
    rw [eL]
    simp -implicitDefEqProofs (disch := omega) only [go_sem, seval, dkv, rows_nil] at h
    simp -implicitDefEqProofs (disch := omega) only [go_sem, seval, DE.v, e0] at hi
    refine Gf_start rfl rfl ?_
    simp -implicitDefEqProofs (disch := omega) only [go_sem, seval, dkv, h, hi]
    refine wp_draw_E ?_
    simp -implicitDefEqProofs (disch := omega) only [go_sem, seval, splice, List.take_succ_cons, List.take_zero, List.drop_succ_cons, List.drop_zero, List.cons_append, List.nil_append, rows, DE.v, newE]
    rfl
end Go.Vm.Ytclcadpmkkeaeaa
