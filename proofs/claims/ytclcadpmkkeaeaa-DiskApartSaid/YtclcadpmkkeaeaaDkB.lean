/- (seval) The document's disk, in the machine: why a change may not be. -/
import Derived.Test.YtclcadpmkkeaeaaDkA
import Derived.Test.YtclcadpmkkeaeaaDiA
set_option linter.unusedSectionVars false
set_option linter.unusedSimpArgs false
set_option linter.unusedVariables false
set_option maxHeartbeats 40000000
set_option maxRecDepth 10000
namespace Go.Vm
theorem size_succ {l : List DF} {i : Nat} (hi : i < l.length) : sizeF (l.take (i + 1)) = sizeF (l.take i) + (gt l i).s.length := by
  unfold sizeF
  rw [take_gt hi, List.map_append, List.sum_append]
  simp
theorem size_le (l : List DF) (i : Nat) : sizeF (l.take i) ≤ sizeF l := by
  conv => rhs; rw [← List.take_append_drop i l]
  unfold sizeF
  rw [List.map_append, List.sum_append]
  omega
def fullB (lim : Int) (u : Nat) (more : Int) : Bool := decide (0 < more) && (decide (0 ≤ lim) && decide (lim - (u : Int) < more))
structure Ch where
  k : Nat
  n : Tx
  t : Tx
  s : Tx
  m : Int
def Ch.v (c : Ch) : List V := [.int .i64 (c.k : Int), .str c.n, .str c.t, .str c.s, .int .i64 c.m]
def codeK (nm : Tx → Bool) (A : Bool) (S : Tx) (u : Nat) (lim : Int) (c : Ch) : Int :=
  if nm c.n = false then 110 else
  match c.k with
  | 0 => if fullB lim u (c.s.length : Int) = true then 111 else 0
  | 1 => if fullB lim u ((c.s.length : Int) - (S.length : Int)) = true then 111 else 0
  | 2 => if A = false then 2 else if nm c.t = false then 110 else if c.n = c.t then 1 else 0
  | 3 => if A = false then 2 else 0
  | _ => if A = false then 2 else if c.m < 0 then 1 else if (S.length : Int) < c.m then 1 else 0
end Go.Vm
namespace Go.Vm.Ytclcadpmkkeaeaa
open Go.Proofs
def szS (k : SK) (l : List DF) (i : Nat) (s : St) : Prop := i ≤ l.length ∧ s.t 0 = .sl k l.length (rows DF.v l) ∧ s.t 3 = .int .i64 (sizeF (l.take i) : Int) ∧ s.t 4 = .int .i64 (i : Int)
theorem Size_ok (k : SK) (l : List DF) (hl : l.length ≤ 10000) (hb : sizeF l ≤ 1000000) : Gf fns 38 [.sl k l.length (rows DF.v l)] = some (.int .i64 (sizeF l : Int), []) := by
  refine Gf_start rfl rfl ?_
  simp -implicitDefEqProofs (disch := omega) only [go_sem, seval, go_sem]
  refine wp_loopS (szS k l) (fun i => l.length - i) 0 ⟨by omega, by simp -implicitDefEqProofs (disch := omega) only [go_sem, seval, go_sem], by simp -implicitDefEqProofs (disch := omega) only [go_sem, seval, sizeF]; rfl, by simp -implicitDefEqProofs (disch := omega) only [go_sem, seval, go_sem]⟩ ?_
  rintro i ⟨t, σ⟩ ⟨hi, h0, h3, h4⟩
  simp only at h0 h3 h4
  simp -implicitDefEqProofs (disch := omega) only [go_sem, seval, lp38_0, h0, h4]
  refine condC_dec (fun hc => ?_) (fun hc => ?_)
  · have c1 := fcell1 l i hc
    obtain ⟨q1, q2⟩ := fto l i hc
    have e := size_succ hc
    have e2 := size_le l (i + 1)
    rw [e] at e2
    generalize gt l i = g at *
    simp -implicitDefEqProofs (disch := omega) only [go_sem, seval, h0, h3, h4, c1, q1, q2]
    exact ⟨i + 1, by omega, by omega, by simp -implicitDefEqProofs (disch := omega) only [go_sem, seval, h0], by simp -implicitDefEqProofs (disch := omega) only [go_sem, seval, e], by simp -implicitDefEqProofs (disch := omega) only [go_sem, seval, go_sem]⟩
  · obtain rfl : i = l.length := by omega
    rw [take_all (Nat.le_refl _)] at h3
    simp -implicitDefEqProofs (disch := omega) only [go_sem, seval, h3]
def rk (now sure : V) (lim : Int) (ch : Nat) : List V := [now, sure, .int .i64 lim, .sl .nil 0 [], .int .i64 (ch : Int), .bool false]
theorem why_ok (k k2 : SK) (l l2 : List DF) (lim : Int) (ch : Nat) (c : Ch) (hk : c.k ≤ 4) (hlim : -1 ≤ lim ∧ lim ≤ 1000) (hl : l.length ≤ 10000) (hb : sizeF l ≤ 1000000) (hs : c.s.length ≤ 50) (hn : c.n.length ≤ 140737488355328) (ht : c.t.length ≤ 140737488355328) (hfs : (fS (fnd DF.n l c.n)).length ≤ 1000000) :
    Gf fns 46 [.agg (rk (.sl k l.length (rows DF.v l)) (.sl k2 l2.length (rows DF.v l2)) lim ch), .agg c.v] = some (.int .i64 (codeK nameB (fnd DF.n l c.n).isSome (fS (fnd DF.n l c.n)) (sizeF l) lim c), []) := by
  have hf := Find_ok k l c.n hl
  have hnm := RName_ok c.n hn
  have hnt := RName_ok c.t ht
  have hsz := Size_ok k l hl hb
  have hfd : (fD (fnd DF.n l c.n)).s = fS (fnd DF.n l c.n) := by unfold fD fS; cases fnd DF.n l c.n <;> rfl
  obtain ⟨⟨fn, fs, fp⟩, hfe⟩ : ∃ f, f = fD (fnd DF.n l c.n) := ⟨_, rfl⟩
  rw [← hfe] at hf hfd
  simp only at hfd
  generalize (fnd DF.n l c.n).isSome = A at *
  generalize fS (fnd DF.n l c.n) = S at *
  subst hfd
  obtain ⟨u, hu⟩ : ∃ u, u = sizeF l := ⟨_, rfl⟩
  rw [← hu] at hsz hb ⊢
  obtain ⟨kk, n, t, s, m⟩ := c
  simp only at *
  clear hfe hu
  refine Gf_start rfl rfl ?_
  unfold codeK
  simp only
  cases hB : nameB n
  · simp -implicitDefEqProofs (disch := omega) only [go_sem, seval, rk, Ch.v, DF.v, hf, hnm, hB]
  · have hkk : kk = 0 ∨ kk = 1 ∨ kk = 2 ∨ kk = 3 ∨ kk = 4 := by omega
    rcases hkk with rfl | rfl | rfl | rfl | rfl
    · simp -implicitDefEqProofs (disch := omega) only [go_sem, seval, rk, Ch.v, DF.v, hf, hnm, hB]
      refine wp_draw_E ?_
      unfold fullB
      by_cases h1 : (0 : Int) < s.length
      · by_cases h2 : 0 ≤ lim
        · by_cases h3 : lim - (u : Int) < (s.length : Int)
          · simp -implicitDefEqProofs (disch := omega) only [go_sem, seval, hsz, h1, h2, h3]
          · simp -implicitDefEqProofs (disch := omega) only [go_sem, seval, hsz, h1, h2, h3]
        · simp -implicitDefEqProofs (disch := omega) only [go_sem, seval, hsz, h1, h2]
      · simp -implicitDefEqProofs (disch := omega) only [go_sem, seval, hsz, h1]
    · simp -implicitDefEqProofs (disch := omega) only [go_sem, seval, rk, Ch.v, DF.v, hf, hnm, hB]
      refine wp_draw_E ?_
      unfold fullB
      by_cases h1 : (0 : Int) < (s.length : Int) - (fs.length : Int)
      · by_cases h2 : 0 ≤ lim
        · by_cases h3 : lim - (u : Int) < (s.length : Int) - (fs.length : Int)
          · simp -implicitDefEqProofs (disch := omega) only [go_sem, seval, hsz, h1, h2, h3]
          · simp -implicitDefEqProofs (disch := omega) only [go_sem, seval, hsz, h1, h2, h3]
        · simp -implicitDefEqProofs (disch := omega) only [go_sem, seval, hsz, h1, h2]
      · simp -implicitDefEqProofs (disch := omega) only [go_sem, seval, hsz, h1]
    · cases A
      · simp -implicitDefEqProofs (disch := omega) only [go_sem, seval, rk, Ch.v, DF.v, hf, hnm, hB]
      · cases hT : nameB t
        · simp -implicitDefEqProofs (disch := omega) only [go_sem, seval, rk, Ch.v, DF.v, hf, hnm, hnt, hB, hT]
        · by_cases h1 : n = t
          · subst h1
            simp -implicitDefEqProofs (disch := omega) only [go_sem, seval, rk, Ch.v, DF.v, hf, hnm, hnt, hB, hT]
          · simp -implicitDefEqProofs (disch := omega) only [go_sem, seval, rk, Ch.v, DF.v, hf, hnm, hnt, hB, hT, h1]
            refine wp_draw_E ?_
            simp -implicitDefEqProofs (disch := omega) only [go_sem, seval, go_sem]
    · cases A
      · simp -implicitDefEqProofs (disch := omega) only [go_sem, seval, rk, Ch.v, DF.v, hf, hnm, hB]
      · simp -implicitDefEqProofs (disch := omega) only [go_sem, seval, rk, Ch.v, DF.v, hf, hnm, hB]
        refine wp_draw_E ?_
        simp -implicitDefEqProofs (disch := omega) only [go_sem, seval, go_sem]
    · cases A
      · simp -implicitDefEqProofs (disch := omega) only [go_sem, seval, rk, Ch.v, DF.v, hf, hnm, hB]
      · by_cases h1 : m < 0
        · simp -implicitDefEqProofs (disch := omega) only [go_sem, seval, rk, Ch.v, DF.v, hf, hnm, hB, h1]
        · by_cases h2 : (fs.length : Int) < m
          · simp -implicitDefEqProofs (disch := omega) only [go_sem, seval, rk, Ch.v, DF.v, hf, hnm, hB, h1, h2]
          · simp -implicitDefEqProofs (disch := omega) only [go_sem, seval, rk, Ch.v, DF.v, hf, hnm, hB, h1, h2]
            refine wp_draw_E ?_
            simp -implicitDefEqProofs (disch := omega) only [go_sem, seval, go_sem]
theorem strike_ok (k k2 : SK) (l l2 : List DF) (lim : Int) (ch : Nat) (hch : ch ≤ 1000) : Gf fns 47 [.agg (rk (.sl k l.length (rows DF.v l)) (.sl k2 l2.length (rows DF.v l2)) lim ch)] = some (.tup [.agg (rk (.sl k l.length (rows DF.v l)) (.sl k2 l2.length (rows DF.v l2)) lim (ch + 1)), .bool false], []) := by
  refine Gf_start rfl rfl ?_
  simp -implicitDefEqProofs (disch := omega) only [go_sem, seval, rk, ↓wp_unroll, lp47_0]
theorem len_tw (s : Tx) (m : Int) : (s.take m.toNat).length ≤ s.length := by simp; omega
/-- What the document's files are behind a change. -/
def chgK (l : List DF) (c : Ch) : List DF :=
  match c.k with
  | 0 => withF l ⟨c.n, fS (fnd DF.n l c.n) ++ c.s, true⟩
  | 1 => withF l ⟨c.n, c.s, true⟩
  | 2 => withF (woF l c.n) ⟨c.t, fS (fnd DF.n l c.n), false⟩
  | 3 => woF l c.n
  | _ => withF l ⟨c.n, (fS (fnd DF.n l c.n)).take c.m.toNat, false⟩
def codeR (l : List DF) (lim : Int) (c : Ch) : Int := codeK nameB (fnd DF.n l c.n).isSome (fS (fnd DF.n l c.n)) (sizeF l) lim c
theorem Change_no (k k2 : SK) (l l2 : List DF) (lim : Int) (ch : Nat) (c : Ch) (hk : c.k ≤ 4) (hlim : -1 ≤ lim ∧ lim ≤ 1000) (hl : l.length ≤ 10000) (hb : sizeF l ≤ 1000000) (hs : c.s.length ≤ 50) (hn : c.n.length ≤ 140737488355328) (ht : c.t.length ≤ 140737488355328) (hfs : (fS (fnd DF.n l c.n)).length ≤ 1000000) (he : codeR l lim c ≠ 0) :
    Gf fns 32 [.agg (rk (.sl k l.length (rows DF.v l)) (.sl k2 l2.length (rows DF.v l2)) lim ch), .agg c.v] = some (.tup [.agg (rk (.sl k l.length (rows DF.v l)) (.sl k2 l2.length (rows DF.v l2)) lim ch), .int .i64 (codeR l lim c)], []) := by
  have hw := why_ok k k2 l l2 lim ch c hk hlim hl hb hs hn ht hfs
  rw [show codeK nameB (fnd DF.n l c.n).isSome (fS (fnd DF.n l c.n)) (sizeF l) lim c = codeR l lim c from rfl] at hw
  generalize codeR l lim c = e at *
  simp -implicitDefEqProofs (disch := omega) only [go_sem, seval, rk, Ch.v] at hw
  refine Gf_start rfl rfl ?_
  simp -implicitDefEqProofs (disch := omega) only [go_sem, seval, rk, Ch.v, hw, he]
theorem Change_yes (k k2 : SK) (l l2 : List DF) (lim : Int) (ch : Nat) (c : Ch) (hsr : Srt DF.n l) (hch : ch ≤ 1000) (hk : c.k ≤ 4) (hlim : -1 ≤ lim ∧ lim ≤ 1000) (hl : l.length ≤ 1000) (hb : sizeF l ≤ 1000000) (hs : c.s.length ≤ 50) (hn : c.n.length ≤ 140737488355328) (ht : c.t.length ≤ 140737488355328) (hfs : (fS (fnd DF.n l c.n)).length ≤ 1000000) (he : codeR l lim c = 0) :
    Gf fns 32 [.agg (rk (.sl k l.length (rows DF.v l)) (.sl k2 l2.length (rows DF.v l2)) lim ch), .agg c.v] = some (.tup [.agg (rk (.osl 3 (chgK l c).length (rows DF.v (chgK l c))) (.sl k2 l2.length (rows DF.v l2)) lim (ch + 1)), .int .i64 0], []) := by
  have hw := why_ok k k2 l l2 lim ch c hk hlim (by omega) hb hs hn ht hfs
  rw [show codeK nameB (fnd DF.n l c.n).isSome (fS (fnd DF.n l c.n)) (sizeF l) lim c = codeR l lim c from rfl, he] at hw
  have hst := strike_ok k k2 l l2 lim ch hch
  have hf := Find_ok k l c.n (by omega)
  have hfd : (fD (fnd DF.n l c.n)).s = fS (fnd DF.n l c.n) := by unfold fD fS; cases fnd DF.n l c.n <;> rfl
  have wWith := fun f => With_ok k l f hsr (by omega)
  have wWo := Wo_ok k l c.n (by omega)
  have wlen := wo_len l c.n
  have wW2 := fun f => With_ok .ro (woF l c.n) f (srt_wo hsr c.n) (by omega)
  have wfl := flen (woF l c.n)
  obtain ⟨kk, n, t, s, m⟩ := c
  unfold codeR codeK at he
  simp only at *
  simp -implicitDefEqProofs (disch := omega) only [go_sem, seval, rk, Ch.v] at hw hst
  have hkk : kk = 0 ∨ kk = 1 ∨ kk = 2 ∨ kk = 3 ∨ kk = 4 := by omega
  unfold chgK
  simp only
  obtain ⟨⟨fn, fs, fp⟩, hfe⟩ : ∃ f, f = fD (fnd DF.n l n) := ⟨_, rfl⟩
  rw [← hfe] at hf hfd
  simp only at hfd
  generalize (fnd DF.n l n).isSome = A at *
  generalize fS (fnd DF.n l n) = S at *
  subst hfd
  simp -implicitDefEqProofs (disch := omega) only [go_sem, seval, DF.v] at hf
  clear hfe
  rcases hkk with rfl | rfl | rfl | rfl | rfl
  · rw [show ((0 : Nat) : Int) = 0 from rfl] at hw
    have w1 := wWith ⟨n, fs ++ s, true⟩
    simp only
    generalize withF l ⟨n, fs ++ s, true⟩ = W at *
    have hWl := flen W
    simp -implicitDefEqProofs (disch := omega) only [go_sem, seval, DF.v] at w1
    refine Gf_start rfl rfl ?_
    simp -implicitDefEqProofs (disch := omega) only [go_sem, seval, ite_self, rk, Ch.v, DF.v, hw, hst, hf, w1, hWl]
  · rw [show ((1 : Nat) : Int) = 1 from rfl] at hw
    have w1 := wWith ⟨n, s, true⟩
    simp only
    generalize withF l ⟨n, s, true⟩ = W at *
    have hWl := flen W
    simp -implicitDefEqProofs (disch := omega) only [go_sem, seval, DF.v] at w1
    refine Gf_start rfl rfl ?_
    simp -implicitDefEqProofs (disch := omega) only [go_sem, seval, ite_self, rk, Ch.v, DF.v, hw, hst, hf, w1, hWl]
  · rw [show ((2 : Nat) : Int) = 2 from rfl] at hw
    have w1 := wW2 ⟨t, fs, false⟩
    simp only
    generalize withF (woF l n) ⟨t, fs, false⟩ = W at *
    generalize woF l n = O at *
    have hWl := flen W
    simp -implicitDefEqProofs (disch := omega) only [go_sem, seval, DF.v] at w1
    refine Gf_start rfl rfl ?_
    simp -implicitDefEqProofs (disch := omega) only [go_sem, seval, ite_self, rk, Ch.v, DF.v, hw, hst, hf, wWo, w1, hWl, wfl]
    refine wp_draw_E ?_
    simp -implicitDefEqProofs (disch := omega) only [go_sem, seval, fro, wWo, w1, hWl, wfl]
  · rw [show ((3 : Nat) : Int) = 3 from rfl] at hw
    simp only
    generalize woF l n = W at *
    refine Gf_start rfl rfl ?_
    simp -implicitDefEqProofs (disch := omega) only [go_sem, seval, ite_self, rk, Ch.v, DF.v, hw, hst, hf, wWo, wfl]
  · rw [show ((4 : Nat) : Int) = 4 from rfl] at hw
    have hm : 0 ≤ m ∧ m ≤ fs.length := by
      repeat' (split at he; first | (cases he; done) | skip)
      all_goals omega
    obtain ⟨p, rfl⟩ : ∃ p : Nat, m = (p : Int) := ⟨m.toNat, by omega⟩
    rw [show (p : Int).toNat = p by omega] at *
    have w1 := wWith ⟨n, fs.take p, false⟩
    simp only
    generalize withF l ⟨n, fs.take p, false⟩ = W at *
    have hWl := flen W
    simp -implicitDefEqProofs (disch := omega) only [go_sem, seval, DF.v] at w1
    have hp1 : p ≤ fs.length := by omega
    refine Gf_start rfl rfl ?_
    simp -implicitDefEqProofs (disch := omega) only [go_sem, seval, ite_self, rk, Ch.v, DF.v, hw, hst, hf, w1, hWl]
    refine wp_draw_E ?_
    simp -implicitDefEqProofs (disch := omega) only [go_sem, seval, ite_self, w1, hWl]
end Go.Vm.Ytclcadpmkkeaeaa
/- (seval) The document's disk, in the machine: all made sure; what is loose. -/
namespace Go.Vm
def clL (l : List DF) : List DF := l.map calm
theorem cl_succ {l : List DF} {i : Nat} (hi : i < l.length) : clL (l.take (i + 1)) = clL (l.take i) ++ [calm (gt l i)] := by
  unfold clL
  rw [take_gt hi, List.map_append]
  rfl
theorem cl_len (l : List DF) : (clL l).length = l.length := List.length_map _
def allP (now sure : List DF) (i : Nat) : List DF := allF now (sure.take i)
theorem all_succ {now sure : List DF} {i : Nat} (hi : i < sure.length) : allP now sure (i + 1) = if (fnd DF.n now (gt sure i).n).isSome = true then allP now sure i else withF (allP now sure i) (gt sure i) := by
  unfold allP allF
  rw [take_gt hi, List.foldl_append]
  rfl
theorem all_end (now sure : List DF) : allP now sure sure.length = allF now sure := by unfold allP; rw [take_all (Nat.le_refl _)]
theorem all_len (now sure : List DF) : ∀ i, i ≤ sure.length → (allP now sure i).length ≤ now.length + i
  | 0, _ => by simp [allP, allF]
  | i + 1, h => by
    have ih := all_len now sure i (by omega)
    rw [all_succ (by omega)]
    split
    · omega
    · have := with_len (allP now sure i) (gt sure i)
      omega
theorem all_srt {now : List DF} (h : Srt DF.n now) (sure : List DF) (i : Nat) : Srt DF.n (allP now sure i) := allF_srt now _ _ h
def loP (now sure all : List DF) (i : Nat) : List Tx := ((all.take i).filter (looP now sure)).map DF.n
theorem lo_succ {now sure all : List DF} {i : Nat} (hi : i < all.length) : loP now sure all (i + 1) = if looP now sure (gt all i) = true then loP now sure all i ++ [(gt all i).n] else loP now sure all i := by
  unfold loP
  rw [take_gt hi, List.filter_append, List.map_append]
  by_cases h : looP now sure (gt all i) = true <;> simp [h]
theorem lo_end (now sure : List DF) : loP now sure (allF now sure) (allF now sure).length = looN now sure := by unfold loP looN; rw [take_all (Nat.le_refl _)]
theorem lo_len (now sure all : List DF) (i : Nat) : (loP now sure all i).length ≤ i := by
  unfold loP
  have := List.length_filter_le (looP now sure) (all.take i)
  simp at this ⊢
  omega
end Go.Vm
namespace Go.Vm.Ytclcadpmkkeaeaa
open Go.Proofs
def syS (k k2 : SK) (l l2 : List DF) (lim : Int) (ch : Nat) (i : Nat) (s : St) : Prop := i ≤ l.length ∧ s.t 1 = .ptr 128 1 0 ∧ s.σ 128 = ⟨1, .rw, false, rk (.sl k l.length (rows DF.v l)) (.sl k2 l2.length (rows DF.v l2)) lim ch⟩ ∧ s.t 2 = .ptr 192 1 0 ∧ s.σ 192 = ⟨1, .rw, false, [.sl .nil 0 [], .sl .nil 0 [], .int .i64 0, .sl .nil 0 [], .int .i64 0, .bool false]⟩ ∧ s.t 5 = .int .i64 (i : Int) ∧
  ∃ q gq, q ∈ [640, 2112] ∧ s.t 4 = .sli q gq 0 i 3 ∧ s.σ q = ⟨gq, .rw, true, rows DF.v (clL (l.take i))⟩
theorem Sync_ok (k k2 : SK) (l l2 : List DF) (lim : Int) (ch : Nat) (hl : l.length ≤ 10000) : Gf fns 9 [.agg (rk (.sl k l.length (rows DF.v l)) (.sl k2 l2.length (rows DF.v l2)) lim ch)] = some (.tup [.agg (rk (.sl .ro (clL l).length (rows DF.v (clL l))) (.sl .ro (clL l).length (rows DF.v (clL l))) lim ch), .int .i64 0], []) := by
  refine Gf_start rfl rfl ?_
  simp -implicitDefEqProofs (disch := omega) only [go_sem, seval, rk]
  refine wp_loopS (syS k k2 l l2 lim ch) (fun i => l.length - i) 0 ⟨by omega, by simp -implicitDefEqProofs (disch := omega) only [go_sem, seval, go_sem], by simp -implicitDefEqProofs (disch := omega) only [go_sem, seval, rk], by simp -implicitDefEqProofs (disch := omega) only [go_sem, seval, go_sem], by simp -implicitDefEqProofs (disch := omega) only [go_sem, seval, go_sem], by simp -implicitDefEqProofs (disch := omega) only [go_sem, seval, go_sem], 640, 1, by simp, by simp -implicitDefEqProofs (disch := omega) only [go_sem, seval, go_sem], by simp -implicitDefEqProofs (disch := omega) only [go_sem, seval, clL]; rfl⟩ ?_
  rintro i ⟨t, σ⟩ ⟨hi, h1, s1, h2, s2, h5, q, gq, hq, h4, sq⟩
  simp only at h1 s1 h2 s2 h5 h4 sq
  unfold rk at s1
  have hq0 : (q == 2048) = false := beq_no (by simp at hq; omega)
  have hq1 : (128 == q) = false := beq_no (by simp at hq; omega)
  have hq2 : (192 == q) = false := beq_no (by simp at hq; omega)
  have hcl := cl_len (l.take i)
  have hct : (l.take i).length = i := by simp; omega
  have hor := flen (clL (l.take i))
  rw [hcl, hct] at hor
  simp -implicitDefEqProofs (disch := omega) only [go_sem, seval, lp9_0, h1, s1, h5]
  refine condC_dec (fun hc => ?_) (fun hc => ?_)
  · have c0 := fcell0 l i hc
    have c1 := fcell1 l i hc
    obtain ⟨q1, q2⟩ := fto l i hc
    have e := cl_succ hc
    generalize gt l i = g at *
    generalize clL (l.take i) = O at *
    simp -implicitDefEqProofs (disch := omega) only [go_sem, seval, h1, s1, h5, h4, sq]
    refine wp_draw_E ?_
    simp -implicitDefEqProofs (disch := omega) only [go_sem, seval, h1, s1, h5, h4, sq, c0, c1, q1, q2, hor, hq0, hq1]
    exact ⟨i + 1, by omega, by omega, by simp -implicitDefEqProofs (disch := omega) only [go_sem, seval, h1], by simp -implicitDefEqProofs (disch := omega) only [go_sem, seval, s1, hq1, rk], by simp -implicitDefEqProofs (disch := omega) only [go_sem, seval, h2], by simp -implicitDefEqProofs (disch := omega) only [go_sem, seval, s2, hq2], by simp -implicitDefEqProofs (disch := omega) only [go_sem, seval, go_sem], 2112, (σ 2112).gen + 1, by simp, by simp -implicitDefEqProofs (disch := omega) only [go_sem, seval, go_sem], by simp -implicitDefEqProofs (disch := omega) only [go_sem, seval, e]; simp [rows, DF.v, calm]⟩
  · obtain rfl : i = l.length := by omega
    rw [take_all (Nat.le_refl _)] at sq hor hcl
    generalize clL l = O at *
    have hta : (rows DF.v O).take (l.length * 3) = rows DF.v O := List.take_of_length_le (by omega)
    rw [hcl]
    simp only [List.mem_cons, List.not_mem_nil, or_false] at hq
    rcases hq with rfl | rfl
    · simp -implicitDefEqProofs (disch := omega) only [go_sem, seval, h1, s1, h2, s2, h4, sq, hor, hta, rk, fro]
    · simp -implicitDefEqProofs (disch := omega) only [go_sem, seval, h1, s1, h2, s2, h4, sq, hor, hta, rk, fro]
def l0S (k k2 : SK) (l l2 : List DF) (lim : Int) (ch : Nat) (i : Nat) (s : St) : Prop := i ≤ l2.length ∧ s.t 1 = .ptr 128 1 0 ∧ s.σ 128 = ⟨1, .rw, false, rk (.sl k l.length (rows DF.v l)) (.sl k2 l2.length (rows DF.v l2)) lim ch⟩ ∧ s.t 4 = .int .i64 (i : Int) ∧
  (s.t 3 = .sl k (allP l l2 i).length (rows DF.v (allP l l2 i)) ∨ ∃ gq, s.t 3 = .sli 2752 gq 0 (allP l l2 i).length 3 ∧ s.σ 2752 = ⟨gq, .rw, true, rows DF.v (allP l l2 i)⟩)
def l1S (k k2 : SK) (l l2 al : List DF) (lim : Int) (ch : Nat) (a3 : V) (B : Blk) (i : Nat) (s : St) : Prop := i ≤ al.length ∧ s.t 1 = .ptr 128 1 0 ∧ s.σ 128 = ⟨1, .rw, false, rk (.sl k l.length (rows DF.v l)) (.sl k2 l2.length (rows DF.v l2)) lim ch⟩ ∧ s.t 8 = .int .i64 (i : Int) ∧ s.t 3 = a3 ∧ s.σ 2752 = B ∧
  ∃ q gq, q ∈ [2816, 5760] ∧ s.t 7 = .sli q gq 0 (loP l l2 al i).length 1 ∧ s.σ q = ⟨gq, .rw, true, (loP l l2 al i).map V.str⟩
theorem Loose_ok (k k2 : SK) (l l2 : List DF) (lim : Int) (ch : Nat) (hs : Srt DF.n l) (hl : l.length ≤ 1000) (hl2 : l2.length ≤ 1000) : Gf fns 10 [.agg (rk (.sl k l.length (rows DF.v l)) (.sl k2 l2.length (rows DF.v l2)) lim ch)] = some (.osl 1 (looN l l2).length ((looN l l2).map V.str), []) := by
  refine Gf_start rfl rfl ?_
  simp -implicitDefEqProofs (disch := omega) only [go_sem, seval, rk]
  refine wp_loopS (l0S k k2 l l2 lim ch) (fun i => l2.length - i) 0 ⟨by omega, by simp -implicitDefEqProofs (disch := omega) only [go_sem, seval, go_sem], by simp -implicitDefEqProofs (disch := omega) only [go_sem, seval, rk], by simp -implicitDefEqProofs (disch := omega) only [go_sem, seval, go_sem], .inl (by simp -implicitDefEqProofs (disch := omega) only [go_sem, seval, allP, allF]; rfl)⟩ ?_
  rintro i ⟨t, σ⟩ ⟨hi, h1, s1, h4, hA⟩
  simp only at h1 s1 h4 hA
  unfold rk at s1
  have hal := all_len l l2 i hi
  have hsA := all_srt hs l2 i
  simp -implicitDefEqProofs (disch := omega) only [go_sem, seval, lp10_0, h1, s1, h4]
  refine condC_dec (fun hc => ?_) (fun hc => ?_)
  · have rr := frow l2 i hc
    have c0 := fcell0 l2 i hc
    obtain ⟨q1, q2⟩ := fto l2 i hc
    have e := all_succ (now := l) hc
    have hF := Find_ok k l (gt l2 i).n (by omega)
    have hW := fun k => With_ok k (allP l l2 i) (gt l2 i) hsA (by omega)
    have hor := flen (allP l l2 i)
    generalize gt l2 i = g at *
    obtain ⟨⟨fn, fs, fp⟩, hfe⟩ : ∃ f, f = fD (fnd DF.n l g.n) := ⟨_, rfl⟩
    rw [← hfe] at hF
    clear hfe
    generalize (fnd DF.n l g.n).isSome = A at *
    generalize hO : allP l l2 i = O at *
    simp -implicitDefEqProofs (disch := omega) only [go_sem, seval, DF.v] at hF
    simp -implicitDefEqProofs (disch := omega) only [go_sem, seval, h1, s1, h4]
    refine wp_draw_E ?_
    simp -implicitDefEqProofs (disch := omega) only [go_sem, seval, h1, s1, h4, c0, q1, q2, hF]
    cases A
    · simp only [Bool.false_eq_true, if_false] at e
      rcases hA with h3 | ⟨gq, h3, s3⟩
      · have w := hW k
        simp -implicitDefEqProofs (disch := omega) only [go_sem, seval, DF.v] at w
        simp -implicitDefEqProofs (disch := omega) only [go_sem, seval, h1, s1, h3, h4, rr, q1, q2, w, DF.v, fro]
        exact ⟨i + 1, by omega, by omega, by simp -implicitDefEqProofs (disch := omega) only [go_sem, seval, h1], by simp -implicitDefEqProofs (disch := omega) only [go_sem, seval, s1, rk], by simp -implicitDefEqProofs (disch := omega) only [go_sem, seval, go_sem], .inr ⟨(σ 2752).gen + 1, by simp -implicitDefEqProofs (disch := omega) only [go_sem, seval, e], by simp -implicitDefEqProofs (disch := omega) only [go_sem, seval, e]⟩⟩
      · have w := hW .ro
        simp -implicitDefEqProofs (disch := omega) only [go_sem, seval, DF.v] at w
        simp -implicitDefEqProofs (disch := omega) only [go_sem, seval, h1, s1, h3, s3, h4, rr, q1, q2, w, DF.v, hor, fro]
        exact ⟨i + 1, by omega, by omega, by simp -implicitDefEqProofs (disch := omega) only [go_sem, seval, h1], by simp -implicitDefEqProofs (disch := omega) only [go_sem, seval, s1, rk], by simp -implicitDefEqProofs (disch := omega) only [go_sem, seval, go_sem], .inr ⟨gq + 1, by simp -implicitDefEqProofs (disch := omega) only [go_sem, seval, e], by simp -implicitDefEqProofs (disch := omega) only [go_sem, seval, e]⟩⟩
    · simp only [if_true] at e
      simp -implicitDefEqProofs (disch := omega) only [go_sem, seval, h1, s1, h4]
      refine ⟨i + 1, by omega, by omega, by simp -implicitDefEqProofs (disch := omega) only [go_sem, seval, h1], by simp -implicitDefEqProofs (disch := omega) only [go_sem, seval, s1, rk], by simp -implicitDefEqProofs (disch := omega) only [go_sem, seval, go_sem], ?_⟩
      rw [e]
      rcases hA with h3 | ⟨gq, h3, s3⟩
      · exact .inl (by simp -implicitDefEqProofs (disch := omega) only [go_sem, seval, h3])
      · exact .inr ⟨gq, by simp -implicitDefEqProofs (disch := omega) only [go_sem, seval, h3], by simp -implicitDefEqProofs (disch := omega) only [go_sem, seval, s3]⟩
  · obtain rfl : i = l2.length := by omega
    rw [all_end] at hA
    rw [all_end] at hal
    rw [← lo_end]
    generalize allF l l2 = al at *
    obtain ⟨a3, ha3⟩ : ∃ a3, t 3 = a3 := ⟨_, rfl⟩
    obtain ⟨B, hB⟩ : ∃ B, σ 2752 = B := ⟨_, rfl⟩
    have hA2 : a3 = .sl k al.length (rows DF.v al) ∨ ∃ gq, a3 = .sli 2752 gq 0 al.length 3 ∧ B = ⟨gq, .rw, true, rows DF.v al⟩ := by rw [← ha3, ← hB]; exact hA
    simp -implicitDefEqProofs (disch := omega) only [go_sem, seval, h1, s1, h4]
    refine wp_loopS (l1S k k2 l l2 al lim ch a3 B) (fun i => al.length - i) 0 ⟨by omega, by simp -implicitDefEqProofs (disch := omega) only [go_sem, seval, h1], by simp -implicitDefEqProofs (disch := omega) only [go_sem, seval, s1, rk], by simp -implicitDefEqProofs (disch := omega) only [go_sem, seval, go_sem], by simp -implicitDefEqProofs (disch := omega) only [go_sem, seval, ha3], by simp -implicitDefEqProofs (disch := omega) only [go_sem, seval, hB], 2816, (σ 2816).gen + 1, by simp, by simp -implicitDefEqProofs (disch := omega) only [go_sem, seval, loP]; rfl, by simp -implicitDefEqProofs (disch := omega) only [go_sem, seval, loP]; rfl⟩ ?_
    clear hA ha3 hB h1 s1 h4 hi hsA
    clear t σ
    rintro i ⟨t, σ⟩ ⟨hi, h1, s1, h8, h3, s3, q, gq, hq, h7, sq⟩
    simp only at h1 s1 h8 h3 s3 h7 sq
    unfold rk at s1
    have hq0 : (q == 5696) = false := beq_no (by simp at hq; omega)
    have hq1 : (128 == q) = false := beq_no (by simp at hq; omega)
    have hq2 : (2752 == q) = false := beq_no (by simp at hq; omega)
    have hq3 : (q == 640) = false := beq_no (by simp at hq; omega)
    have hq4 : (q == 768) = false := beq_no (by simp at hq; omega)
    have hlo := lo_len l l2 al i
    have hor := flen al
    have hll : ((loP l l2 al i).map V.str).length = (loP l l2 al i).length := List.length_map _
    rcases hA2 with rfl | ⟨g3, rfl, rfl⟩
    all_goals
      simp -implicitDefEqProofs (disch := omega) only [go_sem, seval, lp10_1, h3, s3, h8]
      refine condC_dec (fun hc => ?_) (fun hc => ?_)
      · have rr := frow al i hc
        have c0 := fcell0 al i hc
        obtain ⟨q1, q2⟩ := fto al i hc
        have e := lo_succ (now := l) (sure := l2) hc
        have hF := Find_ok k l (gt al i).n (by omega)
        have hF2 := Find_ok k2 l2 (gt al i).n (by omega)
        unfold looP at e
        generalize gt al i = g at *
        have hfd1 : (fD (fnd DF.n l g.n)).s = fS (fnd DF.n l g.n) := by unfold fD fS; cases fnd DF.n l g.n <;> rfl
        have hfd2 : (fD (fnd DF.n l2 g.n)).s = fS (fnd DF.n l2 g.n) := by unfold fD fS; cases fnd DF.n l2 g.n <;> rfl
        obtain ⟨⟨fn, fs, fp⟩, hfe⟩ : ∃ f, f = fD (fnd DF.n l g.n) := ⟨_, rfl⟩
        obtain ⟨⟨gn, gs, gp⟩, hge⟩ : ∃ f, f = fD (fnd DF.n l2 g.n) := ⟨_, rfl⟩
        rw [← hfe] at hF hfd1
        rw [← hge] at hF2 hfd2
        simp only at hfd1 hfd2
        clear hfe hge
        generalize (fnd DF.n l g.n).isSome = A at *
        generalize (fnd DF.n l2 g.n).isSome = A2 at *
        generalize fS (fnd DF.n l g.n) = S at *
        generalize fS (fnd DF.n l2 g.n) = S2 at *
        subst hfd1
        subst hfd2
        generalize loP l l2 al i = O at *
        simp -implicitDefEqProofs (disch := omega) only [go_sem, seval, DF.v] at hF hF2
        simp -implicitDefEqProofs (disch := omega) only [go_sem, seval, h1, s1, h3, s3, h8]
        refine wp_draw_E ?_
        simp -implicitDefEqProofs (disch := omega) only [go_sem, seval, h1, s1, h3, s3, h8, c0, q1, q2, hor, hF]
        refine wp_draw_E ?_
        cases A <;> cases A2
        all_goals simp only [bne_self_eq_false, Bool.false_or, Bool.true_or, if_true, Bool.not_eq_true', decide_eq_false_iff_not, show (true != false) = true from rfl, show (false != true) = true from rfl] at e
        · by_cases hfg : fs = gs
          · rw [if_neg (by simp [hfg])] at e
            simp -implicitDefEqProofs (disch := omega) only [go_sem, seval, h1, s1, h3, s3, h8, c0, q1, q2, hor, hF2, hfg]
            exact ⟨i + 1, by omega, by omega, by simp -implicitDefEqProofs (disch := omega) only [go_sem, seval, h1], by simp -implicitDefEqProofs (disch := omega) only [go_sem, seval, s1, rk], by simp -implicitDefEqProofs (disch := omega) only [go_sem, seval, go_sem], by simp -implicitDefEqProofs (disch := omega) only [go_sem, seval, h3], by simp -implicitDefEqProofs (disch := omega) only [go_sem, seval, s3], q, gq, hq, by simp -implicitDefEqProofs (disch := omega) only [go_sem, seval, h7, e], by simp -implicitDefEqProofs (disch := omega) only [go_sem, seval, sq, hq3, hq4, e]⟩
          · rw [if_pos hfg] at e
            simp -implicitDefEqProofs (disch := omega) only [go_sem, seval, h1, s1, h3, s3, h7, sq, h8, c0, q1, q2, hor, hF2, hfg, hq0, hq1, hq2, hq3, hq4, hll]
            exact ⟨i + 1, by omega, by omega, by simp -implicitDefEqProofs (disch := omega) only [go_sem, seval, h1], by simp -implicitDefEqProofs (disch := omega) only [go_sem, seval, s1, hq1, rk], by simp -implicitDefEqProofs (disch := omega) only [go_sem, seval, go_sem], by simp -implicitDefEqProofs (disch := omega) only [go_sem, seval, h3], by simp -implicitDefEqProofs (disch := omega) only [go_sem, seval, s3, hq2], 5760, (σ 5760).gen + 1, by simp, by simp -implicitDefEqProofs (disch := omega) only [go_sem, seval, e], by simp -implicitDefEqProofs (disch := omega) only [go_sem, seval, e]⟩
        · simp -implicitDefEqProofs (disch := omega) only [go_sem, seval, show (!(false == true)) = true from rfl, show (!(true == false)) = true from rfl, h1, s1, h3, s3, h7, sq, h8, c0, q1, q2, hor, hF2, hq0, hq1, hq2, hq3, hq4, hll]
          exact ⟨i + 1, by omega, by omega, by simp -implicitDefEqProofs (disch := omega) only [go_sem, seval, h1], by simp -implicitDefEqProofs (disch := omega) only [go_sem, seval, s1, hq1, rk], by simp -implicitDefEqProofs (disch := omega) only [go_sem, seval, go_sem], by simp -implicitDefEqProofs (disch := omega) only [go_sem, seval, h3], by simp -implicitDefEqProofs (disch := omega) only [go_sem, seval, s3, hq2], 5760, (σ 5760).gen + 1, by simp, by simp -implicitDefEqProofs (disch := omega) only [go_sem, seval, e], by simp -implicitDefEqProofs (disch := omega) only [go_sem, seval, e]⟩
        · simp -implicitDefEqProofs (disch := omega) only [go_sem, seval, show (!(false == true)) = true from rfl, show (!(true == false)) = true from rfl, h1, s1, h3, s3, h7, sq, h8, c0, q1, q2, hor, hF2, hq0, hq1, hq2, hq3, hq4, hll]
          exact ⟨i + 1, by omega, by omega, by simp -implicitDefEqProofs (disch := omega) only [go_sem, seval, h1], by simp -implicitDefEqProofs (disch := omega) only [go_sem, seval, s1, hq1, rk], by simp -implicitDefEqProofs (disch := omega) only [go_sem, seval, go_sem], by simp -implicitDefEqProofs (disch := omega) only [go_sem, seval, h3], by simp -implicitDefEqProofs (disch := omega) only [go_sem, seval, s3, hq2], 5760, (σ 5760).gen + 1, by simp, by simp -implicitDefEqProofs (disch := omega) only [go_sem, seval, e], by simp -implicitDefEqProofs (disch := omega) only [go_sem, seval, e]⟩
        · by_cases hfg : fs = gs
          · rw [if_neg (by simp [hfg])] at e
            simp -implicitDefEqProofs (disch := omega) only [go_sem, seval, h1, s1, h3, s3, h8, c0, q1, q2, hor, hF2, hfg]
            exact ⟨i + 1, by omega, by omega, by simp -implicitDefEqProofs (disch := omega) only [go_sem, seval, h1], by simp -implicitDefEqProofs (disch := omega) only [go_sem, seval, s1, rk], by simp -implicitDefEqProofs (disch := omega) only [go_sem, seval, go_sem], by simp -implicitDefEqProofs (disch := omega) only [go_sem, seval, h3], by simp -implicitDefEqProofs (disch := omega) only [go_sem, seval, s3], q, gq, hq, by simp -implicitDefEqProofs (disch := omega) only [go_sem, seval, h7, e], by simp -implicitDefEqProofs (disch := omega) only [go_sem, seval, sq, hq3, hq4, e]⟩
          · rw [if_pos hfg] at e
            simp -implicitDefEqProofs (disch := omega) only [go_sem, seval, h1, s1, h3, s3, h7, sq, h8, c0, q1, q2, hor, hF2, hfg, hq0, hq1, hq2, hq3, hq4, hll]
            exact ⟨i + 1, by omega, by omega, by simp -implicitDefEqProofs (disch := omega) only [go_sem, seval, h1], by simp -implicitDefEqProofs (disch := omega) only [go_sem, seval, s1, hq1, rk], by simp -implicitDefEqProofs (disch := omega) only [go_sem, seval, go_sem], by simp -implicitDefEqProofs (disch := omega) only [go_sem, seval, h3], by simp -implicitDefEqProofs (disch := omega) only [go_sem, seval, s3, hq2], 5760, (σ 5760).gen + 1, by simp, by simp -implicitDefEqProofs (disch := omega) only [go_sem, seval, e], by simp -implicitDefEqProofs (disch := omega) only [go_sem, seval, e]⟩
      · obtain rfl : i = al.length := by omega
        simp -implicitDefEqProofs (disch := omega) only [go_sem, seval, h7, sq, hll]
end Go.Vm.Ytclcadpmkkeaeaa
