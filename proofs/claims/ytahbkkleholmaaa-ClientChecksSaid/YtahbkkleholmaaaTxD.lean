/- (seval) Transactions, in the machine: off a reader. -/
import Derived.Test.YtahbkkleholmaaaTxA
set_option linter.unusedSectionVars false
set_option linter.unusedSimpArgs false
set_option linter.unusedVariables false
set_option maxHeartbeats 1000000
set_option maxRecDepth 10000
namespace Go.Vm.Ytahbkkleholmaaa
open Go.Proofs
theorem number1_lt (r : Rd) : (r.number 1).2.toNat < 256 := by
  have hb : (r.number 1).2 = beV (r.bytes 1).2 := by unfold Rd.number; rw [if_neg (fun c => absurd c.2 (by omega))]
  rw [hb]
  have hl : (r.bytes 1).2.length ≤ 1 := by
    unfold Rd.bytes
    repeat' split
    · simp
    · simp
    · simp
    · simp only [List.length_take]; omega
  exact beV_lt 1 _ hl (by omega)
theorem ops_small : ∀ (n : Nat) (r : Rd) (acc : List Opn), (∀ o ∈ acc, o.key.length ≤ 32 ∧ o.val.length ≤ 64) → ∀ o ∈ (takeOps n r acc).2, o.key.length ≤ 32 ∧ o.val.length ≤ 64
  | 0, r, acc, h => h
  | n + 1, r, acc, h => by
    unfold takeOps
    split
    · refine ops_small n _ _ fun o ho => ?_
      rcases List.mem_append.1 ho with ho | ho
      · exact h o ho
      · obtain rfl := List.mem_singleton.1 ho
        have l1 := text_len (r := (r.number 1).1) (m := 32)
        have l2 := text_len (r := ((r.number 1).1.text 32).1) (m := 64)
        simp only
        omega
    · exact h
theorem raw_small {r : Rd} (h : r.ok) : (rawTx r).2.ops.length ≤ 8 ∧ ∀ o ∈ (rawTx r).2.ops, o.key.length ≤ 32 ∧ o.val.length ≤ 64 := by
  have hm := count_lt ((r.number 8).1.number 8).1 8
  have hl := takeOps_len (((r.number 8).1.number 8).1.count 8).2 (((r.number 8).1.number 8).1.count 8).1 []
  refine ⟨?_, ops_small _ _ [] (by simp)⟩
  show (takeOps _ _ _).2.length ≤ 8
  rw [List.length_nil] at hl
  omega
/-- The reader in the machine: at a block. -/
def ftS (c n : UInt64) (m i : Nat) (r : Rd) (acc : List Opn) (s : St) : Prop := s.t 1 = .ptr 128 1 0 ∧ s.σ 128 = ⟨1, .rw, false, r.v⟩ ∧ s.t 2 = .ptr 192 1 0 ∧ s.σ 192 = ⟨1, .rw, false, [.str [], .int .i64 0, .int .i64 0]⟩ ∧ s.t 3 = .ptr 256 1 0 ∧ s.σ 256 = ⟨1, .rw, false, [.int .u64 0, .int .u64 0, .sl .nil 0 []]⟩ ∧ s.t 4 = .ptr 320 1 0 ∧ s.t 5 = .int .i64 (m : Int) ∧ s.t 6 = .int .i64 (i : Int) ∧ rowsO c n acc 320 4096 s.σ
/-- Where the loop stands: what is left to do gives the same. -/
def ftI (c n : UInt64) (m : Nat) (r0 : Rd) (a : Nat × Rd × List Opn) (s : St) : Prop := a.1 ≤ m ∧ m ≤ 8 ∧ a.2.1.ok ∧ a.2.2.length = a.1 ∧ takeOps (m - a.1) a.2.1 a.2.2 = takeOps m r0 [] ∧ ftS c n m a.1 a.2.1 a.2.2 s
end Go.Vm.Ytahbkkleholmaaa
/- Transactions, in the machine: the program's own reading. -/
namespace Go.Vm.Ytahbkkleholmaaa
open Go.Proofs
def wtS (c n : UInt64) (m i : Nat) (r : Rd) (acc : List Opn) (s : St) : Prop := s.t 0 = .ptr 0 1 0 ∧ s.σ 0 = ⟨1, .rw, false, r.v⟩ ∧ s.t 2 = .ptr 192 1 0 ∧ s.σ 192 = ⟨1, .rw, false, [.int .u64 0, .int .u64 0, .sl .nil 0 []]⟩ ∧ s.t 3 = .ptr 256 1 0 ∧ s.t 4 = .int .i64 ((m - i : Nat) : Int) ∧ rowsO c n acc 256 2112 s.σ
def wtI (c n : UInt64) (m : Nat) (r0 : Rd) (a : Nat × Rd × List Opn) (s : St) : Prop := a.1 ≤ m ∧ m ≤ 8 ∧ a.2.1.ok ∧ a.2.2.length = a.1 ∧ takeOps (m - a.1) a.2.1 a.2.2 = takeOps m r0 [] ∧ wtS c n m a.1 a.2.1 a.2.2 s
theorem Take_ok (r : Rd) (h : r.ok) : Gf fns 60 [.opt r.v] = some (.agg ((takeT r).2.v (ownRows (takeT r).2.ops)), [.opt (takeT r).1.v]) := by
  have n1 := RNumber_ok r h 8
  have h1 := Rd.number_ok h 8
  have n2 := RNumber_ok (r.number 8).1 h1.1 8
  have h2 := Rd.number_ok h1.1 8
  have n3 := RCount_ok ((r.number 8).1.number 8).1 h2.1 8 (by omega)
  have h3 := Rd.count_ok h2.1 8
  have hx : rawTx r = ((takeOps (((r.number 8).1.number 8).1.count 8).2 (((r.number 8).1.number 8).1.count 8).1 []).1, ⟨(r.number 8).2, ((r.number 8).1.number 8).2, (takeOps (((r.number 8).1.number 8).1.count 8).2 (((r.number 8).1.number 8).1.count 8).1 []).2⟩) := rfl
  have hm : (((r.number 8).1.number 8).1.count 8).2 ≤ 8 := by have := count_lt ((r.number 8).1.number 8).1 8; omega
  have hsm := raw_small h
  unfold takeT
  rw [hx] at hsm ⊢
  generalize r.number 8 = q1 at *
  generalize q1.1.number 8 = q2 at *
  generalize q2.1.count 8 = q3 at *
  obtain ⟨⟨s1, a1, e1⟩, x1⟩ := q1
  obtain ⟨⟨s2, a2, e2⟩, x2⟩ := q2
  obtain ⟨⟨s3, a3, e3⟩, m⟩ := q3
  obtain ⟨s, a, e⟩ := r
  simp only at hm hsm ⊢
  simp -implicitDefEqProofs (disch := omega) only [go_sem, seval, Rd.v] at n1 n2 n3
  refine Gf_start rfl rfl ?_
  simp -implicitDefEqProofs (disch := omega) only [go_sem, seval, Rd.v, callr35, n1, n2, callr40, n3]
  refine wp_loopS (wtI x1 x2 m ⟨s3, a3, e3⟩) (fun a => m - a.1) (0, ⟨s3, a3, e3⟩, []) ⟨by omega, hm, h3.1, rfl, by simp, by simp -implicitDefEqProofs (disch := omega) only [go_sem, seval, go_sem], by simp -implicitDefEqProofs (disch := omega) only [go_sem, seval, Rd.v], by simp -implicitDefEqProofs (disch := omega) only [go_sem, seval, go_sem], by simp -implicitDefEqProofs (disch := omega) only [go_sem, seval, go_sem], by simp -implicitDefEqProofs (disch := omega) only [go_sem, seval, go_sem], by simp -implicitDefEqProofs (disch := omega) only [go_sem, seval, go_sem], .inl ⟨rfl, by simp -implicitDefEqProofs (disch := omega) only [go_sem, seval, go_sem]⟩⟩ ?_
  rintro ⟨i, r, acc⟩ ⟨t, σ⟩ ⟨hi, _, hr, hl, hto, t0, u0, t2, u2, t3, t4, ho⟩
  simp only at hi hr hl hto t0 u0 t2 u2 t3 t4 ho
  have er := Err_ok r
  by_cases hc : i < m ∧ r.err = 0
  · obtain ⟨hc, he⟩ := hc
    have m1 := RNumber_ok r hr 1
    have g1 := Rd.number_ok hr 1
    have m2 := RText_ok (r.number 1).1 g1.1 32 (by omega)
    have g2 := Rd.text_ok g1.1 32
    have m3 := RText_ok ((r.number 1).1.text 32).1 g2.1 64 (by omega)
    have g3 := Rd.text_ok g2.1 64
    have htn : takeOps (m - i) r acc = takeOps (m - (i + 1)) (((r.number 1).1.text 32).1.text 64).1 (acc ++ [⟨((r.number 1).2.toNat : Int), ((r.number 1).1.text 32).2, (((r.number 1).1.text 32).1.text 64).2⟩]) := by
      rw [show m - i = (m - (i + 1)) + 1 by omega, takeOps, if_pos he]
    rw [hto] at htn
    have hnl := number1_lt r
    generalize r.number 1 = q1 at *
    generalize q1.1.text 32 = q2 at *
    generalize q2.1.text 64 = q3 at *
    obtain ⟨⟨z1, b1, f1⟩, y1⟩ := q1
    obtain ⟨⟨z2, b2, f2⟩, y2⟩ := q2
    obtain ⟨⟨z3, b3, f3⟩, y3⟩ := q3
    obtain ⟨rs, ra, re⟩ := r
    simp only at he hnl
    subst he
    have hrt := rlen acc
    rw [hl] at hrt
    have hX : rows Opn.v (acc ++ [⟨(y1.toNat : Int), y2, y3⟩]) = rows Opn.v acc ++ [.int .i64 (y1.toNat : Int), .str y2, .str y3] := by rw [rows_append]; rfl
    have hX0 : rows Opn.v [⟨(y1.toNat : Int), y2, y3⟩] = [.int .i64 (y1.toNat : Int), .str y2, .str y3] := rfl
    have hne : acc ++ [(⟨(y1.toNat : Int), y2, y3⟩ : Opn)] ≠ [] := by simp
    have hln : (acc ++ [(⟨(y1.toNat : Int), y2, y3⟩ : Opn)]).length = i + 1 := by simp [hl]
    have hmi : 0 < m - i := by omega
    have e4 : ((m - i : Nat) : Int) - 1 = ((m - (i + 1) : Nat) : Int) := by omega
    simp -implicitDefEqProofs (disch := omega) only [go_sem, seval, Rd.v] at m1 m2 m3 u0 er
    rcases ho with ⟨hn, sb⟩ | ⟨hn, gq, sb, sq⟩
    · have hi0 : i = 0 := by rw [hn] at hl; simpa using hl.symm
      subst hi0
      subst hn
      simp -implicitDefEqProofs (disch := omega) only [go_sem, seval, lp60_0, t0, u0, t3, t4, hmi, er]
      refine wp_draw_E ?_
      simp -implicitDefEqProofs (disch := omega) only [go_sem, seval, t0, u0, t3, t4, sb, callV_T at35, m1, callV_T at58, m2, m3, e4]
      refine ⟨(1, ⟨z3, b3, f3⟩, [⟨(y1.toNat : Int), y2, y3⟩]), by omega, by omega, hm, g3.1, rfl, htn.symm, by simp -implicitDefEqProofs (disch := omega) only [go_sem, seval, t0], by simp -implicitDefEqProofs (disch := omega) only [go_sem, seval, Rd.v], by simp -implicitDefEqProofs (disch := omega) only [go_sem, seval, t2], by simp -implicitDefEqProofs (disch := omega) only [go_sem, seval, u2], by simp -implicitDefEqProofs (disch := omega) only [go_sem, seval, t3], by simp -implicitDefEqProofs (disch := omega) only [go_sem, seval, e4], .inr ⟨by simp, (σ 2112).gen + 1, by simp -implicitDefEqProofs (disch := omega) only [go_sem, seval, go_sem], by simp -implicitDefEqProofs (disch := omega) only [go_sem, seval, hX0]⟩⟩
    · rw [hl] at sb
      simp -implicitDefEqProofs (disch := omega) only [go_sem, seval, lp60_0, t0, u0, t3, t4, hmi, er]
      refine wp_draw_E ?_
      simp -implicitDefEqProofs (disch := omega) only [go_sem, seval, t0, u0, t3, t4, sb, sq, callV_T at35, m1, callV_T at58, m2, m3, e4]
      refine ⟨(i + 1, ⟨z3, b3, f3⟩, acc ++ [⟨(y1.toNat : Int), y2, y3⟩]), by omega, by omega, hm, g3.1, hln, htn.symm, by simp -implicitDefEqProofs (disch := omega) only [go_sem, seval, t0], by simp -implicitDefEqProofs (disch := omega) only [go_sem, seval, Rd.v], by simp -implicitDefEqProofs (disch := omega) only [go_sem, seval, t2], by simp -implicitDefEqProofs (disch := omega) only [go_sem, seval, u2], by simp -implicitDefEqProofs (disch := omega) only [go_sem, seval, t3], by simp -implicitDefEqProofs (disch := omega) only [go_sem, seval, e4], .inr ⟨hne, gq + 1, by simp -implicitDefEqProofs (disch := omega) only [go_sem, seval, hln], by simp -implicitDefEqProofs (disch := omega) only [go_sem, seval, hX]⟩⟩
  · have hfin : takeOps m ⟨s3, a3, e3⟩ [] = (r, acc) := by
      rw [← hto]
      by_cases h1 : i < m
      · have h2 : ¬ r.err = 0 := fun c => hc ⟨h1, c⟩
        rw [show m - i = (m - (i + 1)) + 1 by omega, takeOps, if_neg h2]
      · rw [show m - i = 0 by omega, takeOps]
    rw [hfin] at hsm ⊢
    obtain ⟨h8, hsm⟩ := hsm
    simp only at h8 hsm
    have ck := Check_ok ⟨x1, x2, acc⟩ .ro (by simp) (by simp only; omega) (fun o ho => ⟨by have := (hsm o ho).1; omega, by have := (hsm o ho).2; omega⟩)
    have ck0 := Check_ok ⟨x1, x2, []⟩ .nil (by simp) (by simp) (fun o ho => by simp at ho)
    have k0 : okTx ⟨x1, x2, []⟩ = false := by unfold okTx; simp
    rw [k0] at ck0
    have hrt := rlen acc
    have hro := rro 6 acc
    have hro5 := rro 5 acc
    have f0 := RFail_ok r 0
    have f4 := RFail_ok r 40
    have zz : (0 : UInt64).toNat = 0 := rfl
    have er4 := Err_ok { r with err := 40 }
    unfold chkTx
    obtain ⟨rs, ra, re⟩ := r
    simp only at hc
    unfold Rd.fail at f0 f4
    simp -implicitDefEqProofs (disch := omega) only [go_sem, seval, Rd.v] at u0 er f0 f4 er4
    rcases ho with ⟨hn, sb⟩ | ⟨hn, gq, sb, sq⟩
    · subst hn
      simp -implicitDefEqProofs (disch := omega) only [go_sem, seval, Tn.v, Tn.os, rows_nil] at ck0
      by_cases he : re = 0
      · subst he
        have him : ¬ 0 < m - i := fun c => hc ⟨by omega, rfl⟩
        simp -implicitDefEqProofs (disch := omega) only [go_sem, seval, lp60_0, t0, u0, t2, u2, t3, t4, him, er, sb, ck0, k0, callr41, f4, er4, Rd.v, Tn.v, zeroT, zz, ownRows]
      · by_cases him : 0 < m - i
        · simp -implicitDefEqProofs (disch := omega) only [go_sem, seval, lp60_0, t0, u0, t2, u2, t3, t4, him, er, sb, he, Rd.v, Tn.v, zeroT, zz, ownRows]
        · simp -implicitDefEqProofs (disch := omega) only [go_sem, seval, lp60_0, t0, u0, t2, u2, t3, t4, him, er, sb, he, Rd.v, Tn.v, zeroT, zz, ownRows]
    · simp -implicitDefEqProofs (disch := omega) only [go_sem, seval, Tn.v, Tn.os] at ck
      by_cases he : re = 0
      · subst he
        have him : ¬ 0 < m - i := fun c => hc ⟨by omega, rfl⟩
        cases kx : okTx ⟨x1, x2, acc⟩
        · rw [kx] at ck
          simp -implicitDefEqProofs (disch := omega) only [go_sem, seval, lp60_0, t0, u0, t2, u2, t3, t4, him, er, sb, sq, ck, hro, callr41, f4, er4, Rd.v, Tn.v, zeroT, zz, ownRows, hn, hro5]
        · rw [kx] at ck
          simp -implicitDefEqProofs (disch := omega) only [go_sem, seval, lp60_0, t0, u0, t2, u2, t3, t4, him, er, sb, sq, ck, hro, callr41, f0, Rd.v, Tn.v, zeroT, zz, ownRows, hn, hro5]
      · by_cases him : 0 < m - i
        · simp -implicitDefEqProofs (disch := omega) only [go_sem, seval, lp60_0, t0, u0, t2, u2, t3, t4, him, er, sb, sq, he, Rd.v, Tn.v, zeroT, zz, ownRows, hn]
        · simp -implicitDefEqProofs (disch := omega) only [go_sem, seval, lp60_0, t0, u0, t2, u2, t3, t4, him, er, sb, sq, he, Rd.v, Tn.v, zeroT, zz, ownRows, hn]
end Go.Vm.Ytahbkkleholmaaa
