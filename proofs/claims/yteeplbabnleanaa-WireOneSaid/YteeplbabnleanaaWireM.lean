/- One frame alone: the plain law. -/
import Derived.Test.YteeplbabnleanaaWireL
import Derived.Test.YteeplbabnleanaaCrcLaw
set_option linter.unusedSectionVars false
set_option linter.unusedSimpArgs false
set_option linter.unusedVariables false
set_option maxHeartbeats 1000000
set_option maxRecDepth 10000
namespace Go.Vm.Yteeplbabnleanaa
open Go.Proofs
theorem unframe_parts (n : Nat) (M y : List UInt8) (hn : n ≤ 65536) (hM : M.length = 4) (hy : y.length = n) : unframe (numB (UInt64.ofNat n) 4 ++ (M ++ y)) 0 = if beV M = (crc (numB (UInt64.ofNat n) 4 ++ y)).toUInt64 then (y, 8 + n, 0) else ([], 0, 6) := by
  have hl := numB_len 4 (UInt64.ofNat n)
  have hu := unframe_in (numB (UInt64.ofNat n) 4 ++ (M ++ y)) 0 (by omega)
  have c1 := a_count (S := numB (UInt64.ofNat n) 4 ++ (M ++ y)) (P := []) (R := M ++ y) (c := n) (most := 2147483647) rfl hn (by omega)
  have n2 := a_number (S := numB (UInt64.ofNat n) 4 ++ (M ++ y)) (P := numB (UInt64.ofNat n) 4) (M := M) (R := y) (n := 4) rfl (by rw [hM]; rfl) (by omega)
  have n3 := a_bytes (S := numB (UInt64.ofNat n) 4 ++ (M ++ y)) (P := numB (UInt64.ofNat n) 4 ++ M) (M := y) (R := []) (n := (n : Int)) (by simp only [List.append_assoc, List.append_nil]) (by rw [hy])
  rw [hl, hM] at n2
  rw [List.length_append, hl, hM, hy] at n3
  simp only [List.length_nil, Nat.zero_add] at c1
  rw [List.drop_zero, c1] at hu
  simp only at hu
  rw [n2] at hu
  simp only at hu
  rw [n3] at hu
  refine Eq.trans hu ?_
  unfold unfin
  rw [if_neg (by simp)]
  by_cases hb : beV M = (crc (numB (UInt64.ofNat n) 4 ++ y)).toUInt64
  · rw [if_neg (by simpa using hb), if_pos hb]
    simp only
    rw [show 0 + (4 + 4 + n) = 8 + n by omega]
  · rw [if_pos hb, if_neg hb]
/-- Four bytes are the number's bytes. -/
theorem numB_beV : ∀ (k : Nat) (M : List UInt8), M.length = k → k ≤ 7 → numB (beV M) k = M
  | 0, M, h, _ => by
    have : M = [] := List.eq_nil_of_length_eq_zero h
    subst this
    rfl
  | k + 1, M, h, hk => by
    have hne : M ≠ [] := fun c => by rw [c] at h; simp at h
    obtain ⟨s, b, rfl⟩ : ∃ s b, M = s ++ [b] := ⟨M.dropLast, M.getLast hne, (List.dropLast_concat_getLast hne).symm⟩
    have hs : s.length = k := by rw [List.length_append] at h; simpa using h
    have ih := numB_beV k s hs (by omega)
    have hlt := beV_lt k s (by omega) (by omega)
    have hp : 256 ^ k ≤ 256 ^ 6 := Nat.pow_le_pow_right (by omega) (by omega)
    have hb := b.toNat_lt
    have e := shl8_or (beV s) b
    rw [numB, beV_snoc]
    have e1 : (beV s <<< UInt64.ofNat 8 ||| b.toUInt64) / 256 = beV s := by
      apply UInt64.toNat_inj.1
      rw [UInt64.toNat_div, e]
      show _ / 256 = _
      omega
    have e2 : (beV s <<< UInt64.ofNat 8 ||| b.toUInt64).toUInt8 = b := by
      apply UInt8.toNat_inj.1
      rw [UInt64.toNat_toUInt8, e]
      omega
    rw [e1, e2, ih]
theorem beV_inj {M N : List UInt8} (hM : M.length = 4) (hN : N.length = 4) (h : beV M = beV N) : M = N := by
  rw [← numB_beV 4 M hM (by omega), ← numB_beV 4 N hN (by omega), h]
theorem bytes_zero {r : Rd} {n : Int} (h : (r.bytes n).1.err = 0) : r.err = 0 ∧ 0 ≤ n ∧ n ≤ (r.s.length : Int) - r.at' ∧ r.bytes n = ({ r with at' := r.at' + n.toNat }, (r.s.drop r.at').take n.toNat) := by
  unfold Rd.bytes at h ⊢
  by_cases h1 : r.err ≠ 0
  · rw [if_pos h1] at h; exact absurd h h1
  · rw [if_neg h1] at h ⊢
    by_cases h2 : n < 0
    · rw [if_pos h2] at h; simp at h
    · rw [if_neg h2] at h ⊢
      by_cases h3 : (r.s.length : Int) - r.at' < n
      · rw [if_pos h3] at h; simp at h
      · rw [if_neg h3]
        exact ⟨by simpa using h1, by omega, by omega, rfl⟩
theorem number_zero {r : Rd} (h : (r.number 4).1.err = 0) : r.err = 0 ∧ (r.at' : Int) + 4 ≤ r.s.length ∧ r.number 4 = ({ r with at' := r.at' + 4 }, beV ((r.s.drop r.at').take 4)) := by
  have e : ∀ q : Rd, q.number 4 = ((q.bytes 4).1, beV (q.bytes 4).2) := fun q => by
    unfold Rd.number
    rw [if_neg (fun c => absurd c.2 (by omega))]
  rw [e] at h ⊢
  obtain ⟨h1, h2, h3, h4⟩ := bytes_zero h
  rw [h4]
  exact ⟨h1, by omega, rfl⟩
theorem count_zero {r : Rd} {m : Int} (h : (r.count m).1.err = 0) : r.err = 0 ∧ (r.at' : Int) + 4 ≤ r.s.length ∧ r.count m = ({ r with at' := r.at' + 4 }, (beV ((r.s.drop r.at').take 4)).toNat) := by
  unfold Rd.count at h ⊢
  simp only at h ⊢
  by_cases h1 : (r.number 4).1.err ≠ 0
  · rw [if_pos h1] at h; exact absurd h h1
  · obtain ⟨a, b, c⟩ := number_zero (r := r) (by simpa using h1)
    rw [if_neg h1] at h ⊢
    by_cases h2 : m < 0 ∨ m < ((r.number 4).2.toNat : Int)
    · rw [if_pos h2] at h; simp at h
    · rw [if_neg h2, c]
      exact ⟨a, b, rfl⟩
/-- What is read as a frame is the frame of its text. -/
theorem unframe_is (x : List UInt8) (hx : x.length ≤ 3000) (h : (unframe x 0).2.2 = 0) : (unframe x 0).2.1 ≤ x.length ∧ frameB (unframe x 0).1 = x.take (unframe x 0).2.1 := by
  have hu := unframe_in x 0 (by omega)
  rw [List.drop_zero] at hu
  have hu' : unframe x 0 = _ := hu
  rw [hu'] at h ⊢
  clear hu hu'
  unfold unfin at h ⊢
  generalize hq1 : (Rd.mk x 0 0).count 2147483647 = q1 at *
  generalize hq2 : q1.1.number 4 = q2 at *
  generalize hq3 : q2.1.bytes q1.2 = q3 at *
  by_cases h3 : q3.1.err ≠ 0
  · rw [if_pos h3] at h; exact absurd h h3
  rw [if_neg h3] at h ⊢
  by_cases h4 : q2.2 ≠ (crc (numB (UInt64.ofNat q1.2) 4 ++ q3.2)).toUInt64
  · rw [if_pos h4] at h; simp at h
  rw [if_neg h4]
  have h4' : q2.2 = (crc (numB (UInt64.ofNat q1.2) 4 ++ q3.2)).toUInt64 := by simpa using h4
  obtain ⟨b1, b2, b3, b4⟩ := bytes_zero (r := q2.1) (n := q1.2) (by rw [hq3]; simpa using h3)
  obtain ⟨n1, n2, n3⟩ := number_zero (r := q1.1) (by rw [hq2]; exact b1)
  obtain ⟨c1, c2, c3⟩ := count_zero (r := Rd.mk x 0 0) (m := 2147483647) (by rw [hq1]; exact n1)
  rw [hq1] at c3
  rw [hq2] at n3
  rw [hq3] at b4
  subst c3
  simp only at n2 n3 c2
  subst n3
  simp only at b3 b4 h4'
  subst b4
  simp only at h4' ⊢
  simp only [Nat.zero_add, List.drop_zero, Int.toNat_natCast, show 4 + 4 = 8 from rfl] at *
  generalize hc : (beV (x.take 4)).toNat = c at *
  have hA : (x.take 4).length = 4 := by rw [List.length_take]; omega
  have hM : ((x.drop 4).take 4).length = 4 := by rw [List.length_take, List.length_drop]; omega
  have hy : ((x.drop 8).take c).length = c := by rw [List.length_take, List.length_drop]; omega
  have ec : UInt64.ofNat c = beV (x.take 4) := by rw [← hc]; exact UInt64.ofNat_toNat
  refine ⟨by omega, ?_⟩
  unfold frameB
  rw [hy, ← h4', ec, numB_beV 4 _ hA (by omega), numB_beV 4 _ hM (by omega)]
  rw [show 8 + c = 4 + (4 + c) by omega, List.take_add, List.take_add, List.drop_drop, List.append_assoc]
end Go.Vm.Yteeplbabnleanaa
