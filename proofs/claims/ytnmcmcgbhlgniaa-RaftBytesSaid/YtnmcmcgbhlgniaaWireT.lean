/- What is read, and what was told: plain facts of readers. -/
import Derived.Test.YtnmcmcgbhlgniaaWireG
set_option linter.unusedSectionVars false
set_option linter.unusedSimpArgs false
set_option linter.unusedVariables false
namespace Go.Vm
theorem nb_beV : ∀ (k : Nat) (M : List UInt8), M.length = k → k ≤ 8 → numB (beV M) k = M
  | 0, M, h, _ => by
    have : M = [] := List.eq_nil_of_length_eq_zero h
    subst this
    rfl
  | k + 1, M, h, hk => by
    have hne : M ≠ [] := fun c => by rw [c] at h; simp at h
    obtain ⟨s, b, rfl⟩ : ∃ s b, M = s ++ [b] := ⟨M.dropLast, M.getLast hne, (List.dropLast_concat_getLast hne).symm⟩
    have hs : s.length = k := by rw [List.length_append] at h; simpa using h
    have ih := nb_beV k s hs (by omega)
    have hlt := beV_lt k s (by omega) (by omega)
    have hp : 256 ^ k ≤ 256 ^ 7 := Nat.pow_le_pow_right (by omega) (by omega)
    have hb := b.toNat_lt
    have e := shl8_or (beV s) b
    rw [numB, beV_snoc]
    have e1 : (beV s <<< UInt64.ofNat 8 ||| b.toUInt64) / 256 = beV s := by
      apply UInt64.toNat_inj.1
      rw [UInt64.toNat_div, e]
      show _ / 256 = _
      omega
    have e2 : (beV s <<< UInt64.ofNat 8 ||| b.toUInt64).toUInt8 = b := by
      apply UInt8.toNat_inj.1
      rw [UInt64.toNat_toUInt8, e]
      omega
    rw [e1, e2, ih]
theorem nb_zero {r : Rd} {n : Int} (h : (r.bytes n).1.err = 0) : r.err = 0 ∧ 0 ≤ n ∧ n ≤ (r.s.length : Int) - r.at' ∧ r.bytes n = ({ r with at' := r.at' + n.toNat }, (r.s.drop r.at').take n.toNat) := by
  unfold Rd.bytes at h ⊢
  by_cases h1 : r.err ≠ 0
  · rw [if_pos h1] at h; exact absurd h h1
  · rw [if_neg h1] at h ⊢
    by_cases h2 : n < 0
    · rw [if_pos h2] at h; simp at h
    · rw [if_neg h2] at h ⊢
      by_cases h3 : (r.s.length : Int) - r.at' < n
      · rw [if_pos h3] at h; simp at h
      · rw [if_neg h3]
        exact ⟨by simpa using h1, by omega, by omega, rfl⟩
theorem nb_back : ∀ (b : Nat) (n : UInt64), n.toNat < 256 ^ b → beV (numB n b) = n
  | 0, n, h => by
    have : n.toNat = 0 := by simpa using h
    apply UInt64.toNat_inj.1
    rw [this]
    rfl
  | b + 1, n, h => by
    have hd : (n / 256).toNat = n.toNat / 256 := UInt64.toNat_div n 256
    rw [numB, beV_snoc, nb_back b (n / 256) (by rw [hd]; rw [Nat.pow_succ] at h; omega)]
    apply UInt64.toNat_inj.1
    have hn := lt_u64 n
    rw [shl8_or, hd, UInt64.toNat_toUInt8]
    omega
theorem tbytes_at (P M R : List UInt8) : (Rd.mk (P ++ (M ++ R)) P.length 0).bytes (M.length : Int) = (⟨P ++ (M ++ R), P.length + M.length, 0⟩, M) := by
  unfold Rd.bytes
  rw [if_neg (by simp), if_neg (by omega), if_neg (by simp only [List.length_append]; omega)]
  simp
theorem ta_bytes {S P M R : List UInt8} {n : Int} (hS : S = P ++ (M ++ R)) (hn : n = M.length) : (Rd.mk S P.length 0).bytes n = (⟨S, P.length + M.length, 0⟩, M) := by
  subst hS; subst hn; exact tbytes_at P M R
theorem ta_number {S P M R : List UInt8} {n : Int} (hS : S = P ++ (M ++ R)) (hn : n = M.length) (h8 : n ≤ 8) : (Rd.mk S P.length 0).number n = (⟨S, P.length + M.length, 0⟩, beV M) := by
  unfold Rd.number
  rw [if_neg (by simp; omega), ta_bytes hS hn]
theorem ta_count {S P R : List UInt8} {c : Nat} {most : Int} (hS : S = P ++ (numB (UInt64.ofNat c) 4 ++ R)) (hc : c ≤ 65536) (hm : (c : Int) ≤ most) : (Rd.mk S P.length 0).count most = (⟨S, P.length + 4, 0⟩, c) := by
  have e : (UInt64.ofNat c).toNat = c := UInt64.toNat_ofNat_of_lt' (by show c < 18446744073709551616; omega)
  unfold Rd.count
  rw [ta_number (n := 4) hS (by rw [numB_len]; rfl) (by omega), numB_len, nb_back 4 _ (by rw [e]; omega)]
  simp only
  rw [if_neg (by simp), e, if_neg (by omega)]
theorem ta_text {S P R s : List UInt8} {most : Int} (hS : S = P ++ ((numB (UInt64.ofNat s.length) 4 ++ s) ++ R)) (hs : s.length ≤ 3000) (hm : (s.length : Int) ≤ most) : (Rd.mk S P.length 0).text most = (⟨S, P.length + (4 + s.length), 0⟩, s) := by
  have h1 : S = P ++ (numB (UInt64.ofNat s.length) 4 ++ (s ++ R)) := by rw [hS]; simp only [List.append_assoc]
  have h2 : S = (P ++ numB (UInt64.ofNat s.length) 4) ++ (s ++ R) := by rw [hS]; simp only [List.append_assoc]
  have hb := ta_bytes (n := (s.length : Int)) h2 rfl
  rw [List.length_append, numB_len] at hb
  unfold Rd.text
  rw [ta_count h1 (by omega) hm]
  simp only
  rw [hb]
  simp only
  rw [if_neg (by simp), Nat.add_assoc]
/-- A reader went over just these bytes. -/
def Took (r q : Rd) (B : List UInt8) : Prop := q.err = 0 → r.err = 0 ∧ q.s = r.s ∧ q.at' = r.at' + B.length ∧ q.at' ≤ q.s.length ∧ q.s.take q.at' = r.s.take r.at' ++ B
theorem Took.trans {r q p : Rd} {B C : List UInt8} (h : Took r q B) (g : Took q p C) : Took r p (B ++ C) := by
  intro he
  obtain ⟨g1, g2, g3, g4, g5⟩ := g he
  obtain ⟨h1, h2, h3, h4, h5⟩ := h g1
  refine ⟨h1, by rw [g2, h2], by rw [g3, h3, List.length_append]; omega, g4, ?_⟩
  rw [g5, h5, List.append_assoc]
theorem Took.of {r q : Rd} {B C : List UInt8} (h : Took r q B) (e : q.err = 0 → B = C) : Took r q C := by
  intro he
  rw [← e he]
  exact h he
theorem took_bytes (r : Rd) (n : Int) : Took r (r.bytes n).1 (r.bytes n).2 := by
  intro h
  obtain ⟨h1, h2, h3, h4⟩ := nb_zero h
  rw [h4]
  have hl : ((r.s.drop r.at').take n.toNat).length = n.toNat := by simp only [List.length_take, List.length_drop]; omega
  refine ⟨h1, rfl, by simp only [hl], by simp only; omega, ?_⟩
  simp only
  rw [List.take_add]
theorem took_len {r : Rd} {n : Int} (h : (r.bytes n).1.err = 0) : (r.bytes n).2.length = n.toNat := by
  obtain ⟨h1, h2, h3, h4⟩ := nb_zero h
  rw [h4]
  simp only [List.length_take, List.length_drop]
  omega
theorem took_number (r : Rd) (n : Int) (hn : n ≤ 8) : Took r (r.number n).1 (numB (r.number n).2 n.toNat) := by
  unfold Rd.number
  rw [if_neg (fun c => absurd c.2 (by omega))]
  refine (took_bytes r n).of fun h => ?_
  simp only
  rw [nb_beV n.toNat _ (took_len h) (by omega)]
theorem took_count (r : Rd) (m : Int) : Took r (r.count m).1 (numB (UInt64.ofNat (r.count m).2) 4) := by
  intro h
  have t := took_number r 4 (by omega)
  unfold Rd.count at h ⊢
  simp only at h ⊢
  by_cases h1 : (r.number 4).1.err ≠ 0
  · rw [if_pos h1] at h; exact absurd h h1
  · rw [if_neg h1] at h ⊢
    by_cases h2 : m < 0 ∨ m < ((r.number 4).2.toNat : Int)
    · rw [if_pos h2] at h; simp at h
    · rw [if_neg h2]
      have := t (by simpa using h1)
      rw [UInt64.ofNat_toNat]
      exact this
theorem took_text (r : Rd) (m : Int) : Took r (r.text m).1 (numB (UInt64.ofNat (r.text m).2.length) 4 ++ (r.text m).2) := by
  intro h
  have t := took_count r m
  have u := took_bytes (r.count m).1 (r.count m).2
  unfold Rd.text at h ⊢
  simp only at h ⊢
  by_cases h1 : ((r.count m).1.bytes (r.count m).2).1.err ≠ 0
  · rw [if_pos h1] at h; exact absurd h h1
  · have h0 : ((r.count m).1.bytes (r.count m).2).1.err = 0 := by simpa using h1
    rw [if_neg h1]
    have hl := took_len h0
    rw [Int.toNat_natCast] at hl
    rw [hl]
    exact t.trans u h0
theorem text_len {r : Rd} {m : Int} : ((r.text m).2.length : Int) ≤ max m 0 := by
  unfold Rd.text
  simp only
  have h1 := Go.Vm.Ytnmcmcgbhlgniaa.count_lt r m
  by_cases h : ((r.count m).1.bytes (r.count m).2).1.err = 0
  · have := took_len h
    omega
  · have : ((r.count m).1.bytes (r.count m).2).2 = [] := by
      unfold Rd.bytes at h ⊢
      repeat' split
      · rfl
      · rfl
      · rfl
      · rename_i a b c
        simp only [if_neg a, if_neg b, if_neg c] at h
        exact absurd h (by simpa using a)
    rw [this]
    simp
    omega
end Go.Vm
