/- Plain words on numbers' bytes and CRC-32C, and what the walked functions of numbers and checks come to. -/
import Derived.Test.YteeplbabnleanaaQAx1
import Derived.Test.YteeplbabnleanaaQAx2
import Derived.Test.YteeplbabnleanaaQAx4
import Derived.Test.YteeplbabnleanaaQAx5
import Derived.Test.YteeplbabnleanaaQAx6
namespace Go.Proofs.Yteeplbabnleanaa.Muni
open Go.RowKit Go.Proofs.Yteeplbabnleanaa.QA Go.Proofs.YteeplbabnleanaaW.PrintWords Go.Proofs.YteeplbabnleanaaW.PrintLast Go.Proofs.YteeplbabnleanaaW.PrintMore

/-- The bytes of a number, the highest first. -/
def numI (n : Int) : Nat → List Int
  | 0 => []
  | b + 1 => numI (n / 256) b ++ [n % 256]

theorem numI_length (b : Nat) : ∀ n, (numI n b).length = b := by
  induction b with
  | zero => intro n; rfl
  | succ b ih => intro n; simp [numI, ih]

theorem strOfNums_append (a b : List Int) : strOfNums a ++ strOfNums b = strOfNums (a ++ b) := by
  apply ByteArray.ext
  simp [strOfNums]

theorem wrap64_id {x : Int} (h0 : -9223372036854775808 ≤ x) (h1 : x ≤ 9223372036854775807) : wrap64 x = x := by
  unfold wrap64; omega

theorem u64_id {x : Int} (h0 : 0 ≤ x) (h1 : x < 18446744073709551616) : IntKind.u64.wrap x = x := by
  simp [IntKind.wrap, IntKind.bits, IntKind.signed]; omega

theorem refNumber (b : Nat) : ∀ (n : Int) (k : Nat), b ≤ 8 → 0 ≤ n → n < 18446744073709551616 → b < k → munimentref03_Number.f k n (b : Int) = some (strOfNums (numI n b)) := by
  induction b with
  | zero =>
    intro n k _ _ _ hk
    obtain ⟨k, rfl⟩ : ∃ m, k = m + 1 := ⟨k - 1, by omega⟩
    simp only [munimentref03_Number.f]
    rw [if_neg (by omega), if_pos (by omega)]
    rfl
  | succ b ih =>
    intro n k hb h0 h1 hk
    obtain ⟨k, rfl⟩ : ∃ m, k = m + 1 := ⟨k - 1, by omega⟩
    have hq : Int.tdiv n 256 = n / 256 := Int.tdiv_eq_ediv_of_nonneg h0
    have hm : Int.tmod n 256 = n % 256 := Int.tmod_eq_emod_of_nonneg h0
    have h2 : n % 256 % 256 = n % 256 := by omega
    simp only [munimentref03_Number.f]
    rw [if_neg (by omega), if_neg (by omega), hq, hm, u64_id (by omega) (by omega), wrap64_id (by omega) (by omega), show ((b + 1 : Nat) : Int) - 1 = (b : Int) by omega, ih (n / 256) k (by omega) (by omega) (by omega) (by omega)]
    simp only [Option.bind_some, h2]
    rw [if_pos (by rw [strOfNums_size, strOfNums_size, numI_length]; simp; omega), strOfNums_append]
    rfl

/-- However many bytes are asked for: at most eight. -/
def bytes8 (b : Int) : Nat := (min (max b 0) 8).toNat

theorem refNumber_any (n b : Int) (k : Nat) (h0 : 0 ≤ n) (h1 : n < 18446744073709551616) (hk : 10 ≤ k) : munimentref03_Number.f k n b = some (strOfNums (numI n (bytes8 b))) := by
  unfold bytes8
  by_cases h8 : b > 8
  · obtain ⟨k, rfl⟩ : ∃ m, k = m + 1 := ⟨k - 1, by omega⟩
    have e : (min (max b 0) 8).toNat = 7 + 1 := by omega
    have h := refNumber 8 n (k + 1) (by omega) h0 h1 (by omega)
    rw [e]
    simp only [munimentref03_Number.f] at h ⊢
    rw [if_pos h8]
    rw [if_neg (by omega), if_neg (by omega), wrap64_id (by omega) (by omega)] at h
    exact h
  · by_cases hb : b ≤ 0
    · obtain ⟨k, rfl⟩ : ∃ m, k = m + 1 := ⟨k - 1, by omega⟩
      have e : (min (max b 0) 8).toNat = 0 := by omega
      rw [e]
      simp only [munimentref03_Number.f]
      rw [if_neg h8, if_pos hb]
      rfl
    · obtain ⟨m, rfl⟩ := Int.eq_ofNat_of_zero_le (show 0 ≤ b by omega)
      have e : (min (max (m : Int) 0) 8).toNat = m := by omega
      rw [e]
      exact refNumber m n k (by omega) h0 h1 (by omega)

/-- The same bytes, from the first one on. -/
def numF (n : Int) (m i : Nat) : Int := n / 2 ^ (8 * (m - 1 - i)) % 256

theorem numI_eq (m : Nat) : ∀ n, numI n m = (List.range m).map (numF n m) := by
  induction m with
  | zero => intro n; rfl
  | succ m ih =>
    intro n
    rw [List.range_succ, List.map_append]
    show numI (n / 256) m ++ [n % 256] = _
    rw [ih]
    congr 1
    · apply List.map_congr_left
      intro i hi
      have hi := List.mem_range.1 hi
      unfold numF
      rw [show m + 1 - 1 - i = (m - 1 - i) + 1 by omega, Nat.mul_add, Int.pow_add, show (2 : Int) ^ (8 * 1) = 256 by decide, Int.ediv_ediv_of_nonneg (by decide), Int.mul_comm]
    · simp [numF]

theorem number_loop (n b : Int) (m : Nat) (hm : (m : Int) = mn (mx b 0) 8) (d : Nat) : ∀ (k i : Nat) (l : List Int), i + d = m → d < k → l.length ≤ 8 + i →
    wire_Number.l0 k n b l (m : Int) (i : Int) = some (strOfNums (l ++ (List.range' i d).map (numF n m))) := by
  have h8 : m ≤ 8 := by unfold mn mx at hm; split at hm <;> split at hm <;> omega
  induction d with
  | zero =>
    intro k i l hi hk _
    obtain ⟨k, rfl⟩ : ∃ m, k = m + 1 := ⟨k - 1, by omega⟩
    simp only [wire_Number.l0]
    rw [if_neg (by omega)]
    simp
  | succ d ih =>
    intro k i l hi hk hl
    obtain ⟨k, rfl⟩ : ∃ m, k = m + 1 := ⟨k - 1, by omega⟩
    have e : mn b 8 = (m : Int) := by unfold mn mx at *; split at hm <;> split at hm <;> split <;> omega
    have e2 : wrap64 (8 * wrap64 (wrap64 (mn b 8 - 1) - (i : Int))) = ((8 * (m - 1 - i) : Nat) : Int) := by
      rw [e, wrap64_id (x := (m : Int) - 1) (by omega) (by omega), wrap64_id (x := (m : Int) - 1 - i) (by omega) (by omega), wrap64_id (by omega) (by omega)]
      omega
    simp only [wire_Number.l0]
    rw [if_pos (by omega), e2, if_pos (by omega), if_pos (by omega), wrap64_id (by omega) (by omega), show (i : Int) + 1 = ((i + 1 : Nat) : Int) by omega, ih k (i + 1) _ (by omega) (by omega) (by simp; omega)]
    congr 2
    rw [List.range'_succ, List.map_cons, List.append_assoc]
    congr 1
    have : shr .u64 n ((8 * (m - 1 - i) : Nat) : Int) % 256 = numF n m i := by
      unfold shr numF
      rw [Nat.min_eq_left (by simp [IntKind.bits]; omega)]
      rfl
    rw [this]
    rfl

theorem number_any (n b : Int) (k : Nat) (hk : 10 ≤ k) : wire_Number.f k n b = some (strOfNums (numI n (bytes8 b))) := by
  obtain ⟨m, hm⟩ := Int.eq_ofNat_of_zero_le (show 0 ≤ mn (mx b 0) 8 by unfold mn mx; split <;> split <;> omega)
  have h8 : m ≤ 8 := by unfold mn mx at hm; split at hm <;> split at hm <;> omega
  have e : bytes8 b = m := by unfold bytes8; unfold mn mx at hm; split at hm <;> split at hm <;> omega
  have h := number_loop n b m hm.symm m k 0 [] (by omega) (by omega) (by simp)
  unfold wire_Number.f
  rw [hm, e, numI_eq]
  rw [List.range_eq_range']
  exact h

/-! ### CRC-32C -/
def cstep (r : Int) : Int := if r % 2 = 1 then Go.bits .xor .u32 (r / 2) 2197175160 else r / 2
def csteps : Nat → Int → Int
  | 0, r => r
  | m + 1, r => csteps m (cstep r)
def cbyte (r c : Int) : Int := csteps 8 (Go.bits .xor .u32 r c)
def crcFrom (r : Int) (l : List Int) : Int := l.foldl cbyte r
def crcI (l : List Int) : Int := Go.bits .xor .u32 (crcFrom 4294967295 l) 4294967295
/-- A text's bytes, as numbers. -/
def btsAt (s : ByteArray) (i d : Nat) : List Int := (List.range' i d).map fun (j : Nat) => bt s (j : Int)
def bts (s : ByteArray) : List Int := btsAt s 0 s.size

theorem u32_range (n : Int) : 0 ≤ IntKind.u32.wrap n ∧ IntKind.u32.wrap n < 4294967296 := by rw [IntKind.wrap_u32]; omega
theorem xor_range (a b : Int) : 0 ≤ Go.bits .xor .u32 a b ∧ Go.bits .xor .u32 a b < 4294967296 := u32_range _
theorem cstep_range {r : Int} (h0 : 0 ≤ r) (h1 : r < 4294967296) : 0 ≤ cstep r ∧ cstep r < 4294967296 := by
  unfold cstep
  split
  · exact xor_range _ _
  · omega
theorem csteps_range (m : Nat) : ∀ {r : Int}, 0 ≤ r → r < 4294967296 → 0 ≤ csteps m r ∧ csteps m r < 4294967296 := by
  induction m with
  | zero => intro r h0 h1; exact ⟨h0, h1⟩
  | succ m ih => intro r h0 h1; exact ih (cstep_range h0 h1).1 (cstep_range h0 h1).2
theorem cbyte_range (r c : Int) : 0 ≤ cbyte r c ∧ cbyte r c < 4294967296 := csteps_range 8 (xor_range r c).1 (xor_range r c).2
theorem crcFrom_range (l : List Int) : ∀ {r : Int}, 0 ≤ r → r < 4294967296 → 0 ≤ crcFrom r l ∧ crcFrom r l < 4294967296 := by
  induction l with
  | nil => intro r h0 h1; exact ⟨h0, h1⟩
  | cons c l ih => intro r _ _; exact ih (cbyte_range r c).1 (cbyte_range r c).2

theorem and_one {r : Int} (h0 : 0 ≤ r) (h1 : r < 4294967296) : Go.bits .and .u32 r 1 = r % 2 :=
  bits_mask .u32 32 (by decide) (fun n h h' => by rw [IntKind.wrap_u32]; omega) 1 (by decide) r h0 h1

theorem xor_ones {r : Int} (h0 : 0 ≤ r) (h1 : r < 4294967296) : Go.bits .xor .u32 r 4294967295 = (4294967295 - r) % 4294967296 := by
  obtain ⟨n, rfl⟩ := Int.eq_ofNat_of_zero_le h0
  have hn : n < 2 ^ 32 := by omega
  have h : (BitVec.ofNat 32 n ^^^ BitVec.allOnes 32).toNat = 2 ^ 32 - 1 - n := by
    rw [BitVec.xor_allOnes, BitVec.toNat_not, BitVec.toNat_ofNat, Nat.mod_eq_of_lt hn]
  have e : Go.bits .xor .u32 (n : Int) 4294967295 = IntKind.u32.wrap ((BitVec.ofNat 32 n ^^^ BitVec.allOnes 32).toNat : Int) := rfl
  rw [e, h, IntKind.wrap_u32]
  omega

theorem bt_mod (s : ByteArray) (i : Int) : bt s i % 4294967296 = bt s i := by have := bt_range s i; omega

theorem crc_inner (s : ByteArray) (sz i : Int) (m : Nat) : ∀ (k : Nat) (r : Int), m ≤ 8 → 0 ≤ r → r < 4294967296 →
    wire_Crc.l1 (k + m + 1) s r sz i (8 - (m : Int)) = wire_Crc.l0 k s (csteps m r) sz (wrap64 (i + 1)) := by
  induction m with
  | zero => intro k r _ _ _; simp only [wire_Crc.l1]; rw [if_neg (by omega)]; rfl
  | succ m ih =>
    intro k r hm h0 h1
    have hc := cstep_range h0 h1
    have e : wrap64 (8 - ((m + 1 : Nat) : Int) + 1) = 8 - (m : Int) := by rw [wrap64_id (by omega) (by omega)]; omega
    have h := ih k (cstep r) (by omega) hc.1 hc.2
    rw [show k + (m + 1) + 1 = (k + m + 1) + 1 by omega]
    generalize k + m + 1 = K at h ⊢
    simp only [wire_Crc.l1]
    rw [if_pos (by omega), and_one h0 h1, e]
    show _ = wire_Crc.l0 k s (csteps m (cstep r)) sz (wrap64 (i + 1))
    rw [← h]
    unfold cstep
    by_cases hp : r % 2 = 1
    · rw [if_pos hp, if_pos hp]
    · rw [if_neg hp, if_neg hp]

theorem crc_outer (s : ByteArray) (hs : s.size ≤ 140737488351232) (d : Nat) : ∀ (i : Nat) (k : Nat) (r : Int), i + d = s.size → 0 ≤ r → r < 4294967296 →
    wire_Crc.l0 (k + 10 * d + 1) s r (s.size : Int) (i : Int) = some (Go.bits .xor .u32 (crcFrom r (btsAt s i d)) 4294967295) := by
  induction d with
  | zero => intro i k r hi _ _; simp only [wire_Crc.l0]; rw [if_neg (by omega)]; rfl
  | succ d ih =>
    intro i k r hi h0 h1
    have hx := xor_range r (bt s i)
    have hy := cbyte_range r (bt s i)
    have h := crc_inner s (s.size : Int) (i : Int) 8 (k + 10 * d + 1) (Go.bits .xor .u32 r (bt s i)) (by omega) hx.1 hx.2
    have h' := ih (i + 1) k _ (by omega) hy.1 hy.2
    rw [show k + 10 * (d + 1) + 1 = (k + 10 * d + 1 + 8 + 1) + 1 by omega]
    generalize k + 10 * d + 1 = J at h h' ⊢
    generalize J + 8 + 1 = K at h ⊢
    simp only [wire_Crc.l0]
    rw [if_pos (by omega), if_pos (by omega), if_pos (by omega), bt_mod]
    rw [show (8 : Int) - ((8 : Nat) : Int) = 0 by decide] at h
    rw [h, wrap64_id (by omega) (by omega), show (i : Int) + 1 = ((i + 1 : Nat) : Int) by omega]
    rw [show csteps 8 (Go.bits .xor .u32 r (bt s i)) = cbyte r (bt s i) from rfl, h']
    simp [btsAt, List.range'_succ, crcFrom]

theorem crc_any (s : ByteArray) (k : Nat) (hs : s.size ≤ 140737488351232) (hk : 10 * s.size + 1 ≤ k) : wire_Crc.f k s = some (crcI (bts s)) := by
  obtain ⟨j, rfl⟩ : ∃ j, k = j + 10 * s.size + 1 := ⟨k - 10 * s.size - 1, by omega⟩
  exact crc_outer s hs s.size 0 j 4294967295 (by omega) (by omega) (by omega)

theorem refCrc_inner (s : ByteArray) (i : Int) (m : Nat) : ∀ (k : Nat) (r : Int), m ≤ 8 → 0 ≤ r → r < 4294967296 →
    munimentref03_Crc.l1 (k + m + 1) s r i (8 - (m : Int)) = munimentref03_Crc.l0 k s (csteps m r) (wrap64 (i + 1)) := by
  induction m with
  | zero => intro k r _ _ _; simp only [munimentref03_Crc.l1]; rw [if_neg (by omega)]; rfl
  | succ m ih =>
    intro k r hm h0 h1
    have hc := cstep_range h0 h1
    have e : wrap64 (8 - ((m + 1 : Nat) : Int) + 1) = 8 - (m : Int) := by rw [wrap64_id (by omega) (by omega)]; omega
    have h := ih k (cstep r) (by omega) hc.1 hc.2
    have hq : Int.tdiv r 2 % 4294967296 = r / 2 := by rw [Int.tdiv_eq_ediv_of_nonneg h0]; omega
    rw [show k + (m + 1) + 1 = (k + m + 1) + 1 by omega]
    generalize k + m + 1 = K at h ⊢
    simp only [munimentref03_Crc.l1]
    rw [if_pos (by omega), hq, e, Int.tmod_eq_emod_of_nonneg h0]
    show _ = munimentref03_Crc.l0 k s (csteps m (cstep r)) (wrap64 (i + 1))
    rw [← h]
    unfold cstep
    by_cases hp : r % 2 = 1
    · rw [if_pos hp, if_pos hp]
    · rw [if_neg hp, if_neg hp]

theorem refCrc_outer (s : ByteArray) (hs : s.size ≤ 140737488351232) (d : Nat) : ∀ (i : Nat) (k : Nat) (r : Int), i + d = s.size → 0 ≤ r → r < 4294967296 →
    munimentref03_Crc.l0 (k + 10 * d + 1) s r (i : Int) = some (Go.bits .xor .u32 (crcFrom r (btsAt s i d)) 4294967295) := by
  induction d with
  | zero => intro i k r hi h0 h1; simp only [munimentref03_Crc.l0]; rw [if_neg (by omega), show crcFrom r (btsAt s i 0) = r from rfl, xor_ones h0 h1]
  | succ d ih =>
    intro i k r hi h0 h1
    have hx := xor_range r (bt s i)
    have hy := cbyte_range r (bt s i)
    have h := refCrc_inner s (i : Int) 8 (k + 10 * d + 1) (Go.bits .xor .u32 r (bt s i)) (by omega) hx.1 hx.2
    have h' := ih (i + 1) k _ (by omega) hy.1 hy.2
    rw [show k + 10 * (d + 1) + 1 = (k + 10 * d + 1 + 8 + 1) + 1 by omega]
    generalize k + 10 * d + 1 = J at h h' ⊢
    generalize J + 8 + 1 = K at h ⊢
    simp only [munimentref03_Crc.l0]
    rw [if_pos (by omega), if_pos (by omega), bt_mod]
    rw [show (8 : Int) - ((8 : Nat) : Int) = 0 by decide] at h
    rw [h, wrap64_id (by omega) (by omega), show (i : Int) + 1 = ((i + 1 : Nat) : Int) by omega]
    rw [show csteps 8 (Go.bits .xor .u32 r (bt s i)) = cbyte r (bt s i) from rfl, h']
    simp [btsAt, List.range'_succ, crcFrom]

theorem refCrc_any (s : ByteArray) (k : Nat) (hs : s.size ≤ 140737488351232) (hk : 10 * s.size + 1 ≤ k) : munimentref03_Crc.f k s = some (crcI (bts s)) := by
  obtain ⟨j, rfl⟩ : ∃ j, k = j + 10 * s.size + 1 := ⟨k - 10 * s.size - 1, by omega⟩
  exact refCrc_outer s hs s.size 0 j 4294967295 (by omega) (by omega) (by omega)

theorem few_any (s : ByteArray) : ∃ t : ByteArray, munimentlaw03_few.f s = some t ∧ t.size ≤ 3000 ∧ t = s.extract 0 3000 := by
  unfold munimentlaw03_few.f
  by_cases h : (s.size : Int) > 3000
  · rw [if_pos h, if_pos (by omega)]
    exact ⟨_, rfl, by simp; omega, rfl⟩
  · rw [if_neg h]
    refine ⟨s, rfl, by omega, ?_⟩
    apply ByteArray.ext
    rw [ByteArray.data_extract, Array.extract_eq_self_of_le (show s.data.size ≤ 3000 by have : s.data.size = s.size := rfl; omega)]
end Go.Proofs.Yteeplbabnleanaa.Muni
