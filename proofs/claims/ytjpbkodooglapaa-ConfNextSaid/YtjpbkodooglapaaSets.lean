/- Plain words on lists of numbers: who takes part, by the bits of a number; what the walked functions of such lists come to. -/
import Derived.Test.YtjpbkodooglapaaQAx1
import Derived.Test.YtjpbkodooglapaaQAx2
import Derived.Test.YtjpbkodooglapaaQAx3
import Derived.Test.YtjpbkodooglapaaQAx4
import Derived.Test.YtjpbkodooglapaaQAx5
import Derived.Test.YtjpbkodooglapaaQAx6
import Derived.Test.YtjpbkodooglapaaQAx7
import Derived.Test.YtjpbkodooglapaaQAx8
import Derived.Test.YtjpbkodooglapaaQAx9
namespace Go.Proofs.Ytjpbkodooglapaa.Muni
open Go.RowKit Go.Proofs.Ytjpbkodooglapaa.QA Go.Proofs.YtjpbkodooglapaaW.PrintWords Go.Proofs.YtjpbkodooglapaaW.PrintLast Go.Proofs.YtjpbkodooglapaaW.PrintMore

theorem wrap64_id {x : Int} (h0 : -9223372036854775808 ≤ x) (h1 : x ≤ 9223372036854775807) : wrap64 x = x := by
  unfold wrap64; omega
theorem u64_id {x : Int} (h0 : 0 ≤ x) (h1 : x < 18446744073709551616) : IntKind.u64.wrap x = x := by
  simp [IntKind.wrap, IntKind.bits, IntKind.signed]; omega
theorem wrapi64_id {x : Int} (h0 : -9223372036854775808 ≤ x) (h1 : x ≤ 9223372036854775807) : IntKind.i64.wrap x = x := by
  rw [IntKind.wrap_i64]; omega
theorem wf_i64 {x : Int} (h : (Lit.int .i64 x).wf = true) : -9223372036854775808 ≤ x ∧ x ≤ 9223372036854775807 := by
  simp [Lit.wf, IntKind.min, IntKind.max, IntKind.signed, IntKind.bits] at h; omega

theorem ofInt_toNat (x : Int) : (BitVec.ofInt 64 x).toNat = (x % 18446744073709551616).toNat := by
  rw [BitVec.toNat_ofInt]; rfl

/-- Behind a mask of the lowest bits a number's rest is left. -/
theorem and_mask (x : Int) (j : Nat) (hj : j < 63) : Go.bits .and .i64 x (2 ^ j - 1) = x % 2 ^ j := by
  have hp : (2 : Nat) ^ j < 2 ^ 63 := Nat.pow_lt_pow_right (by decide) hj
  have hpos : 0 < (2 : Nat) ^ j := Nat.two_pow_pos j
  have hpi : ((2 : Int) ^ j) = ((2 ^ j : Nat) : Int) := by simp
  have h2 : (BitVec.ofInt 64 ((2 : Int) ^ j - 1)).toNat = 2 ^ j - 1 := by
    rw [ofInt_toNat, hpi]
    omega
  have e : Go.bits .and .i64 x (2 ^ j - 1) = IntKind.i64.wrap ((BitVec.ofInt 64 x &&& BitVec.ofInt 64 ((2 : Int) ^ j - 1)).toNat : Int) := rfl
  rw [e, BitVec.toNat_and, h2, Nat.and_two_pow_sub_one_eq_mod, ofInt_toNat]
  have hm : (((x % 18446744073709551616).toNat % 2 ^ j : Nat) : Int) = x % 2 ^ j := by
    rw [Int.natCast_emod, Int.toNat_of_nonneg (by omega), hpi, Int.emod_emod_of_dvd]
    have : (18446744073709551616 : Int) = ((2 ^ 64 : Nat) : Int) := by decide
    rw [this]
    exact Int.natCast_dvd_natCast.2 (Nat.pow_dvd_pow 2 (by omega))
  rw [hm]
  have h3 : 0 ≤ x % 2 ^ j := Int.emod_nonneg _ (by rw [hpi]; omega)
  have h4 : x % 2 ^ j < 2 ^ j := Int.emod_lt_of_pos _ (by rw [hpi]; omega)
  rw [hpi] at h4
  exact wrapi64_id (by omega) (by omega)

theorem and_16 (x : Int) : Go.bits .and .i64 x 65535 = x % 65536 := and_mask x 16 (by omega)
theorem and_1 (x : Int) : Go.bits .and .i64 x 1 = x % 2 := by simpa using and_mask x 1 (by omega)

theorem bits_xor_nat {a b : Nat} (ha : a < 2 ^ 62) (hb : b < 2 ^ 62) : Go.bits .xor .i64 (a : Int) (b : Int) = ((a ^^^ b : Nat) : Int) := by
  have e : Go.bits .xor .i64 (a : Int) (b : Int) = IntKind.i64.wrap ((BitVec.ofInt 64 (a : Int) ^^^ BitVec.ofInt 64 (b : Int)).toNat : Int) := rfl
  have hx : a ^^^ b < 2 ^ 62 := Nat.xor_lt_two_pow ha hb
  rw [e, BitVec.toNat_xor, ofInt_toNat, ofInt_toNat, show ((a : Int) % 18446744073709551616).toNat = a by omega, show ((b : Int) % 18446744073709551616).toNat = b by omega]
  exact wrapi64_id (by omega) (by omega)

/-- Who takes part, by the bits of a number. -/
def listN (n : Nat) : List Nat := (List.range 16).filter fun i => n.testBit i
def listI (n : Nat) : List Int := (listN n).map fun (i : Nat) => (i : Int)

theorem shr_bit (n i : Nat) (hi : i ≤ 64) : (shr .i64 (n : Int) (i : Int)) % 2 = 1 ↔ n.testBit i = true := by
  have e : shr .i64 (n : Int) (i : Int) = ((n / 2 ^ i : Nat) : Int) := by
    unfold shr
    rw [show min (i : Int).toNat IntKind.i64.bits = i from Nat.min_eq_left hi]
    simp
  rw [e, Nat.testBit_eq_decide_div_mod_eq]
  simp only [decide_eq_true_eq]
  omega

theorem list_loop (n : Nat) (d : Nat) : ∀ (k i : Nat) (l : List Int), i + d = 16 → d < k → l.length ≤ i →
    munimentlaw13_list.l0 k (n : Int) l (i : Int) = some (l ++ ((List.range' i d).filter fun i => n.testBit i).map fun (i : Nat) => (i : Int)) := by
  induction d with
  | zero =>
    intro k i l hi hk _
    obtain ⟨k, rfl⟩ : ∃ m, k = m + 1 := ⟨k - 1, by omega⟩
    simp only [munimentlaw13_list.l0]
    rw [if_neg (by omega)]
    simp
  | succ d ih =>
    intro k i l hi hk hl
    obtain ⟨k, rfl⟩ : ∃ m, k = m + 1 := ⟨k - 1, by omega⟩
    simp only [munimentlaw13_list.l0]
    rw [if_pos (by omega), u64_id (by omega) (by omega), if_pos (by omega), and_1, wrap64_id (by omega) (by omega), show (i : Int) + 1 = ((i + 1 : Nat) : Int) by omega, List.range'_succ, List.filter_cons]
    by_cases h : n.testBit i = true
    · rw [if_pos ((shr_bit n i (by omega)).2 h), if_pos (by omega), if_pos h, ih k (i + 1) _ (by omega) (by omega) (by simp; omega)]
      simp
    · rw [if_neg (fun c => h ((shr_bit n i (by omega)).1 c)), if_neg h, ih k (i + 1) _ (by omega) (by omega) (by omega)]

theorem list_any (n k : Nat) (hk : 17 ≤ k) : munimentlaw13_list.f k (n : Int) = some (listI n) := by
  have h := list_loop n 16 k 0 [] (by omega) (by omega) (by simp)
  rw [List.nil_append] at h
  unfold munimentlaw13_list.f listI listN
  rw [List.range_eq_range']
  exact h

theorem mem_listN {n i : Nat} : i ∈ listN n ↔ i < 16 ∧ n.testBit i = true := by simp [listN]
theorem mem_listI {n : Nat} {x : Int} : x ∈ listI n ↔ ∃ i : Nat, x = i ∧ i < 16 ∧ n.testBit i = true := by
  unfold listI
  rw [List.mem_map]
  constructor
  · rintro ⟨i, hi, rfl⟩; exact ⟨i, rfl, mem_listN.1 hi⟩
  · rintro ⟨i, rfl, h⟩; exact ⟨i, mem_listN.2 h, rfl⟩

/-! ### whether a list may be who takes part -/
def okAt (l : List Int) (i : Nat) : Bool := decide (0 ≤ l.getD i 0) && (decide (l.getD i 0 < 16) && (decide (i = 0) || decide (l.getD (i - 1) 0 < l.getD i 0)))
def membersB (l : List Int) : Bool := (List.range l.length).all (okAt l) && decide (1 ≤ l.length)

theorem members_loop (l : List Int) (hl : l.length ≤ 17592186044416) (d : Nat) : ∀ (k i : Nat), i + d = l.length → d < k →
    head_Members.l0 k l l (l.length : Int) (i : Int) = some ((List.range' i d).all (okAt l) && decide (1 ≤ l.length)) := by
  induction d with
  | zero =>
    intro k i hi hk
    obtain ⟨k, rfl⟩ : ∃ m, k = m + 1 := ⟨k - 1, by omega⟩
    simp only [head_Members.l0]
    rw [if_neg (by omega)]
    simp; omega
  | succ d ih =>
    intro k i hi hk
    obtain ⟨k, rfl⟩ : ∃ m, k = m + 1 := ⟨k - 1, by omega⟩
    have e0 : rd l (i : Int) = l.getD i 0 := rfl
    have hn := ih k (i + 1) (by omega) (by omega)
    simp only [head_Members.l0]
    rw [if_pos (by omega), if_pos (by omega), if_pos (by omega), wrap64_id (x := (i : Int) + 1) (by omega) (by omega), show (i : Int) + 1 = ((i + 1 : Nat) : Int) by omega, hn, List.range'_succ, List.all_cons, e0]
    unfold okAt
    by_cases h1 : l.getD i 0 < 0
    · rw [if_pos h1, decide_eq_false (by omega)]; rfl
    rw [if_neg h1, decide_eq_true (show 0 ≤ l.getD i 0 by omega)]
    by_cases h2 : l.getD i 0 ≥ 16
    · rw [if_pos h2, decide_eq_false (show ¬ l.getD i 0 < 16 by omega)]; rfl
    rw [if_neg h2, decide_eq_true (show l.getD i 0 < 16 by omega)]
    by_cases h3 : i = 0
    · rw [if_neg (by omega), decide_eq_true h3]; rfl
    have e1 : rd l (wrap64 ((i : Int) - 1)) = l.getD (i - 1) 0 := by
      rw [wrap64_id (by omega) (by omega)]
      unfold rd
      congr 1
      omega
    rw [if_pos (by omega), decide_eq_false h3, e1, wrap64_id (by omega) (by omega), if_pos (by omega), if_pos (by omega)]
    by_cases h4 : l.getD (i - 1) 0 ≥ l.getD i 0
    · rw [if_pos h4, decide_eq_false (show ¬ l.getD (i - 1) 0 < l.getD i 0 by omega)]; rfl
    · rw [if_neg h4, decide_eq_true (show l.getD (i - 1) 0 < l.getD i 0 by omega)]; rfl

theorem members_any (l : List Int) (k : Nat) (hl : l.length ≤ 17592186044416) (hk : l.length < k) : head_Members.f k l = some (membersB l) := by
  unfold head_Members.f membersB
  rw [List.range_eq_range']
  exact members_loop l hl l.length k 0 (by omega) (by omega)

theorem refMembers_loop (l : List Int) (hl : l.length ≤ 17592186044416) (d : Nat) : ∀ (k i : Nat), i + d = l.length → d < k →
    munimentref08_Members.l0 k l (i : Int) = some ((List.range' i d).all (okAt l) && decide (1 ≤ l.length)) := by
  induction d with
  | zero =>
    intro k i hi hk
    obtain ⟨k, rfl⟩ : ∃ m, k = m + 1 := ⟨k - 1, by omega⟩
    simp only [munimentref08_Members.l0]
    rw [if_neg (by omega)]
    simp; omega
  | succ d ih =>
    intro k i hi hk
    obtain ⟨k, rfl⟩ : ∃ m, k = m + 1 := ⟨k - 1, by omega⟩
    have e0 : rd l (i : Int) = l.getD i 0 := rfl
    have hn := ih k (i + 1) (by omega) (by omega)
    simp only [munimentref08_Members.l0]
    rw [if_pos (by omega), if_pos (by omega), wrap64_id (x := (i : Int) + 1) (by omega) (by omega), show (i : Int) + 1 = ((i + 1 : Nat) : Int) by omega, hn, List.range'_succ, List.all_cons, e0]
    unfold okAt
    by_cases h1 : l.getD i 0 < 0
    · rw [if_pos h1, decide_eq_false (by omega)]; rfl
    rw [if_neg h1, decide_eq_true (show 0 ≤ l.getD i 0 by omega)]
    by_cases h2 : l.getD i 0 > 15
    · rw [if_pos h2, decide_eq_false (show ¬ l.getD i 0 < 16 by omega)]; rfl
    rw [if_neg h2, decide_eq_true (show l.getD i 0 < 16 by omega)]
    by_cases h3 : i = 0
    · rw [if_neg (by omega), decide_eq_true h3]; rfl
    have e1 : rd l (wrap64 ((i : Int) - 1)) = l.getD (i - 1) 0 := by
      rw [wrap64_id (by omega) (by omega)]
      unfold rd
      congr 1
      omega
    rw [if_pos (by omega), decide_eq_false h3, e1, wrap64_id (by omega) (by omega), if_pos (by omega), if_pos (by omega)]
    by_cases h4 : l.getD (i - 1) 0 ≥ l.getD i 0
    · rw [if_pos h4, decide_eq_false (show ¬ l.getD (i - 1) 0 < l.getD i 0 by omega)]; rfl
    · rw [if_neg h4, decide_eq_true (show l.getD (i - 1) 0 < l.getD i 0 by omega)]; rfl

theorem refMembers_any (l : List Int) (k : Nat) (hl : l.length ≤ 17592186044416) (hk : l.length < k) : munimentref08_Members.f k l = some (membersB l) := by
  unfold munimentref08_Members.f membersB
  rw [List.range_eq_range']
  exact refMembers_loop l hl l.length k 0 (by omega) (by omega)

/-! ### whether somebody is among them, and how many are not -/
theorem index_loop (l : List Int) (x : Int) (hl : l.length ≤ 17592186044416) (d : Nat) : ∀ (k i : Nat), i + d = l.length → d < k →
    ∃ r, slices_Index_int_int.l0 k l x (l.length : Int) (i : Int) = some r ∧ (0 ≤ r ↔ x ∈ l.drop i) := by
  induction d with
  | zero =>
    intro k i hi hk
    obtain ⟨k, rfl⟩ : ∃ m, k = m + 1 := ⟨k - 1, by omega⟩
    simp only [slices_Index_int_int.l0]
    rw [if_neg (by omega)]
    refine ⟨_, rfl, ?_⟩
    rw [List.drop_eq_nil_of_le (by omega)]
    simp
  | succ d ih =>
    intro k i hi hk
    obtain ⟨k, rfl⟩ : ∃ m, k = m + 1 := ⟨k - 1, by omega⟩
    obtain ⟨r, hr, hm⟩ := ih k (i + 1) (by omega) (by omega)
    have e0 : rd l (i : Int) = l[i]'(by omega) := by
      show l.getD i 0 = _
      rw [List.getD_eq_getElem?_getD, List.getElem?_eq_getElem (by omega), Option.getD_some]
    simp only [slices_Index_int_int.l0]
    rw [if_pos (by omega), if_pos (by omega), if_pos (by omega), e0, List.drop_eq_getElem_cons (show i < l.length by omega)]
    by_cases h : x = l[i]'(by omega)
    · rw [if_pos h]
      exact ⟨_, rfl, fun _ => h ▸ List.mem_cons_self, fun _ => by omega⟩
    · rw [if_neg h, wrap64_id (by omega) (by omega), show (i : Int) + 1 = ((i + 1 : Nat) : Int) by omega]
      exact ⟨r, hr, by rw [hm, List.mem_cons]; simp [h]⟩

theorem contains_any (l : List Int) (x : Int) (k : Nat) (hl : l.length ≤ 17592186044416) (hk : l.length < k) : slices_Contains_int_int.f k l x = some (decide (x ∈ l)) := by
  obtain ⟨r, hr, hm⟩ := index_loop l x hl l.length k 0 (by omega) (by omega)
  unfold slices_Contains_int_int.f slices_Index_int_int.f
  rw [show (0 : Int) = ((0 : Nat) : Int) from rfl, hr]
  simp only [Option.bind_some]
  rw [List.drop_zero] at hm
  congr 1
  exact decide_eq_decide.2 hm

def lacksN (a b : List Int) : Nat := a.countP fun x => !decide (x ∈ b)

theorem lacks_loop (a b : List Int) (ha : a.length ≤ 17592186044416) (hb : b.length ≤ 17592186044416) (d : Nat) : ∀ (k i n : Nat), i + d = a.length → d + b.length + 1 < k → n ≤ i →
    conf_lacks_int.l0 k b (n : Int) a (a.length : Int) (i : Int) = some ((n + (a.drop i).countP (fun x => !decide (x ∈ b)) : Nat) : Int) := by
  induction d with
  | zero =>
    intro k i n hi hk _
    obtain ⟨k, rfl⟩ : ∃ m, k = m + 1 := ⟨k - 1, by omega⟩
    simp only [conf_lacks_int.l0]
    rw [if_neg (by omega), List.drop_eq_nil_of_le (by omega)]
    simp
  | succ d ih =>
    intro k i n hi hk hn
    obtain ⟨k, rfl⟩ : ∃ m, k = m + 1 := ⟨k - 1, by omega⟩
    have e0 : rd a (i : Int) = a[i]'(by omega) := by
      show a.getD i 0 = _
      rw [List.getD_eq_getElem?_getD, List.getElem?_eq_getElem (by omega), Option.getD_some]
    simp only [conf_lacks_int.l0]
    rw [if_pos (by omega), if_pos (by omega), if_pos (by omega), e0, contains_any b _ k hb (by omega), wrap64_id (x := (i : Int) + 1) (by omega) (by omega), wrap64_id (x := (n : Int) + 1) (by omega) (by omega)]
    simp only [Option.bind_some]
    rw [List.drop_eq_getElem_cons (show i < a.length by omega), List.countP_cons, show (i : Int) + 1 = ((i + 1 : Nat) : Int) by omega]
    by_cases h : a[i]'(by omega) ∈ b
    · rw [if_pos (decide_eq_true h), ih k (i + 1) n (by omega) (by omega) (by omega), decide_eq_true h]
      simp
    · rw [if_neg (by simp [h]), show (n : Int) + 1 = ((n + 1 : Nat) : Int) by omega, ih k (i + 1) (n + 1) (by omega) (by omega) (by omega), decide_eq_false h]
      simp; omega

theorem lacks_any (a b : List Int) (k : Nat) (ha : a.length ≤ 17592186044416) (hb : b.length ≤ 17592186044416) (hk : a.length + b.length + 1 < k) : conf_lacks_int.f k a b = some (lacksN a b : Int) := by
  have h := lacks_loop a b ha hb a.length k 0 0 (by omega) (by omega) (by omega)
  rw [List.drop_zero, Nat.zero_add] at h
  exact h

theorem lacksN_le (a b : List Int) : lacksN a b ≤ a.length := List.countP_le_length

def nextB (a b : List Int) : Bool := membersB a && (membersB b && decide (lacksN a b + lacksN b a = 1))

theorem next_any (a b : List Int) (k : Nat) (ha : a.length ≤ 1000000) (hb : b.length ≤ 1000000) (hk : 2000002 ≤ k) : conf_Next.f k a b = some (nextB a b) := by
  have h1 := lacksN_le a b
  have h2 := lacksN_le b a
  unfold conf_Next.f nextB
  rw [members_any a k (by omega) (by omega), members_any b k (by omega) (by omega), lacks_any a b k (by omega) (by omega) (by omega), lacks_any b a k (by omega) (by omega) (by omega)]
  cases membersB a
  · rfl
  cases membersB b
  · rfl
  simp only [Option.bind_some, if_true, Bool.true_and]
  rw [wrap64_id (by omega) (by omega)]
  congr 1
  rw [Bool.eq_iff_iff]
  simp only [beq_iff_eq, decide_eq_true_eq]
  omega

/-! ### the lists of the sixteen -/
theorem listI_length (n : Nat) : (listI n).length ≤ 16 := by
  unfold listI listN
  rw [List.length_map]
  exact Nat.le_trans (List.length_filter_le _ _) (by simp)

theorem listN_sorted (n : Nat) : (listN n).Pairwise (· < ·) := List.Pairwise.filter _ List.pairwise_lt_range

theorem getD_listI (n i : Nat) (h : i < (listN n).length) : (listI n).getD i 0 = (((listN n)[i]'h : Nat) : Int) := by
  unfold listI
  rw [List.getD_eq_getElem?_getD, List.getElem?_map, List.getElem?_eq_getElem h]
  rfl

theorem membersB_listI (n : Nat) (hn : n < 65536) : membersB (listI n) = decide (n ≠ 0) := by
  have hlen : (listI n).length = (listN n).length := by simp [listI]
  have hall : (List.range (listI n).length).all (okAt (listI n)) = true := by
    rw [List.all_eq_true]
    intro i hi
    have hi : i < (listN n).length := by rw [← hlen]; exact List.mem_range.1 hi
    have hm := mem_listN.1 (List.getElem_mem hi)
    unfold okAt
    rw [getD_listI n i hi]
    by_cases h0 : i = 0
    · simp [h0]; subst h0; omega
    · have hs : (listN n)[i - 1]'(by omega) < (listN n)[i]'hi := List.pairwise_iff_getElem.1 (listN_sorted n) (i - 1) i (by omega) hi (by omega)
      rw [getD_listI n (i - 1) (by omega)]
      simp only [Bool.and_eq_true, decide_eq_true_eq, Bool.or_eq_true]
      omega
  unfold membersB
  rw [hall, Bool.true_and, decide_eq_decide, hlen]
  constructor
  · intro h e
    subst e
    have : listN 0 = [] := by decide
    rw [this] at h
    simp at h
  · intro h
    obtain ⟨i, hi⟩ := Nat.exists_testBit_of_ne_zero h
    have h16 : i < 16 := by
      apply Nat.lt_of_not_le
      intro hle
      have := Nat.testBit_lt_two_pow (Nat.lt_of_lt_of_le hn (show 65536 ≤ 2 ^ i from Nat.pow_le_pow_right (n := 2) (by decide) hle))
      rw [this] at hi
      simp at hi
    have := mem_listN.2 ⟨h16, hi⟩
    exact List.length_pos_of_mem this

theorem lacksN_listI (a b : Nat) : lacksN (listI a) (listI b) = (List.range 16).countP fun i => a.testBit i && !b.testBit i := by
  unfold lacksN listI listN
  rw [List.countP_map, List.countP_filter]
  apply List.countP_congr
  intro i hi
  have hi := List.mem_range.1 hi
  have : ((i : Int) ∈ ((List.range 16).filter fun i => b.testBit i).map fun (i : Nat) => (i : Int)) ↔ b.testBit i = true := by
    constructor
    · intro h
      obtain ⟨j, e, _, h⟩ := mem_listI.1 (show (i : Int) ∈ listI b from h)
      rw [show i = j by omega]
      exact h
    · intro h
      exact mem_listI.2 ⟨i, rfl, hi, h⟩
  simp only [Function.comp, this]
  simp [Bool.and_comm]

theorem countP_xor {α : Type} (p q : α → Bool) (l : List α) : l.countP (fun i => p i && !q i) + l.countP (fun i => q i && !p i) = l.countP fun i => (p i != q i) := by
  induction l with
  | nil => rfl
  | cons x l ih =>
    simp only [List.countP_cons]
    cases p x <;> cases q x <;> simp <;> omega

theorem lacks_both (a b : Nat) : lacksN (listI a) (listI b) + lacksN (listI b) (listI a) = (listI (a ^^^ b)).length := by
  rw [lacksN_listI, lacksN_listI, countP_xor]
  unfold listI listN
  rw [List.length_map, ← List.countP_eq_length_filter]
  apply List.countP_congr
  intro i _
  rw [Nat.testBit_xor]

theorem next_lists (a b : Nat) (ha : a < 65536) (hb : b < 65536) : nextB (listI a) (listI b) = (decide (a ≠ 0) && (decide (b ≠ 0) && decide ((listI (a ^^^ b)).length = 1))) := by
  unfold nextB
  rw [membersB_listI a ha, membersB_listI b hb, lacks_both]

theorem bits_any (n k : Nat) (hk : 17 ≤ k) : munimentlaw13_bits.f k (n : Int) = some ((listI n).length : Int) := by
  unfold munimentlaw13_bits.f
  rw [list_any n k hk]
  rfl

theorem awake13_any (k : Nat) (hk : 2000002 ≤ k) : munimentlaw13_awake.f k = some true := by
  unfold munimentlaw13_awake.f
  rw [next_any _ _ k (by decide) (by decide) hk, next_any _ _ k (by decide) (by decide) hk]
  rfl
end Go.Proofs.Ytjpbkodooglapaa.Muni
