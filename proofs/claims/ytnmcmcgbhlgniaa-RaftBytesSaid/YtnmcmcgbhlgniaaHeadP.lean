/- Headers: plain facts. -/
import Derived.Test.YtnmcmcgbhlgniaaWireF
set_option linter.unusedSectionVars false
set_option linter.unusedSimpArgs false
set_option linter.unusedVariables false
namespace Go.Vm
def iI (x : Int) : V := .int .i64 x
def okAt (l : List Int) (i : Nat) : Bool := decide (0 ≤ gt l i) && (decide (gt l i < 16) && (decide (i = 0) || decide (gt l (i - 1) < gt l i)))
def membersB (l : List Int) : Bool := (List.range l.length).all (okAt l) && decide (1 ≤ l.length)
theorem range_snoc_all (f : Nat → Bool) (i : Nat) : (List.range (i + 1)).all f = ((List.range i).all f && f i) := by simp [List.range_succ]
theorem all_cut {f : Nat → Bool} {n i : Nat} (hi : i < n) (h : f i = false) : (List.range n).all f = false := by
  rw [List.all_eq_false]
  exact ⟨i, List.mem_range.2 hi, by simp [h]⟩
/-- A header. -/
structure Hd where
  n : UInt64
  p : List UInt8
  t : List UInt8
  s : List UInt8
  m : List Int
  deriving DecidableEq
def Hd.v (h : Hd) (m : V) : List V := [.int .u64 (h.n.toNat : Int), .str h.p, .str h.t, .str h.s, m]
def Hd.ms (k : SK) (h : Hd) : V := .sl k h.m.length (h.m.map iI)
def Hd.fine (h : Hd) : Bool := decide (¬ h.n = 0) && (decide (h.p.length = 32) && (decide (h.t.length = 32) && (decide (h.s.length = 32) && membersB h.m)))
def Hd.small (h : Hd) : Prop := h.p.length ≤ 140737488355328 ∧ h.t.length ≤ 140737488355328 ∧ h.s.length ≤ 140737488355328 ∧ h.m.length ≤ 140737488355328
def byte1 (x : Int) : UInt8 := UInt8.ofNat x.toNat
/-- Who takes part, as bytes. -/
def membB (m : List Int) : List UInt8 := UInt8.ofNat m.length :: m.map byte1
def Hd.bytes (h : Hd) : List UInt8 := numB h.n 8 ++ h.p ++ h.t ++ h.s ++ membB h.m
theorem numB1 (n : UInt64) : numB n 1 = [n.toUInt8] := rfl
theorem memb_range {m : List Int} (h : membersB m = true) : (∀ x ∈ m, 0 ≤ x ∧ x < 16) ∧ 1 ≤ m.length := by
  unfold membersB at h
  rw [Bool.and_eq_true, List.all_eq_true, decide_eq_true_eq] at h
  refine ⟨fun x hx => ?_, h.2⟩
  obtain ⟨i, hi, rfl⟩ := List.mem_iff_getElem.1 hx
  have := h.1 i (List.mem_range.2 hi)
  unfold okAt at this
  rw [gt_eq hi] at this
  simp only [Bool.and_eq_true, decide_eq_true_eq] at this
  exact ⟨this.1, this.2.1⟩
theorem memb_lt {m : List Int} (h : membersB m = true) : ∀ (i j : Nat) (hij : i < j) (hj : j < m.length), m[i]'(by omega) < m[j] := by
  unfold membersB at h
  rw [Bool.and_eq_true, List.all_eq_true] at h
  intro i j hij
  induction j with
  | zero => omega
  | succ j ih =>
    intro hj
    have := h.1 (j + 1) (List.mem_range.2 hj)
    unfold okAt at this
    rw [gt_eq hj, gt_eq (show j + 1 - 1 < m.length by omega)] at this
    simp only [Bool.and_eq_true, Bool.or_eq_true, decide_eq_true_eq, Nat.add_sub_cancel] at this
    have hs : m[j] < m[j + 1] := by rcases this.2.2 with h | h; omega; exact h
    rcases Nat.lt_or_ge i j with h1 | h1
    · exact Int.lt_trans (ih h1 (by omega)) hs
    · obtain rfl : i = j := by omega
      exact hs
theorem memb_len {m : List Int} (h : membersB m = true) : m.length ≤ 16 := by
  have key : ∀ i, (hi : i < m.length) → (i : Int) ≤ m[i] := by
    intro i
    induction i with
    | zero => intro hi; exact ((memb_range h).1 _ (List.getElem_mem hi)).1
    | succ i ih =>
      intro hi
      have h1 := ih (by omega)
      have h2 := memb_lt h i (i + 1) (by omega) hi
      omega
  rcases Nat.lt_or_ge 16 m.length with h1 | h1
  · have h2 := key 16 h1
    have h3 := ((memb_range h).1 _ (List.getElem_mem h1)).2
    omega
  · exact h1
theorem byte1_inj {x y : Int} (hx : 0 ≤ x ∧ x < 16) (hy : 0 ≤ y ∧ y < 16) (h : byte1 x = byte1 y) : x = y := by
  have := congrArg UInt8.toNat h
  unfold byte1 at this
  rw [UInt8.toNat_ofNat_of_lt' (show x.toNat < 256 by omega), UInt8.toNat_ofNat_of_lt' (show y.toNat < 256 by omega)] at this
  omega
theorem membB_inj {a b : List Int} (ha : membersB a = true) (hb : membersB b = true) (h : membB a = membB b) : a = b := by
  unfold membB at h
  simp only [List.cons.injEq] at h
  have h2 := h.2
  have ra := (memb_range ha).1
  have rb := (memb_range hb).1
  clear h ha hb
  induction a generalizing b with
  | nil => cases b with | nil => rfl | cons => simp at h2
  | cons x a ih => cases b with
    | nil => simp at h2
    | cons y b =>
      simp only [List.map_cons, List.cons.injEq] at h2
      rw [byte1_inj (ra x (by simp)) (rb y (by simp)) h2.1, ih h2.2 (fun z hz => ra z (List.mem_cons_of_mem _ hz)) (fun z hz => rb z (List.mem_cons_of_mem _ hz))]
theorem numB_inj : ∀ (b : Nat) (n m : UInt64), n.toNat < 256 ^ b → m.toNat < 256 ^ b → numB n b = numB m b → n = m
  | 0, n, m, hn, hm, _ => by
    apply UInt64.toNat_inj.1
    simp at hn hm
    omega
  | b + 1, n, m, hn, hm, h => by
    simp only [numB] at h
    have h1 := List.append_inj' h rfl
    have e1 : n.toUInt8 = m.toUInt8 := by simpa using h1.2
    have d1 : (n / 256).toNat = n.toNat / 256 := UInt64.toNat_div n 256
    have d2 : (m / 256).toNat = m.toNat / 256 := UInt64.toNat_div m 256
    have e2 := numB_inj b (n / 256) (m / 256) (by rw [d1]; rw [Nat.pow_succ] at hn; omega) (by rw [d2]; rw [Nat.pow_succ] at hm; omega) h1.1
    have e3 := congrArg UInt64.toNat e2
    have e4 := congrArg UInt8.toNat e1
    rw [d1, d2] at e3
    rw [UInt64.toNat_toUInt8, UInt64.toNat_toUInt8] at e4
    apply UInt64.toNat_inj.1
    omega
theorem bytes_inj {a b : Hd} (ha : a.fine = true) (hb : b.fine = true) : (a.bytes = b.bytes) = (a = b) := by
  refine propext ⟨fun h => ?_, fun h => by rw [h]⟩
  unfold Hd.fine at ha hb
  simp only [Bool.and_eq_true, decide_eq_true_eq] at ha hb
  obtain ⟨_, p1, t1, s1, m1⟩ := ha
  obtain ⟨_, p2, t2, s2, m2⟩ := hb
  unfold Hd.bytes at h
  simp only [List.append_assoc] at h
  have h1 := List.append_inj h (by rw [numB_len, numB_len])
  have h2 := List.append_inj h1.2 (by rw [p1, p2])
  have h3 := List.append_inj h2.2 (by rw [t1, t2])
  have h4 := List.append_inj h3.2 (by rw [s1, s2])
  have e1 := numB_inj 8 a.n b.n a.n.toNat_lt b.n.toNat_lt h1.1
  have e5 := membB_inj m1 m2 h4.2
  cases a; cases b
  simp only at *
  rw [e1, h2.1, h3.1, h4.1, e5]
end Go.Vm
