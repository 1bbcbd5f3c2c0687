/- Numbers, checks, readers and writers, as plain functions. -/
import Derived.Test.YtholgdogohmdbaaVmFit
set_option linter.unusedSectionVars false
set_option linter.unusedSimpArgs false
set_option linter.unusedVariables false
namespace Go.Vm
/-- A number's last bytes, the highest first. -/
def numB (n : UInt64) : Nat → List UInt8
  | 0 => []
  | b + 1 => numB (n / 256) b ++ [n.toUInt8]
theorem numB_len : ∀ (b : Nat) (n : UInt64), (numB n b).length = b
  | 0, _ => rfl
  | b + 1, n => by rw [numB, List.length_append, numB_len b]; rfl
/-- The first so many of b bytes. -/
def numF (n : UInt64) (b : Nat) : Nat → List UInt8
  | 0 => []
  | i + 1 => numF n b i ++ [(n >>> UInt64.ofNat (8 * (b - 1 - i))).toUInt8]
theorem numF_len (n : UInt64) (b : Nat) : ∀ i, (numF n b i).length = i
  | 0 => rfl
  | i + 1 => by rw [numF, List.length_append, numF_len n b i]; rfl
theorem shr_div (n : UInt64) (k : Nat) (hk : k + 8 < 64) : (n / 256) >>> UInt64.ofNat k = n >>> UInt64.ofNat (k + 8) := by
  apply UInt64.toNat_inj.1
  have h1 : (UInt64.ofNat k).toNat = k := UInt64.toNat_ofNat_of_lt' (by show k < 18446744073709551616; omega)
  have h2 : (UInt64.ofNat (k + 8)).toNat = k + 8 := UInt64.toNat_ofNat_of_lt' (by show k + 8 < 18446744073709551616; omega)
  rw [UInt64.toNat_shiftRight, UInt64.toNat_shiftRight, UInt64.toNat_div, h1, h2, Nat.mod_eq_of_lt (by omega), Nat.mod_eq_of_lt (by omega)]
  show (n.toNat / 2 ^ 8) >>> k = _
  rw [← Nat.shiftRight_eq_div_pow, ← Nat.shiftRight_add, Nat.add_comm]
theorem numF_div (n : UInt64) (b : Nat) (hb : b + 1 ≤ 8) : ∀ i, i ≤ b → numF n (b + 1) i = numF (n / 256) b i
  | 0, _ => rfl
  | i + 1, hi => by
    rw [numF, numF, numF_div n b hb i (by omega), shr_div n _ (by omega)]
    rw [show 8 * (b + 1 - 1 - i) = 8 * (b - 1 - i) + 8 by omega]
theorem numF_all : ∀ (b : Nat) (n : UInt64), b ≤ 8 → numF n b b = numB n b
  | 0, _, _ => rfl
  | b + 1, n, hb => by
    rw [numF, numB, numF_div n b (by omega) b (Nat.le_refl _), numF_all b (n / 256) (by omega)]
    rw [show 8 * (b + 1 - 1 - b) = 0 by omega]
    simp
/-- How many bytes are told. -/
def bytes8 (b : Int) : Nat := min b.toNat 8
/-- One bit of the check. -/
def crcBit (r : UInt32) : UInt32 := if r &&& UInt32.ofNat 1 = UInt32.ofNat 1 then r >>> UInt32.ofNat 1 ^^^ UInt32.ofNat 2197175160 else r >>> UInt32.ofNat 1
def crcBits (r : UInt32) : Nat → UInt32
  | 0 => r
  | k + 1 => crcBit (crcBits r k)
def crcByte (r : UInt32) (b : UInt8) : UInt32 := crcBits (r ^^^ b.toUInt32) 8
def crcFrom (r : UInt32) (s : List UInt8) : UInt32 := s.foldl crcByte r
def crc (s : List UInt8) : UInt32 := crcFrom (UInt32.ofNat 4294967295) s ^^^ UInt32.ofNat 4294967295
theorem crcFrom_snoc (r : UInt32) (s : List UInt8) (b : UInt8) : crcFrom r (s ++ [b]) = crcByte (crcFrom r s) b := by simp [crcFrom]
/-- A number out of its bytes. -/
def beV (s : List UInt8) : UInt64 := s.foldl (fun n b => n <<< UInt64.ofNat 8 ||| b.toUInt64) (UInt64.ofNat 0)
theorem beV_snoc (s : List UInt8) (b : UInt8) : beV (s ++ [b]) = beV s <<< UInt64.ofNat 8 ||| b.toUInt64 := by simp [beV]
/-- A reader. -/
structure Rd where
  s : List UInt8
  at' : Nat
  err : Int
def Rd.v (r : Rd) : List V := [.str r.s, .int .i64 (r.at' : Int), .int .i64 r.err]
def Rd.ok (r : Rd) : Prop := r.at' ≤ r.s.length ∧ r.s.length ≤ 140737488355328
def Rd.bytes (r : Rd) (n : Int) : Rd × List UInt8 :=
  if r.err ≠ 0 then (r, []) else if n < 0 then ({ r with err := 1 }, []) else if (r.s.length : Int) - r.at' < n then ({ r with err := 4 }, [])
  else ({ r with at' := r.at' + n.toNat }, (r.s.drop r.at').take n.toNat)
theorem Rd.bytes_ok {r : Rd} (h : r.ok) (n : Int) : (r.bytes n).1.ok ∧ (r.bytes n).1.s = r.s := by
  unfold Rd.bytes
  obtain ⟨h1, h2⟩ := h
  repeat' split
  · exact ⟨⟨h1, h2⟩, rfl⟩
  · exact ⟨⟨h1, h2⟩, rfl⟩
  · exact ⟨⟨h1, h2⟩, rfl⟩
  · exact ⟨⟨by simp only; omega, h2⟩, rfl⟩
theorem Rd.bytes_len (r : Rd) (n : Int) : (r.bytes n).2.length ≤ r.s.length := by
  unfold Rd.bytes
  repeat' split
  · simp
  · simp
  · simp
  · simp only [List.length_take, List.length_drop]
    omega
def Rd.number (r : Rd) (b : Int) : Rd × UInt64 :=
  let q := (if r.err = 0 ∧ 8 < b then { r with err := 1 } else r).bytes b
  (q.1, beV q.2)
theorem Rd.number_ok {r : Rd} (h : r.ok) (n : Int) : (r.number n).1.ok ∧ (r.number n).1.s = r.s := by
  unfold Rd.number
  split
  · exact Rd.bytes_ok (r := { r with err := 1 }) h n
  · exact Rd.bytes_ok h n
def Rd.count (r : Rd) (most : Int) : Rd × Nat :=
  let q := r.number 4
  if q.1.err ≠ 0 then (q.1, 0) else if most < 0 ∨ most < (q.2.toNat : Int) then ({ q.1 with at' := r.at', err := 3 }, 0) else (q.1, q.2.toNat)
theorem Rd.count_ok {r : Rd} (h : r.ok) (n : Int) : (r.count n).1.ok ∧ (r.count n).1.s = r.s := by
  have := Rd.number_ok h 4
  unfold Rd.count
  simp only
  repeat' split
  · exact this
  · exact ⟨⟨by simp only; rw [this.2]; exact h.1, by simp only; rw [this.2]; exact h.2⟩, this.2⟩
  · exact this
def Rd.text (r : Rd) (most : Int) : Rd × List UInt8 :=
  let q := r.count most
  let p := q.1.bytes q.2
  (if p.1.err ≠ 0 then { p.1 with at' := r.at' } else p.1, p.2)
theorem Rd.text_ok {r : Rd} (h : r.ok) (n : Int) : (r.text n).1.ok ∧ (r.text n).1.s = r.s := by
  have h1 := Rd.count_ok h n
  have h2 := Rd.bytes_ok h1.1 (r.count n).2
  unfold Rd.text
  simp only
  split
  · exact ⟨⟨by simp only; rw [h2.2, h1.2]; exact h.1, by simp only; rw [h2.2, h1.2]; exact h.2⟩, by simp only; rw [h2.2, h1.2]⟩
  · exact ⟨h2.1, by rw [h2.2, h1.2]⟩
def Rd.bool (r : Rd) : Rd × Bool :=
  let q := r.number 1
  if q.1.err = 0 ∧ UInt64.ofNat 1 < q.2 then ({ q.1 with at' := r.at', err := 6 }, false) else (q.1, decide (q.1.err = 0 ∧ q.2 = UInt64.ofNat 1))
theorem Rd.bool_ok {r : Rd} (h : r.ok) : r.bool.1.ok ∧ r.bool.1.s = r.s := by
  have h1 := Rd.number_ok h 1
  unfold Rd.bool
  simp only
  split
  · exact ⟨⟨by simp only; rw [h1.2]; exact h.1, by simp only; rw [h1.2]; exact h.2⟩, h1.2⟩
  · exact h1
def Rd.fail (r : Rd) (e : Int) : Rd := if r.err = 0 then { r with err := e } else r
def Rd.end' (r : Rd) : Rd := if r.at' < r.s.length then r.fail 5 else r
end Go.Vm
