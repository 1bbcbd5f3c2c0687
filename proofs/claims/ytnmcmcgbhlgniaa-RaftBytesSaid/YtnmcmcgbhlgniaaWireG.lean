/- Frames, of both texts. -/
import Derived.Test.YtnmcmcgbhlgniaaWireF
set_option linter.unusedSectionVars false
set_option linter.unusedSimpArgs false
set_option linter.unusedVariables false
set_option maxHeartbeats 1000000
set_option maxRecDepth 10000
namespace Go.Vm
theorem shl8_nat (x : UInt64) : (x <<< UInt64.ofNat 8).toNat = (x.toNat % 2 ^ 56) * 2 ^ 8 := by
  have h2 : (UInt64.ofNat 8).toNat = 8 := rfl
  have hx := lt_u64 x
  rw [UInt64.toNat_shiftLeft, h2, Nat.mod_eq_of_lt (show 8 < 64 by omega), Nat.shiftLeft_eq]
  omega
theorem shl8_or (x : UInt64) (b : UInt8) : (x <<< UInt64.ofNat 8 ||| b.toUInt64).toNat = (x.toNat % 2 ^ 56) * 2 ^ 8 + b.toNat := by
  have hb := lt_u8 b
  rw [UInt64.toNat_or, shl8_nat, UInt8.toNat_toUInt64, ← Nat.shiftLeft_eq, ← Nat.shiftLeft_add_eq_or_of_lt (show b.toNat < 2 ^ 8 by omega)]
theorem mul256 (x : UInt64) (b : UInt8) : IntKind.u64.wrap ((((x * 256).toNat + b.toNat : Nat)) : Int) = ((x <<< UInt64.ofNat 8 ||| b.toUInt64).toNat : Int) := by
  have hb := lt_u8 b
  have hx := lt_u64 x
  have h2 : (256 : UInt64).toNat = 256 := rfl
  have h1 : (x * 256).toNat = (x.toNat % 2 ^ 56) * 2 ^ 8 := by
    rw [UInt64.toNat_mul, h2]
    omega
  rw [shl8_or, h1, wn_u64 (by omega)]
theorem mul256' (x : UInt64) (b : UInt8) : x * 256 + b.toUInt64 = x <<< UInt64.ofNat 8 ||| b.toUInt64 := by
  apply UInt64.toNat_inj.mp
  rw [shl8_or, UInt64.toNat_add, UInt64.toNat_mul]
  simp only [UInt8.toNat_toUInt64]
  have h1 := x.toNat_lt
  have h2 := b.toNat_lt
  have : (256 : UInt64).toNat = 256 := rfl
  rw [this]
  omega
theorem beV_lt : ∀ (k : Nat) (s : List UInt8), s.length ≤ k → k ≤ 7 → (beV s).toNat < 256 ^ k
  | 0, s, hs, _ => by
    obtain rfl : s = [] := List.eq_nil_of_length_eq_zero (by omega)
    decide
  | k + 1, s, hs, hk => by
    rcases List.eq_nil_or_concat s with rfl | ⟨t, b, rfl⟩
    · have : 0 < 256 ^ (k + 1) := Nat.pow_pos (by omega)
      have e : (beV []).toNat = 0 := rfl
      omega
    · rw [List.concat_eq_append] at hs ⊢
      rw [beV_snoc, shl8_or]
      have ih := beV_lt k t (by simp at hs; omega) (by omega)
      have hb := lt_u8 b
      have hm : (beV t).toNat % 2 ^ 56 ≤ (beV t).toNat := Nat.mod_le _ _
      rw [Nat.pow_succ]
      omega
theorem beV_numB : ∀ (b : Nat) (n : UInt64), b ≤ 7 → n.toNat < 256 ^ b → beV (numB n b) = n
  | 0, n, _, h => by
    have : n.toNat = 0 := by simpa using h
    apply UInt64.toNat_inj.1
    rw [this]
    rfl
  | b + 1, n, hb, h => by
    have hd : (n / 256).toNat = n.toNat / 256 := UInt64.toNat_div n 256
    rw [numB, beV_snoc, beV_numB b (n / 256) (by omega) (by rw [hd]; rw [Nat.pow_succ] at h; omega)]
    apply UInt64.toNat_inj.1
    have hn := lt_u64 n
    rw [shl8_or, hd, UInt64.toNat_toUInt8]
    omega
def frameB (x : List UInt8) : List UInt8 := numB (UInt64.ofNat x.length) 4 ++ numB (crc (numB (UInt64.ofNat x.length) 4 ++ x)).toUInt64 4 ++ x
/-- The text of a frame at a place, the place behind it, the error. -/
def unframe (s : List UInt8) (at' : Int) : List UInt8 × Nat × Int :=
  if at' < 0 ∨ (s.length : Int) < at' then ([], 0, 1) else
    let c := (Rd.mk (s.drop at'.toNat) 0 0).count 2147483647
    let m := c.1.number 4
    let t := m.1.bytes c.2
    if t.1.err ≠ 0 then ([], 0, t.1.err) else if m.2 ≠ (crc (numB (UInt64.ofNat c.2) 4 ++ t.2)).toUInt64 then ([], 0, 6) else (t.2, at'.toNat + t.1.at', 0)
end Go.Vm
namespace Go.Vm.Ytnmcmcgbhlgniaa
open Go.Proofs
def fnumS (p2 p4 : V) (b2 b4 : Blk) (x : List UInt8) (i : Nat) (s : St) : Prop := i ≤ x.length ∧ s.t 2 = p2 ∧ s.t 4 = p4 ∧ s.t 6 = .str x ∧ s.σ 192 = b2 ∧ s.σ 320 = b4 ∧ s.t 7 = .int .u64 ((beV (x.take i)).toNat : Int) ∧ s.t 8 = .int .i64 (i : Int)
end Go.Vm.Ytnmcmcgbhlgniaa
