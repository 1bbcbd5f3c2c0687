/- SHA-256 over Lean's own words. -/
import Derived.Test.YthfcgllahllkkaaIr
set_option linter.unusedSectionVars false
set_option linter.unusedSimpArgs false
set_option linter.unusedVariables false
namespace Go.Vm
def w32 (x : UInt32) : V := .int .u32 (x.toNat : Int)
theorem w32_app (x : UInt32) : w32 x = .int .u32 (x.toNat : Int) := rfl
theorem set_w32 (l : List UInt32) (i : Nat) (x : UInt32) : (l.map w32).set i (V.int .u32 (x.toNat : Int)) = (l.set i x).map w32 := by rw [List.map_set]; rfl
theorem gt_left {α : Type} [Inhabited α] {l m : List α} {i : Nat} (h : i < l.length) : gt (l ++ m) i = gt l i := by simp [gt, List.getD_eq_getElem?_getD, List.getElem?_append_left h]
theorem gt_mid {α : Type} [Inhabited α] {l m : List α} {x : α} {i : Nat} (h : i = l.length) : gt (l ++ x :: m) i = x := by subst h; simp [gt, List.getD_eq_getElem?_getD]
theorem set_mid {α : Type} {l m : List α} {x y : α} {i : Nat} (h : i = l.length) : (l ++ x :: m).set i y = l ++ y :: m := by subst h; simp
theorem mapQ_ro_w32 {σ : Store} {d : Nat} (l : List UInt32) : mapQ (roV σ (d + 1)) (l.map w32) = some (l.map w32, []) := mapQ_flat fun v hv => by obtain ⟨_, _, rfl⟩ := List.mem_map.1 hv; rfl
theorem mapQ_own_w32 {σ : Store} {d : Nat} (l : List UInt32) : mapQ (ownV σ (d + 1)) (l.map w32) = some (l.map w32, []) := mapQ_flat fun v hv => by obtain ⟨_, _, rfl⟩ := List.mem_map.1 hv; rfl
theorem ha_l_w32 {d : Nat} (l : List UInt32) : (l.map w32).any (hasRo (d + 1)) = false := any_none fun v hv => by obtain ⟨_, _, rfl⟩ := List.mem_map.1 hv; rfl
theorem vis_l_w32 {σ : Store} {d : Nat} (l : List UInt32) : (l.map w32).flatMap (visV σ (d + 1)) = [] := flat_none fun v hv => by obtain ⟨_, _, rfl⟩ := List.mem_map.1 hv; rfl
theorem mapM_w32 {σ : Store} {d k : Nat} (l : List UInt32) : mapM' (matV σ (d + 1)) k (l.map w32) = some (l.map w32, [], k) := mapM_flat fun k v hv => by obtain ⟨_, _, rfl⟩ := List.mem_map.1 hv; rfl
attribute [go_sem] w32_app set_w32 mapQ_ro_w32 mapQ_own_w32 ha_l_w32 vis_l_w32 mapM_w32

def rotr (x : UInt32) (n : Nat) : UInt32 := x >>> UInt32.ofNat n ||| x <<< UInt32.ofNat (32 - n)
def part (b : List UInt8) (i : Nat) : Nat → UInt32
  | 0 => 0
  | k + 1 => part b i k <<< UInt32.ofNat 8 ||| (gt b (4 * i + k)).toUInt32
def sig0 (x : UInt32) : UInt32 := rotr x 7 ^^^ rotr x 18 ^^^ x >>> UInt32.ofNat 3
def sig1 (x : UInt32) : UInt32 := rotr x 17 ^^^ rotr x 19 ^^^ x >>> UInt32.ofNat 10
def wnext (b : List UInt8) (w : List UInt32) (i : Nat) : UInt32 := if i < 16 then part b i 4 else gt w (i - 16) + sig0 (gt w (i - 15)) + gt w (i - 7) + sig1 (gt w (i - 2))
def sched (b : List UInt8) : Nat → List UInt32
  | 0 => []
  | i + 1 => sched b i ++ [wnext b (sched b i) i]
theorem sched_len (b : List UInt8) : ∀ i, (sched b i).length = i
  | 0 => rfl
  | i + 1 => by rw [sched, List.length_append, sched_len b i]; rfl
structure H8 where
  (a b c d e f g h : UInt32)
def H8.v (x : H8) : List V := [.int .u32 x.a.toNat, .int .u32 x.b.toNat, .int .u32 x.c.toNat, .int .u32 x.d.toNat, .int .u32 x.e.toNat, .int .u32 x.f.toNat, .int .u32 x.g.toNat, .int .u32 x.h.toNat]
def H8.add (x y : H8) : H8 := ⟨x.a + y.a, x.b + y.b, x.c + y.c, x.d + y.d, x.e + y.e, x.f + y.f, x.g + y.g, x.h + y.h⟩
def tval (k w : UInt32) (x : H8) : UInt32 := x.h + (rotr x.e 6 ^^^ rotr x.e 11 ^^^ rotr x.e 25) + (x.e &&& x.f ^^^ (UInt32.ofNat 4294967295 ^^^ x.e) &&& x.g) + k + w
def uval (x : H8) : UInt32 := (rotr x.a 2 ^^^ rotr x.a 13 ^^^ rotr x.a 22)
def mval (x : H8) : UInt32 := (x.a &&& x.b ^^^ x.a &&& x.c ^^^ x.b &&& x.c)
def rnd (k w : UInt32) (x : H8) : H8 := ⟨tval k w x + uval x + mval x, x.a, x.b, x.c, x.d + tval k w x, x.e, x.f, x.g⟩
def rounds (kt w : List UInt32) (x : H8) : Nat → H8
  | 0 => x
  | i + 1 => rnd (gt kt i) (gt w i) (rounds kt w x i)
def kT : List UInt32 := [
  0x428a2f98, 0x71374491, 0xb5c0fbcf, 0xe9b5dba5, 0x3956c25b, 0x59f111f1, 0x923f82a4, 0xab1c5ed5,
  0xd807aa98, 0x12835b01, 0x243185be, 0x550c7dc3, 0x72be5d74, 0x80deb1fe, 0x9bdc06a7, 0xc19bf174,
  0xe49b69c1, 0xefbe4786, 0x0fc19dc6, 0x240ca1cc, 0x2de92c6f, 0x4a7484aa, 0x5cb0a9dc, 0x76f988da,
  0x983e5152, 0xa831c66d, 0xb00327c8, 0xbf597fc7, 0xc6e00bf3, 0xd5a79147, 0x06ca6351, 0x14292967,
  0x27b70a85, 0x2e1b2138, 0x4d2c6dfc, 0x53380d13, 0x650a7354, 0x766a0abb, 0x81c2c92e, 0x92722c85,
  0xa2bfe8a1, 0xa81a664b, 0xc24b8b70, 0xc76c51a3, 0xd192e819, 0xd6990624, 0xf40e3585, 0x106aa070,
  0x19a4c116, 0x1e376c08, 0x2748774c, 0x34b0bcb5, 0x391c0cb3, 0x4ed8aa4a, 0x5b9cca4f, 0x682e6ff3,
  0x748f82ee, 0x78a5636f, 0x84c87814, 0x8cc70208, 0x90befffa, 0xa4506ceb, 0xbef9a3f7, 0xc67178f2]
def h0 : H8 := ⟨0x6a09e667, 0xbb67ae85, 0x3c6ef372, 0xa54ff53a, 0x510e527f, 0x9b05688c, 0x1f83d9ab, 0x5be0cd19⟩
def compress (b : List UInt8) (x : H8) : H8 := x.add (rounds kT (sched b 64) x 64)
/-- All whole blocks taken in. -/
def absorb (x : H8) (b : List UInt8) : H8 × List UInt8 := if h : 64 ≤ b.length then absorb (compress (b.take 64) x) (b.drop 64) else (x, b)
termination_by b.length
decreasing_by simp; omega
theorem absorb_lt (x : H8) (b : List UInt8) (h : b.length < 64) : absorb x b = (x, b) := by rw [absorb, dif_neg (by omega)]
theorem absorb_ge (x : H8) (b : List UInt8) (h : 64 ≤ b.length) : absorb x b = absorb (compress (b.take 64) x) (b.drop 64) := by rw [absorb, dif_pos h]
theorem absorb_rest : ∀ (n : Nat) (x : H8) (b : List UInt8), b.length ≤ n → (absorb x b).2.length < 64 ∧ (absorb x b).2.length ≤ b.length
  | n, x, b, hn => by
    by_cases h : 64 ≤ b.length
    · match n with
      | 0 => omega
      | n + 1 =>
        rw [absorb_ge x b h]
        have := absorb_rest n (compress (b.take 64) x) (b.drop 64) (by rw [List.length_drop]; omega)
        rw [List.length_drop] at this
        omega
    · rw [absorb_lt x b (by omega)]
      exact ⟨by simpa using h, Nat.le_refl _⟩
theorem absorb_app : ∀ (n : Nat) (x : H8) (b s : List UInt8), b.length ≤ n → absorb x (b ++ s) = absorb (absorb x b).1 ((absorb x b).2 ++ s)
  | n, x, b, s, hn => by
    by_cases h : 64 ≤ b.length
    · match n with
      | 0 => omega
      | n + 1 =>
        rw [absorb_ge x b h, absorb_ge x (b ++ s) (by rw [List.length_append]; omega), List.take_append_of_le_length h, List.drop_append_of_le_length h]
        exact absorb_app n _ _ _ (by rw [List.length_drop]; omega)
    · rw [absorb_lt x b (by omega)]
end Go.Vm
