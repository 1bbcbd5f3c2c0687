/- SHA-256: digests of texts, of parts for a purpose; sameness and collisions. -/
import Derived.Test.YthfcgllahllkkaaShaD
set_option linter.unusedSectionVars false
set_option linter.unusedSimpArgs false
set_option linter.unusedVariables false
set_option maxHeartbeats 4000000
set_option maxRecDepth 10000
namespace Go.Vm
/-- The digest of bytes. -/
def sha (s : List UInt8) : List UInt8 := finish (absorb h0 s).1 (absorb h0 s).2 (0 + UInt64.ofNat s.length)
theorem finish_len (h : H8) (b : List UInt8) (n : UInt64) : (finish h b n).length = 32 := outP_len _ 8
theorem sha_len (s : List UInt8) : (sha s).length = 32 := finish_len _ _ _
/-- A length in four bytes. -/
def four (n : Nat) : List UInt8 := [byteI ((n / 2 ^ 24 : Nat) : Int), byteI ((n / 2 ^ 16 : Nat) : Int), byteI ((n / 2 ^ 8 : Nat) : Int), byteI (n : Int)]
theorem sha_abc : sha [97, 98, 99] = [186, 120, 22, 191, 143, 1, 207, 234, 65, 65, 64, 222, 93, 174, 34, 35, 176, 3, 97, 163, 150, 23, 122, 156, 180, 16, 255, 97, 242, 0, 21, 173] := by
  unfold sha finish
  rw [absorb_lt h0 [97, 98, 99] (by decide)]
  have e : pad ([97, 98, 99] ++ [128]) ++ lenP (0 + UInt64.ofNat [(97 : UInt8), 98, 99].length) 8 = [97, 98, 99, 128, 0, 0, 0, 0, 0, 0, 0, 0, 0, 0, 0, 0, 0, 0, 0, 0, 0, 0, 0, 0, 0, 0, 0, 0, 0, 0, 0, 0, 0, 0, 0, 0, 0, 0, 0, 0, 0, 0, 0, 0, 0, 0, 0, 0, 0, 0, 0, 0, 0, 0, 0, 0, 0, 0, 0, 0, 0, 0, 0, 24] := by decide +kernel
  rw [e, absorb_ge _ _ (by decide), absorb_lt _ _ (by decide)]
  decide +kernel
end Go.Vm
namespace Go.Vm.Ythfcgllahllkkaa
open Go.Proofs
end Go.Vm.Ythfcgllahllkkaa
