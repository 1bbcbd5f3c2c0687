/- Digests of some texts, reckoned. -/
import Derived.Test.YthfcgllahllkkaaShaE
set_option linter.unusedSectionVars false
set_option linter.unusedSimpArgs false
set_option linter.unusedVariables false
set_option maxHeartbeats 4000000
set_option maxRecDepth 10000
namespace Go.Vm
theorem sha_Pa : sha [80, 0, 0, 0, 1, 97] = [42, 118, 86, 67, 220, 1, 56, 202, 8, 217, 39, 184, 171, 193, 89, 21, 33, 209, 227, 154, 50, 158, 182, 197, 249, 23, 235, 100, 177, 49, 19, 93] := by
  unfold sha finish
  rw [absorb_lt h0 [80, 0, 0, 0, 1, 97] (by decide)]
  have e : pad ([80, 0, 0, 0, 1, 97] ++ [128]) ++ lenP (0 + UInt64.ofNat ([80, 0, 0, 0, 1, 97] : List UInt8).length) 8 = [80, 0, 0, 0, 1, 97, 128, 0, 0, 0, 0, 0, 0, 0, 0, 0, 0, 0, 0, 0, 0, 0, 0, 0, 0, 0, 0, 0, 0, 0, 0, 0, 0, 0, 0, 0, 0, 0, 0, 0, 0, 0, 0, 0, 0, 0, 0, 0, 0, 0, 0, 0, 0, 0, 0, 0, 0, 0, 0, 0, 0, 0, 0, 48] := by decide +kernel
  rw [e, absorb_ge _ _ (by decide), absorb_lt _ _ (by decide)]
  decide +kernel
theorem sha_Pb : sha [80, 0, 0, 0, 1, 98] = [90, 186, 55, 57, 157, 119, 233, 177, 72, 41, 253, 171, 61, 224, 176, 74, 19, 56, 146, 34, 20, 48, 181, 211, 71, 177, 243, 216, 2, 50, 14, 217] := by
  unfold sha finish
  rw [absorb_lt h0 [80, 0, 0, 0, 1, 98] (by decide)]
  have e : pad ([80, 0, 0, 0, 1, 98] ++ [128]) ++ lenP (0 + UInt64.ofNat ([80, 0, 0, 0, 1, 98] : List UInt8).length) 8 = [80, 0, 0, 0, 1, 98, 128, 0, 0, 0, 0, 0, 0, 0, 0, 0, 0, 0, 0, 0, 0, 0, 0, 0, 0, 0, 0, 0, 0, 0, 0, 0, 0, 0, 0, 0, 0, 0, 0, 0, 0, 0, 0, 0, 0, 0, 0, 0, 0, 0, 0, 0, 0, 0, 0, 0, 0, 0, 0, 0, 0, 0, 0, 48] := by decide +kernel
  rw [e, absorb_ge _ _ (by decide), absorb_lt _ _ (by decide)]
  decide +kernel
theorem sha_V1 : sha [86, 0, 0, 0, 1, 49] = [74, 27, 77, 208, 213, 224, 13, 39, 234, 134, 47, 94, 178, 139, 191, 16, 13, 68, 160, 24, 49, 26, 221, 223, 44, 120, 253, 188, 119, 47, 249, 150] := by
  unfold sha finish
  rw [absorb_lt h0 [86, 0, 0, 0, 1, 49] (by decide)]
  have e : pad ([86, 0, 0, 0, 1, 49] ++ [128]) ++ lenP (0 + UInt64.ofNat ([86, 0, 0, 0, 1, 49] : List UInt8).length) 8 = [86, 0, 0, 0, 1, 49, 128, 0, 0, 0, 0, 0, 0, 0, 0, 0, 0, 0, 0, 0, 0, 0, 0, 0, 0, 0, 0, 0, 0, 0, 0, 0, 0, 0, 0, 0, 0, 0, 0, 0, 0, 0, 0, 0, 0, 0, 0, 0, 0, 0, 0, 0, 0, 0, 0, 0, 0, 0, 0, 0, 0, 0, 0, 48] := by decide +kernel
  rw [e, absorb_ge _ _ (by decide), absorb_lt _ _ (by decide)]
  decide +kernel
theorem sha_V2 : sha [86, 0, 0, 0, 1, 50] = [36, 11, 27, 185, 40, 124, 144, 145, 17, 72, 90, 227, 108, 178, 128, 213, 146, 211, 181, 1, 225, 150, 191, 107, 237, 203, 173, 135, 32, 152, 148, 217] := by
  unfold sha finish
  rw [absorb_lt h0 [86, 0, 0, 0, 1, 50] (by decide)]
  have e : pad ([86, 0, 0, 0, 1, 50] ++ [128]) ++ lenP (0 + UInt64.ofNat ([86, 0, 0, 0, 1, 50] : List UInt8).length) 8 = [86, 0, 0, 0, 1, 50, 128, 0, 0, 0, 0, 0, 0, 0, 0, 0, 0, 0, 0, 0, 0, 0, 0, 0, 0, 0, 0, 0, 0, 0, 0, 0, 0, 0, 0, 0, 0, 0, 0, 0, 0, 0, 0, 0, 0, 0, 0, 0, 0, 0, 0, 0, 0, 0, 0, 0, 0, 0, 0, 0, 0, 0, 0, 48] := by decide +kernel
  rw [e, absorb_ge _ _ (by decide), absorb_lt _ _ (by decide)]
  decide +kernel
end Go.Vm
