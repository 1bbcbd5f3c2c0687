/- The published check and a number's bytes: the walked test answers yes. -/
import Derived.Test.YteeplbabnleanaaQAx3
import Derived.Test.YteeplbabnleanaaNum
namespace Go.Proofs.Yteeplbabnleanaa.Muni
open Go.RowKit Go.Proofs.Yteeplbabnleanaa.QA Go.Proofs.YteeplbabnleanaaW.PrintWords Go.Proofs.YteeplbabnleanaaW.PrintLast Go.Proofs.YteeplbabnleanaaW.PrintMore
theorem crc_published : crcI (bts ⟨#[49, 50, 51, 52, 53, 54, 55, 56, 57]⟩) = 3808858755 := by decide +kernel
theorem awake_any (k : Nat) (hk : 100 ≤ k) : munimentlaw03_awake.f k = some true := by
  unfold munimentlaw03_awake.f
  rw [crc_any _ k (by decide) (by show 10 * 9 + 1 ≤ k; omega), crc_published]
  simp only [Option.bind_some, if_true]
  rw [number_any 258 2 k (by omega)]
  decide +kernel
end Go.Proofs.Yteeplbabnleanaa.Muni
