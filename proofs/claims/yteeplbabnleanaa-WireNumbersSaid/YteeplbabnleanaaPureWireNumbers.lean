/- Checks are CRC-32C, and numbers have their bytes, the highest first: for every number, count of bytes and text. No conditions. -/
import Derived.Test.YteeplbabnleanaaQAx7
import Derived.Test.YteeplbabnleanaaAwake03
namespace Go.Proofs.Yteeplbabnleanaa.Pure
open Go.RowKit Go.Proofs.Yteeplbabnleanaa.QA Go.Proofs.Yteeplbabnleanaa.Muni Go.Proofs.YteeplbabnleanaaW.PrintWords Go.Proofs.YteeplbabnleanaaW.PrintLast Go.Proofs.YteeplbabnleanaaW.PrintMore

theorem WireNumbers : munimentlaw03_WireNumbers.Pure := by
  intro n b s hn _ hs
  have hn' : 0 ≤ n ∧ n < 18446744073709551616 := by
    simp [Lit.wf, IntKind.min, IntKind.max, IntKind.signed, IntKind.bits] at hn
    omega
  obtain ⟨t, ht, hts, _⟩ := few_any s
  refine ⟨40000, ?_⟩
  unfold munimentlaw03_WireNumbers.f
  rw [awake_any _ (by omega)]
  simp only [Option.bind_some, if_true]
  rw [number_any n b _ (by omega), refNumber_any n b _ hn'.1 hn'.2 (by omega)]
  simp only [Option.bind_some, if_true]
  rw [ht]
  simp only [Option.bind_some]
  rw [crc_any t _ (by omega) (by omega), refCrc_any t _ (by omega) (by omega)]
  simp
end Go.Proofs.Yteeplbabnleanaa.Pure
