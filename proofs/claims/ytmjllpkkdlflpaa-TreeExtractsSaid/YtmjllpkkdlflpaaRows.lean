/-
  No cell of these rows narrows 'for every input' (looked for: loops, veiled, ifaces, maps, wideKeys, modest, calm, conditions, laid).
  DERIVED. THE GIVEN ROWS OF THIS SEAT. 4 by the template 'for every input the law returns true; each argument reads behind the call as it read before'; 0 by the template 'total and deterministic' (their statements: YtmjllpkkdlflpaaTotals.lean).
  GIVEN WITH THE SEED: the statements are not yours to turn. If you find one false, say at which input.
  Laid BY PROGRAM, IN A SANDBOX (cutbox-rows.mjs): the forced cells as the released guide's own fill.sh prints them over the translation a8482615064b64fa… (all of the seat's roots in one cut). By AI agents, Wed Nov 11 2026. No macro, syntax, notation, axiom, sorry.
-/
import Derived.Test.YtmjllpkkdlflpaaChecked
import GoSem.Claim
import GoSem.ClaimJoined
import GoSem.ClaimMapViews
import Derived.JoinedTies
import Derived.KernelRfl
namespace Go.Proofs.Ytmjllpkkdlflpaa
/- THE CELL 'sum', in the pinned program and in every row, IS THE sha256 OF THE DUMP (.gsa) THAT YtmjllpkkdlflpaaProg.lean LOADS. Nothing in Lean hashes anything: it is a label: what it is worth is what the hold of that sum in a sandbox is worth. -/
noncomputable def Try.pinned : Pinned := { name := "ytmjllpkkdlflpaa", sum := "a8482615064b64fa57ed385bb7e0d3cf902c373eadbb9518f2e0941eeb02b2fd", checked := Try.checked }
namespace Rows
def none {H : Type} : Left H := { results := [], args := [] }

/-- 'munimentlaw06.TreeProves': WHATEVER THE INPUT: true; the input reads as it did. -/
def treeProvesSpec : ChangeSpec := { name := "treeProves", fn := fun _ => fun
  | [d1, d2] => { results := [.lit (.bool true)], args := [d1, d2] }
  | _ => none }
def treeProvesRow : OpenClaim := { program := "ytmjllpkkdlflpaa", sum := "a8482615064b64fa57ed385bb7e0d3cf902c373eadbb9518f2e0941eeb02b2fd", func := "muniment/munimentlaw06.TreeProves", spec := "treeProves", recurses := true, apart := false }
def TreeProvesSaid : Prop := treeProvesRow.holds Try.pinned (OpenSpec.ofChange treeProvesSpec)

/-- ITS FALSE NEIGHBOUR: 'it returns false'. Refute it at one input. -/
def treeProvesWrong : ChangeSpec := { name := "treeProves", fn := fun _ => fun
  | [d1, d2] => { results := [.lit (.bool false)], args := [d1, d2] }
  | _ => none }
def TreeProvesWrongFalsely : Prop := treeProvesRow.holds Try.pinned (OpenSpec.ofChange treeProvesWrong)

/-- 'munimentlaw06.TreeTurns': WHATEVER THE INPUT: true; the input reads as it did. -/
def treeTurnsSpec : ChangeSpec := { name := "treeTurns", fn := fun _ => fun
  | [d1, d2] => { results := [.lit (.bool true)], args := [d1, d2] }
  | _ => none }
def treeTurnsRow : OpenClaim := { program := "ytmjllpkkdlflpaa", sum := "a8482615064b64fa57ed385bb7e0d3cf902c373eadbb9518f2e0941eeb02b2fd", func := "muniment/munimentlaw06.TreeTurns", spec := "treeTurns", recurses := true, apart := false }
def TreeTurnsSaid : Prop := treeTurnsRow.holds Try.pinned (OpenSpec.ofChange treeTurnsSpec)

/-- ITS FALSE NEIGHBOUR: 'it returns false'. Refute it at one input. -/
def treeTurnsWrong : ChangeSpec := { name := "treeTurns", fn := fun _ => fun
  | [d1, d2] => { results := [.lit (.bool false)], args := [d1, d2] }
  | _ => none }
def TreeTurnsWrongFalsely : Prop := treeTurnsRow.holds Try.pinned (OpenSpec.ofChange treeTurnsWrong)

/-- 'munimentlaw06.TreeShort': WHATEVER THE INPUT: true; the input reads as it did. -/
def treeShortSpec : ChangeSpec := { name := "treeShort", fn := fun _ => fun
  | [d1, d2] => { results := [.lit (.bool true)], args := [d1, d2] }
  | _ => none }
def treeShortRow : OpenClaim := { program := "ytmjllpkkdlflpaa", sum := "a8482615064b64fa57ed385bb7e0d3cf902c373eadbb9518f2e0941eeb02b2fd", func := "muniment/munimentlaw06.TreeShort", spec := "treeShort", recurses := true, apart := false }
def TreeShortSaid : Prop := treeShortRow.holds Try.pinned (OpenSpec.ofChange treeShortSpec)

/-- ITS FALSE NEIGHBOUR: 'it returns false'. Refute it at one input. -/
def treeShortWrong : ChangeSpec := { name := "treeShort", fn := fun _ => fun
  | [d1, d2] => { results := [.lit (.bool false)], args := [d1, d2] }
  | _ => none }
def TreeShortWrongFalsely : Prop := treeShortRow.holds Try.pinned (OpenSpec.ofChange treeShortWrong)

/-- 'munimentlaw06.TreeExtracts': WHATEVER THE INPUT: true; the input reads as it did. -/
def treeExtractsSpec : ChangeSpec := { name := "treeExtracts", fn := fun _ => fun
  | [d1, d2, d3] => { results := [.lit (.bool true)], args := [d1, d2, d3] }
  | _ => none }
def treeExtractsRow : OpenClaim := { program := "ytmjllpkkdlflpaa", sum := "a8482615064b64fa57ed385bb7e0d3cf902c373eadbb9518f2e0941eeb02b2fd", func := "muniment/munimentlaw06.TreeExtracts", spec := "treeExtracts", recurses := true, apart := false }
def TreeExtractsSaid : Prop := treeExtractsRow.holds Try.pinned (OpenSpec.ofChange treeExtractsSpec)

/-- ITS FALSE NEIGHBOUR: 'it returns false'. Refute it at one input. -/
def treeExtractsWrong : ChangeSpec := { name := "treeExtracts", fn := fun _ => fun
  | [d1, d2, d3] => { results := [.lit (.bool false)], args := [d1, d2, d3] }
  | _ => none }
def TreeExtractsWrongFalsely : Prop := treeExtractsRow.holds Try.pinned (OpenSpec.ofChange treeExtractsWrong)

/- THE SECOND FORM. 'bulk': how many values and letters a reading holds, each counted each time it is reached (what is shared counts as often as it is met; a slice's spare places count too). A statement '..UptoSaid' is the law's where the arguments, and the package variables that the reading takes, are together of bulk at most 1048576: NARROWER than '..Said'. Prove '..Said' where nothing that the law and all that it calls make is longer than what came in: it says more and counts as full. Else prove '..UptoSaid'. A law counts once. -/
mutual
def uptoBulk {H : Type} : DataW H → Nat
  | .lit (.string bytes) => bytes.length + 1
  | .lit _ => 1
  | .nil => 1
  | .ptr d => uptoBulk d + 1
  | .slice elems spare => uptoBulkAll elems + uptoBulkAll spare + 1
  | .agg parts => uptoBulkAll parts + 1
  | .iface _ d => uptoBulk d + 1
  | .map entries => uptoBulkEntries entries + 1
  | .held _ => 1
def uptoBulkAll {H : Type} : List (DataW H) → Nat
  | [] => 0
  | d :: r => uptoBulk d + uptoBulkAll r
def uptoBulkEntries {H : Type} : List (Lit × DataW H) → Nat
  | [] => 0
  | x :: r => uptoBulkEntry x + uptoBulkEntries r
def uptoBulkEntry {H : Type} : Lit × DataW H → Nat
  | (.string bytes, d) => bytes.length + uptoBulk d + 1
  | (_, d) => uptoBulk d + 1
 end
def uptoSmall : (H : Type) → List (DataW H) → Bool := fun _ ds => decide (uptoBulkAll ds ≤ 1048576)
def OpenSpec.upto (s : _root_.Go.ChangeSpec) : _root_.Go.OpenSpec := { _root_.Go.OpenSpec.ofChange s with cond := some uptoSmall }

/-- 'munimentlaw06.TreeProves', WHERE WHAT IT READS IS OF BULK AT MOST 1048576: true; the input reads as it did. -/
def treeProvesUptoRow : OpenClaim := { program := "ytmjllpkkdlflpaa", sum := "a8482615064b64fa57ed385bb7e0d3cf902c373eadbb9518f2e0941eeb02b2fd", func := "muniment/munimentlaw06.TreeProves", spec := "treeProves", recurses := true, apart := false, narrowed := true }
def TreeProvesUptoSaid : Prop := treeProvesUptoRow.holds Try.pinned (OpenSpec.upto treeProvesSpec)

/-- 'munimentlaw06.TreeTurns', WHERE WHAT IT READS IS OF BULK AT MOST 1048576: true; the input reads as it did. -/
def treeTurnsUptoRow : OpenClaim := { program := "ytmjllpkkdlflpaa", sum := "a8482615064b64fa57ed385bb7e0d3cf902c373eadbb9518f2e0941eeb02b2fd", func := "muniment/munimentlaw06.TreeTurns", spec := "treeTurns", recurses := true, apart := false, narrowed := true }
def TreeTurnsUptoSaid : Prop := treeTurnsUptoRow.holds Try.pinned (OpenSpec.upto treeTurnsSpec)

/-- 'munimentlaw06.TreeShort', WHERE WHAT IT READS IS OF BULK AT MOST 1048576: true; the input reads as it did. -/
def treeShortUptoRow : OpenClaim := { program := "ytmjllpkkdlflpaa", sum := "a8482615064b64fa57ed385bb7e0d3cf902c373eadbb9518f2e0941eeb02b2fd", func := "muniment/munimentlaw06.TreeShort", spec := "treeShort", recurses := true, apart := false, narrowed := true }
def TreeShortUptoSaid : Prop := treeShortUptoRow.holds Try.pinned (OpenSpec.upto treeShortSpec)

/-- 'munimentlaw06.TreeExtracts', WHERE WHAT IT READS IS OF BULK AT MOST 1048576: true; the input reads as it did. -/
def treeExtractsUptoRow : OpenClaim := { program := "ytmjllpkkdlflpaa", sum := "a8482615064b64fa57ed385bb7e0d3cf902c373eadbb9518f2e0941eeb02b2fd", func := "muniment/munimentlaw06.TreeExtracts", spec := "treeExtracts", recurses := true, apart := false, narrowed := true }
def TreeExtractsUptoSaid : Prop := treeExtractsUptoRow.holds Try.pinned (OpenSpec.upto treeExtractsSpec)

end Rows
end Go.Proofs.Ytmjllpkkdlflpaa
