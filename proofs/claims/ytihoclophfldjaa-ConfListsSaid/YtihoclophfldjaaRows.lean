/-
  No cell of these rows narrows 'for every input' (looked for: loops, veiled, ifaces, maps, wideKeys, modest, calm, conditions, laid).
  DERIVED. THE GIVEN ROWS OF THIS SEAT. 4 by the template 'for every input the law returns true; each argument reads behind the call as it read before'; 0 by the template 'total and deterministic' (their statements: YtihoclophfldjaaTotals.lean).
  GIVEN WITH THE SEED: the statements are not yours to turn. If you find one false, say at which input.
  Laid BY PROGRAM, IN A SANDBOX (cutbox-rows.mjs): the forced cells as the released guide's own fill.sh prints them over the translation 75de10839c11f934… (all of the seat's roots in one cut). By AI agents, Wed Nov 11 2026. No macro, syntax, notation, axiom, sorry.
-/
import Derived.Test.YtihoclophfldjaaChecked
import GoSem.Claim
import GoSem.ClaimJoined
import GoSem.ClaimMapViews
import Derived.JoinedTies
import Derived.KernelRfl
namespace Go.Proofs.Ytihoclophfldjaa
/- THE CELL 'sum', in the pinned program and in every row, IS THE sha256 OF THE DUMP (.gsa) THAT YtihoclophfldjaaProg.lean LOADS. Nothing in Lean hashes anything: it is a label: what it is worth is what the hold of that sum in a sandbox is worth. -/
noncomputable def Try.pinned : Pinned := { name := "ytihoclophfldjaa", sum := "75de10839c11f9347e6260954ed315d54790f960adc341ed9fe41ef81192b3a8", checked := Try.checked }
namespace Rows
def none {H : Type} : Left H := { results := [], args := [] }

/-- 'munimentlaw13.ConfNext': WHATEVER THE INPUT: true; the input reads as it did. -/
def confNextSpec : ChangeSpec := { name := "confNext", fn := fun _ => fun
  | [d1, d2, d3] => { results := [.lit (.bool true)], args := [d1, d2, d3] }
  | _ => none }
def confNextRow : OpenClaim := { program := "ytihoclophfldjaa", sum := "75de10839c11f9347e6260954ed315d54790f960adc341ed9fe41ef81192b3a8", func := "muniment/munimentlaw13.ConfNext", spec := "confNext", apart := false }
def ConfNextSaid : Prop := confNextRow.holds Try.pinned (OpenSpec.ofChange confNextSpec)

/-- ITS FALSE NEIGHBOUR: 'it returns false'. Refute it at one input. -/
def confNextWrong : ChangeSpec := { name := "confNext", fn := fun _ => fun
  | [d1, d2, d3] => { results := [.lit (.bool false)], args := [d1, d2, d3] }
  | _ => none }
def ConfNextWrongFalsely : Prop := confNextRow.holds Try.pinned (OpenSpec.ofChange confNextWrong)

/-- 'munimentlaw13.ConfMeets': WHATEVER THE INPUT: true; the input reads as it did. -/
def confMeetsSpec : ChangeSpec := { name := "confMeets", fn := fun _ => fun
  | [d1, d2, d3] => { results := [.lit (.bool true)], args := [d1, d2, d3] }
  | _ => none }
def confMeetsRow : OpenClaim := { program := "ytihoclophfldjaa", sum := "75de10839c11f9347e6260954ed315d54790f960adc341ed9fe41ef81192b3a8", func := "muniment/munimentlaw13.ConfMeets", spec := "confMeets", apart := false }
def ConfMeetsSaid : Prop := confMeetsRow.holds Try.pinned (OpenSpec.ofChange confMeetsSpec)

/-- ITS FALSE NEIGHBOUR: 'it returns false'. Refute it at one input. -/
def confMeetsWrong : ChangeSpec := { name := "confMeets", fn := fun _ => fun
  | [d1, d2, d3] => { results := [.lit (.bool false)], args := [d1, d2, d3] }
  | _ => none }
def ConfMeetsWrongFalsely : Prop := confMeetsRow.holds Try.pinned (OpenSpec.ofChange confMeetsWrong)

/-- 'munimentlaw13.ConfLatest': WHATEVER THE INPUT: true; the input reads as it did. -/
def confLatestSpec : ChangeSpec := { name := "confLatest", fn := fun _ => fun
  | [d1, d2] => { results := [.lit (.bool true)], args := [d1, d2] }
  | _ => none }
def confLatestRow : OpenClaim := { program := "ytihoclophfldjaa", sum := "75de10839c11f9347e6260954ed315d54790f960adc341ed9fe41ef81192b3a8", func := "muniment/munimentlaw13.ConfLatest", spec := "confLatest", apart := false }
def ConfLatestSaid : Prop := confLatestRow.holds Try.pinned (OpenSpec.ofChange confLatestSpec)

/-- ITS FALSE NEIGHBOUR: 'it returns false'. Refute it at one input. -/
def confLatestWrong : ChangeSpec := { name := "confLatest", fn := fun _ => fun
  | [d1, d2] => { results := [.lit (.bool false)], args := [d1, d2] }
  | _ => none }
def ConfLatestWrongFalsely : Prop := confLatestRow.holds Try.pinned (OpenSpec.ofChange confLatestWrong)

/-- 'munimentlaw13.ConfLists': WHATEVER THE INPUT: true; the input reads as it did. -/
def confListsSpec : ChangeSpec := { name := "confLists", fn := fun _ => fun
  | [d1, d2] => { results := [.lit (.bool true)], args := [d1, d2] }
  | _ => none }
def confListsRow : OpenClaim := { program := "ytihoclophfldjaa", sum := "75de10839c11f9347e6260954ed315d54790f960adc341ed9fe41ef81192b3a8", func := "muniment/munimentlaw13.ConfLists", spec := "confLists", inPlace := ["slices.overlaps[int]"], unfollowed := true, recurses := true, apart := false }
def ConfListsSaid : Prop := confListsRow.holds Try.pinned (OpenSpec.ofChange confListsSpec)

/-- ITS FALSE NEIGHBOUR: 'it returns false'. Refute it at one input. -/
def confListsWrong : ChangeSpec := { name := "confLists", fn := fun _ => fun
  | [d1, d2] => { results := [.lit (.bool false)], args := [d1, d2] }
  | _ => none }
def ConfListsWrongFalsely : Prop := confListsRow.holds Try.pinned (OpenSpec.ofChange confListsWrong)

/- THE SECOND FORM. 'bulk': how many values and letters a reading holds, each counted each time it is reached (what is shared counts as often as it is met; a slice's spare places count too). A statement '..UptoSaid' is the law's where the arguments, and the package variables that the reading takes, are together of bulk at most 1048576: NARROWER than '..Said'. Prove '..Said' where nothing that the law and all that it calls make is longer than what came in: it says more and counts as full. Else prove '..UptoSaid'. A law counts once. -/
mutual
def uptoBulk {H : Type} : DataW H → Nat
  | .lit (.string bytes) => bytes.length + 1
  | .lit _ => 1
  | .nil => 1
  | .ptr d => uptoBulk d + 1
  | .slice elems spare => uptoBulkAll elems + uptoBulkAll spare + 1
  | .agg parts => uptoBulkAll parts + 1
  | .iface _ d => uptoBulk d + 1
  | .map entries => uptoBulkEntries entries + 1
  | .held _ => 1
def uptoBulkAll {H : Type} : List (DataW H) → Nat
  | [] => 0
  | d :: r => uptoBulk d + uptoBulkAll r
def uptoBulkEntries {H : Type} : List (Lit × DataW H) → Nat
  | [] => 0
  | x :: r => uptoBulkEntry x + uptoBulkEntries r
def uptoBulkEntry {H : Type} : Lit × DataW H → Nat
  | (.string bytes, d) => bytes.length + uptoBulk d + 1
  | (_, d) => uptoBulk d + 1
 end
def uptoSmall : (H : Type) → List (DataW H) → Bool := fun _ ds => decide (uptoBulkAll ds ≤ 1048576)
def OpenSpec.upto (s : _root_.Go.ChangeSpec) : _root_.Go.OpenSpec := { _root_.Go.OpenSpec.ofChange s with cond := some uptoSmall }

/-- 'munimentlaw13.ConfNext', WHERE WHAT IT READS IS OF BULK AT MOST 1048576: true; the input reads as it did. -/
def confNextUptoRow : OpenClaim := { program := "ytihoclophfldjaa", sum := "75de10839c11f9347e6260954ed315d54790f960adc341ed9fe41ef81192b3a8", func := "muniment/munimentlaw13.ConfNext", spec := "confNext", apart := false, narrowed := true }
def ConfNextUptoSaid : Prop := confNextUptoRow.holds Try.pinned (OpenSpec.upto confNextSpec)

/-- 'munimentlaw13.ConfMeets', WHERE WHAT IT READS IS OF BULK AT MOST 1048576: true; the input reads as it did. -/
def confMeetsUptoRow : OpenClaim := { program := "ytihoclophfldjaa", sum := "75de10839c11f9347e6260954ed315d54790f960adc341ed9fe41ef81192b3a8", func := "muniment/munimentlaw13.ConfMeets", spec := "confMeets", apart := false, narrowed := true }
def ConfMeetsUptoSaid : Prop := confMeetsUptoRow.holds Try.pinned (OpenSpec.upto confMeetsSpec)

/-- 'munimentlaw13.ConfLatest', WHERE WHAT IT READS IS OF BULK AT MOST 1048576: true; the input reads as it did. -/
def confLatestUptoRow : OpenClaim := { program := "ytihoclophfldjaa", sum := "75de10839c11f9347e6260954ed315d54790f960adc341ed9fe41ef81192b3a8", func := "muniment/munimentlaw13.ConfLatest", spec := "confLatest", apart := false, narrowed := true }
def ConfLatestUptoSaid : Prop := confLatestUptoRow.holds Try.pinned (OpenSpec.upto confLatestSpec)

/-- 'munimentlaw13.ConfLists', WHERE WHAT IT READS IS OF BULK AT MOST 1048576: true; the input reads as it did. -/
def confListsUptoRow : OpenClaim := { program := "ytihoclophfldjaa", sum := "75de10839c11f9347e6260954ed315d54790f960adc341ed9fe41ef81192b3a8", func := "muniment/munimentlaw13.ConfLists", spec := "confLists", inPlace := ["slices.overlaps[int]"], unfollowed := true, recurses := true, apart := false, narrowed := true }
def ConfListsUptoSaid : Prop := confListsUptoRow.holds Try.pinned (OpenSpec.upto confListsSpec)

end Rows
end Go.Proofs.Ytihoclophfldjaa
