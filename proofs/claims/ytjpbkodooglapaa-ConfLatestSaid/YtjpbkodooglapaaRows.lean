/-
  No cell of these rows narrows 'for every input' (looked for: loops, veiled, ifaces, maps, wideKeys, modest, calm, conditions, laid).
  DERIVED. THE GIVEN ROWS OF THIS SEAT. 8 by the template 'for every input the law returns true; each argument reads behind the call as it read before'; 0 by the template 'total and deterministic' (their statements: YtjpbkodooglapaaTotals.lean).
  GIVEN WITH THE SEED: the statements are not yours to turn. If you find one false, say at which input.
  Laid BY PROGRAM, IN A SANDBOX (cutbox-rows.mjs): the forced cells as the released guide's own fill.sh prints them over the translation 5ac14b3455d19a8f… (all of the seat's roots in one cut). By AI agents, Wed Nov 11 2026. No macro, syntax, notation, axiom, sorry.
-/
import Derived.Test.YtjpbkodooglapaaChecked
import GoSem.Claim
import GoSem.ClaimJoined
import GoSem.ClaimMapViews
import Derived.JoinedTies
import Derived.KernelRfl
namespace Go.Proofs.Ytjpbkodooglapaa
/- THE CELL 'sum', in the pinned program and in every row, IS THE sha256 OF THE DUMP (.gsa) THAT YtjpbkodooglapaaProg.lean LOADS. Nothing in Lean hashes anything: it is a label: what it is worth is what the hold of that sum in a sandbox is worth. -/
noncomputable def Try.pinned : Pinned := { name := "ytjpbkodooglapaa", sum := "5ac14b3455d19a8f76c6a57efcc65a98744e537e30b2cff413b4511b8396223c", checked := Try.checked }
namespace Rows
def none {H : Type} : Left H := { results := [], args := [] }

/-- 'munimentlaw13.ConfNext': WHATEVER THE INPUT: true; the input reads as it did. -/
def confNextSpec : ChangeSpec := { name := "confNext", fn := fun _ => fun
  | [d1, d2, d3] => { results := [.lit (.bool true)], args := [d1, d2, d3] }
  | _ => none }
def confNextRow : OpenClaim := { program := "ytjpbkodooglapaa", sum := "5ac14b3455d19a8f76c6a57efcc65a98744e537e30b2cff413b4511b8396223c", func := "muniment/munimentlaw13.ConfNext", spec := "confNext", plainKeys := false, apart := false }
def ConfNextSaid : Prop := confNextRow.holds Try.pinned (OpenSpec.ofChange confNextSpec)

/-- ITS FALSE NEIGHBOUR: 'it returns false'. Refute it at one input. -/
def confNextWrong : ChangeSpec := { name := "confNext", fn := fun _ => fun
  | [d1, d2, d3] => { results := [.lit (.bool false)], args := [d1, d2, d3] }
  | _ => none }
def ConfNextWrongFalsely : Prop := confNextRow.holds Try.pinned (OpenSpec.ofChange confNextWrong)

/-- 'munimentlaw22.NetOrders': WHATEVER THE INPUT: true; the input reads as it did. -/
def netOrdersSpec : ChangeSpec := { name := "netOrders", fn := fun _ => fun
  | [d1, d2] => { results := [.lit (.bool true)], args := [d1, d2] }
  | _ => none }
def netOrdersRow : OpenClaim := { program := "ytjpbkodooglapaa", sum := "5ac14b3455d19a8f76c6a57efcc65a98744e537e30b2cff413b4511b8396223c", func := "muniment/munimentlaw22.NetOrders", spec := "netOrders", plainKeys := false, apart := false }
def NetOrdersSaid : Prop := netOrdersRow.holds Try.pinned (OpenSpec.ofChange netOrdersSpec)

/-- ITS FALSE NEIGHBOUR: 'it returns false'. Refute it at one input. -/
def netOrdersWrong : ChangeSpec := { name := "netOrders", fn := fun _ => fun
  | [d1, d2] => { results := [.lit (.bool false)], args := [d1, d2] }
  | _ => none }
def NetOrdersWrongFalsely : Prop := netOrdersRow.holds Try.pinned (OpenSpec.ofChange netOrdersWrong)

/-- 'munimentlaw13.ConfMeets': WHATEVER THE INPUT: true; the input reads as it did. -/
def confMeetsSpec : ChangeSpec := { name := "confMeets", fn := fun _ => fun
  | [d1, d2, d3] => { results := [.lit (.bool true)], args := [d1, d2, d3] }
  | _ => none }
def confMeetsRow : OpenClaim := { program := "ytjpbkodooglapaa", sum := "5ac14b3455d19a8f76c6a57efcc65a98744e537e30b2cff413b4511b8396223c", func := "muniment/munimentlaw13.ConfMeets", spec := "confMeets", plainKeys := false, apart := false }
def ConfMeetsSaid : Prop := confMeetsRow.holds Try.pinned (OpenSpec.ofChange confMeetsSpec)

/-- ITS FALSE NEIGHBOUR: 'it returns false'. Refute it at one input. -/
def confMeetsWrong : ChangeSpec := { name := "confMeets", fn := fun _ => fun
  | [d1, d2, d3] => { results := [.lit (.bool false)], args := [d1, d2, d3] }
  | _ => none }
def ConfMeetsWrongFalsely : Prop := confMeetsRow.holds Try.pinned (OpenSpec.ofChange confMeetsWrong)

/-- 'munimentlaw13.ConfLatest': WHATEVER THE INPUT: true; the input reads as it did. -/
def confLatestSpec : ChangeSpec := { name := "confLatest", fn := fun _ => fun
  | [d1, d2] => { results := [.lit (.bool true)], args := [d1, d2] }
  | _ => none }
def confLatestRow : OpenClaim := { program := "ytjpbkodooglapaa", sum := "5ac14b3455d19a8f76c6a57efcc65a98744e537e30b2cff413b4511b8396223c", func := "muniment/munimentlaw13.ConfLatest", spec := "confLatest", plainKeys := false, apart := false }
def ConfLatestSaid : Prop := confLatestRow.holds Try.pinned (OpenSpec.ofChange confLatestSpec)

/-- ITS FALSE NEIGHBOUR: 'it returns false'. Refute it at one input. -/
def confLatestWrong : ChangeSpec := { name := "confLatest", fn := fun _ => fun
  | [d1, d2] => { results := [.lit (.bool false)], args := [d1, d2] }
  | _ => none }
def ConfLatestWrongFalsely : Prop := confLatestRow.holds Try.pinned (OpenSpec.ofChange confLatestWrong)

/-- 'munimentlaw08.HeadSame': WHATEVER THE INPUT: true; the input reads as it did. -/
def headSameSpec : ChangeSpec := { name := "headSame", fn := fun _ => fun
  | [d1, d2, d3] => { results := [.lit (.bool true)], args := [d1, d2, d3] }
  | _ => none }
def headSameRow : OpenClaim := { program := "ytjpbkodooglapaa", sum := "5ac14b3455d19a8f76c6a57efcc65a98744e537e30b2cff413b4511b8396223c", func := "muniment/munimentlaw08.HeadSame", spec := "headSame", recurses := true, plainKeys := false, apart := false }
def HeadSameSaid : Prop := headSameRow.holds Try.pinned (OpenSpec.ofChange headSameSpec)

/-- ITS FALSE NEIGHBOUR: 'it returns false'. Refute it at one input. -/
def headSameWrong : ChangeSpec := { name := "headSame", fn := fun _ => fun
  | [d1, d2, d3] => { results := [.lit (.bool false)], args := [d1, d2, d3] }
  | _ => none }
def HeadSameWrongFalsely : Prop := headSameRow.holds Try.pinned (OpenSpec.ofChange headSameWrong)

/-- 'munimentlaw22.NetFull': WHATEVER THE INPUT: true; the input reads as it did. -/
def netFullSpec : ChangeSpec := { name := "netFull", fn := fun _ => fun
  | [d1, d2] => { results := [.lit (.bool true)], args := [d1, d2] }
  | _ => none }
def netFullRow : OpenClaim := { program := "ytjpbkodooglapaa", sum := "5ac14b3455d19a8f76c6a57efcc65a98744e537e30b2cff413b4511b8396223c", func := "muniment/munimentlaw22.NetFull", spec := "netFull", inPlace := ["slices.overlaps[muniment/api.Packet]"], plainKeys := false, apart := false }
def NetFullSaid : Prop := netFullRow.holds Try.pinned (OpenSpec.ofChange netFullSpec)

/-- ITS FALSE NEIGHBOUR: 'it returns false'. Refute it at one input. -/
def netFullWrong : ChangeSpec := { name := "netFull", fn := fun _ => fun
  | [d1, d2] => { results := [.lit (.bool false)], args := [d1, d2] }
  | _ => none }
def NetFullWrongFalsely : Prop := netFullRow.holds Try.pinned (OpenSpec.ofChange netFullWrong)

/-- 'munimentlaw13.ConfLists': WHATEVER THE INPUT: true; the input reads as it did. -/
def confListsSpec : ChangeSpec := { name := "confLists", fn := fun _ => fun
  | [d1, d2] => { results := [.lit (.bool true)], args := [d1, d2] }
  | _ => none }
def confListsRow : OpenClaim := { program := "ytjpbkodooglapaa", sum := "5ac14b3455d19a8f76c6a57efcc65a98744e537e30b2cff413b4511b8396223c", func := "muniment/munimentlaw13.ConfLists", spec := "confLists", inPlace := ["slices.overlaps[int]"], unfollowed := true, recurses := true, plainKeys := false, apart := false }
def ConfListsSaid : Prop := confListsRow.holds Try.pinned (OpenSpec.ofChange confListsSpec)

/-- ITS FALSE NEIGHBOUR: 'it returns false'. Refute it at one input. -/
def confListsWrong : ChangeSpec := { name := "confLists", fn := fun _ => fun
  | [d1, d2] => { results := [.lit (.bool false)], args := [d1, d2] }
  | _ => none }
def ConfListsWrongFalsely : Prop := confListsRow.holds Try.pinned (OpenSpec.ofChange confListsWrong)

/-- 'munimentlaw22.NetNil': WHATEVER THE INPUT: true; the input reads as it did. -/
def netNilSpec : ChangeSpec := { name := "netNil", fn := fun _ => fun
  | [d] => { results := [.lit (.bool true)], args := [d] }
  | _ => none }
def netNilRow : OpenClaim := { program := "ytjpbkodooglapaa", sum := "5ac14b3455d19a8f76c6a57efcc65a98744e537e30b2cff413b4511b8396223c", func := "muniment/munimentlaw22.NetNil", spec := "netNil", inPlace := ["slices.overlaps[muniment/api.Packet]"], unfollowed := true, recurses := true, plainKeys := false, apart := false }
def NetNilSaid : Prop := netNilRow.holds Try.pinned (OpenSpec.ofChange netNilSpec)

/-- ITS FALSE NEIGHBOUR: 'it returns false'. Refute it at one input. -/
def netNilWrong : ChangeSpec := { name := "netNil", fn := fun _ => fun
  | [d] => { results := [.lit (.bool false)], args := [d] }
  | _ => none }
def NetNilWrongFalsely : Prop := netNilRow.holds Try.pinned (OpenSpec.ofChange netNilWrong)

/- THE SECOND FORM. 'bulk': how many values and letters a reading holds, each counted each time it is reached (what is shared counts as often as it is met; a slice's spare places count too). A statement '..UptoSaid' is the law's where the arguments, and the package variables that the reading takes, are together of bulk at most 1048576: NARROWER than '..Said'. Prove '..Said' where nothing that the law and all that it calls make is longer than what came in: it says more and counts as full. Else prove '..UptoSaid'. A law counts once. -/
mutual
def uptoBulk {H : Type} : DataW H → Nat
  | .lit (.string bytes) => bytes.length + 1
  | .lit _ => 1
  | .nil => 1
  | .ptr d => uptoBulk d + 1
  | .slice elems spare => uptoBulkAll elems + uptoBulkAll spare + 1
  | .agg parts => uptoBulkAll parts + 1
  | .iface _ d => uptoBulk d + 1
  | .map entries => uptoBulkEntries entries + 1
  | .held _ => 1
def uptoBulkAll {H : Type} : List (DataW H) → Nat
  | [] => 0
  | d :: r => uptoBulk d + uptoBulkAll r
def uptoBulkEntries {H : Type} : List (Lit × DataW H) → Nat
  | [] => 0
  | x :: r => uptoBulkEntry x + uptoBulkEntries r
def uptoBulkEntry {H : Type} : Lit × DataW H → Nat
  | (.string bytes, d) => bytes.length + uptoBulk d + 1
  | (_, d) => uptoBulk d + 1
 end
def uptoSmall : (H : Type) → List (DataW H) → Bool := fun _ ds => decide (uptoBulkAll ds ≤ 1048576)
def OpenSpec.upto (s : _root_.Go.ChangeSpec) : _root_.Go.OpenSpec := { _root_.Go.OpenSpec.ofChange s with cond := some uptoSmall }

/-- 'munimentlaw13.ConfNext', WHERE WHAT IT READS IS OF BULK AT MOST 1048576: true; the input reads as it did. -/
def confNextUptoRow : OpenClaim := { program := "ytjpbkodooglapaa", sum := "5ac14b3455d19a8f76c6a57efcc65a98744e537e30b2cff413b4511b8396223c", func := "muniment/munimentlaw13.ConfNext", spec := "confNext", plainKeys := false, apart := false, narrowed := true }
def ConfNextUptoSaid : Prop := confNextUptoRow.holds Try.pinned (OpenSpec.upto confNextSpec)

/-- 'munimentlaw22.NetOrders', WHERE WHAT IT READS IS OF BULK AT MOST 1048576: true; the input reads as it did. -/
def netOrdersUptoRow : OpenClaim := { program := "ytjpbkodooglapaa", sum := "5ac14b3455d19a8f76c6a57efcc65a98744e537e30b2cff413b4511b8396223c", func := "muniment/munimentlaw22.NetOrders", spec := "netOrders", plainKeys := false, apart := false, narrowed := true }
def NetOrdersUptoSaid : Prop := netOrdersUptoRow.holds Try.pinned (OpenSpec.upto netOrdersSpec)

/-- 'munimentlaw13.ConfMeets', WHERE WHAT IT READS IS OF BULK AT MOST 1048576: true; the input reads as it did. -/
def confMeetsUptoRow : OpenClaim := { program := "ytjpbkodooglapaa", sum := "5ac14b3455d19a8f76c6a57efcc65a98744e537e30b2cff413b4511b8396223c", func := "muniment/munimentlaw13.ConfMeets", spec := "confMeets", plainKeys := false, apart := false, narrowed := true }
def ConfMeetsUptoSaid : Prop := confMeetsUptoRow.holds Try.pinned (OpenSpec.upto confMeetsSpec)

/-- 'munimentlaw13.ConfLatest', WHERE WHAT IT READS IS OF BULK AT MOST 1048576: true; the input reads as it did. -/
def confLatestUptoRow : OpenClaim := { program := "ytjpbkodooglapaa", sum := "5ac14b3455d19a8f76c6a57efcc65a98744e537e30b2cff413b4511b8396223c", func := "muniment/munimentlaw13.ConfLatest", spec := "confLatest", plainKeys := false, apart := false, narrowed := true }
def ConfLatestUptoSaid : Prop := confLatestUptoRow.holds Try.pinned (OpenSpec.upto confLatestSpec)

/-- 'munimentlaw08.HeadSame', WHERE WHAT IT READS IS OF BULK AT MOST 1048576: true; the input reads as it did. -/
def headSameUptoRow : OpenClaim := { program := "ytjpbkodooglapaa", sum := "5ac14b3455d19a8f76c6a57efcc65a98744e537e30b2cff413b4511b8396223c", func := "muniment/munimentlaw08.HeadSame", spec := "headSame", recurses := true, plainKeys := false, apart := false, narrowed := true }
def HeadSameUptoSaid : Prop := headSameUptoRow.holds Try.pinned (OpenSpec.upto headSameSpec)

/-- 'munimentlaw22.NetFull', WHERE WHAT IT READS IS OF BULK AT MOST 1048576: true; the input reads as it did. -/
def netFullUptoRow : OpenClaim := { program := "ytjpbkodooglapaa", sum := "5ac14b3455d19a8f76c6a57efcc65a98744e537e30b2cff413b4511b8396223c", func := "muniment/munimentlaw22.NetFull", spec := "netFull", inPlace := ["slices.overlaps[muniment/api.Packet]"], plainKeys := false, apart := false, narrowed := true }
def NetFullUptoSaid : Prop := netFullUptoRow.holds Try.pinned (OpenSpec.upto netFullSpec)

/-- 'munimentlaw13.ConfLists', WHERE WHAT IT READS IS OF BULK AT MOST 1048576: true; the input reads as it did. -/
def confListsUptoRow : OpenClaim := { program := "ytjpbkodooglapaa", sum := "5ac14b3455d19a8f76c6a57efcc65a98744e537e30b2cff413b4511b8396223c", func := "muniment/munimentlaw13.ConfLists", spec := "confLists", inPlace := ["slices.overlaps[int]"], unfollowed := true, recurses := true, plainKeys := false, apart := false, narrowed := true }
def ConfListsUptoSaid : Prop := confListsUptoRow.holds Try.pinned (OpenSpec.upto confListsSpec)

/-- 'munimentlaw22.NetNil', WHERE WHAT IT READS IS OF BULK AT MOST 1048576: true; the input reads as it did. -/
def netNilUptoRow : OpenClaim := { program := "ytjpbkodooglapaa", sum := "5ac14b3455d19a8f76c6a57efcc65a98744e537e30b2cff413b4511b8396223c", func := "muniment/munimentlaw22.NetNil", spec := "netNil", inPlace := ["slices.overlaps[muniment/api.Packet]"], unfollowed := true, recurses := true, plainKeys := false, apart := false, narrowed := true }
def NetNilUptoSaid : Prop := netNilUptoRow.holds Try.pinned (OpenSpec.upto netNilSpec)

end Rows
end Go.Proofs.Ytjpbkodooglapaa
