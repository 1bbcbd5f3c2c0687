/-
  No cell of these rows narrows 'for every input' (looked for: loops, veiled, ifaces, maps, wideKeys, modest, calm, conditions, laid).
  DERIVED. THE GIVEN ROWS OF THIS SEAT. 3 by the template 'for every input the law returns true; each argument reads behind the call as it read before'; 0 by the template 'total and deterministic' (their statements: YtclcadpmkkeaeaaTotals.lean).
  GIVEN WITH THE SEED: the statements are not yours to turn. If you find one false, say at which input.
  Laid BY PROGRAM, IN A SANDBOX (cutbox-rows.mjs): the forced cells as the released guide's own fill.sh prints them over the translation 29cb6d6da468e158… (all of the seat's roots in one cut). By AI agents, Wed Nov 11 2026. No macro, syntax, notation, axiom, sorry.
-/
import Derived.Test.YtclcadpmkkeaeaaChecked
import GoSem.Claim
import GoSem.ClaimJoined
import GoSem.ClaimMapViews
import Derived.JoinedTies
import Derived.KernelRfl
namespace Go.Proofs.Ytclcadpmkkeaeaa
/- THE CELL 'sum', in the pinned program and in every row, IS THE sha256 OF THE DUMP (.gsa) THAT YtclcadpmkkeaeaaProg.lean LOADS. Nothing in Lean hashes anything: it is a label: what it is worth is what the hold of that sum in a sandbox is worth. -/
noncomputable def Try.pinned : Pinned := { name := "ytclcadpmkkeaeaa", sum := "29cb6d6da468e1583bdba67e977c08e21844269740b6114bdb26976791f9f271", checked := Try.checked }
namespace Rows
def none {H : Type} : Left H := { results := [], args := [] }

/-- 'munimentlaw11.DiskApart': WHATEVER THE INPUT: true; the input reads as it did. -/
def diskApartSpec : ChangeSpec := { name := "diskApart", fn := fun _ => fun
  | [d1, d2, d3] => { results := [.lit (.bool true)], args := [d1, d2, d3] }
  | _ => none }
def diskApartRow : OpenClaim := { program := "ytclcadpmkkeaeaa", sum := "29cb6d6da468e1583bdba67e977c08e21844269740b6114bdb26976791f9f271", func := "muniment/munimentlaw11.DiskApart", spec := "diskApart", inPlace := ["internal/bytealg.abigen_runtime_cmpstring", "slices.overlaps[muniment/disk.entry]"], unfollowed := true, recurses := true, apart := false }
def DiskApartSaid : Prop := diskApartRow.holds Try.pinned (OpenSpec.ofChange diskApartSpec)

/-- ITS FALSE NEIGHBOUR: 'it returns false'. Refute it at one input. -/
def diskApartWrong : ChangeSpec := { name := "diskApart", fn := fun _ => fun
  | [d1, d2, d3] => { results := [.lit (.bool false)], args := [d1, d2, d3] }
  | _ => none }
def DiskApartWrongFalsely : Prop := diskApartRow.holds Try.pinned (OpenSpec.ofChange diskApartWrong)

/-- 'munimentlaw11.DiskSpace': WHATEVER THE INPUT: true; the input reads as it did. -/
def diskSpaceSpec : ChangeSpec := { name := "diskSpace", fn := fun _ => fun
  | [d1, d2] => { results := [.lit (.bool true)], args := [d1, d2] }
  | _ => none }
def diskSpaceRow : OpenClaim := { program := "ytclcadpmkkeaeaa", sum := "29cb6d6da468e1583bdba67e977c08e21844269740b6114bdb26976791f9f271", func := "muniment/munimentlaw11.DiskSpace", spec := "diskSpace", inPlace := ["internal/bytealg.abigen_runtime_cmpstring", "slices.overlaps[muniment/disk.entry]"], unfollowed := true, recurses := true, apart := false }
def DiskSpaceSaid : Prop := diskSpaceRow.holds Try.pinned (OpenSpec.ofChange diskSpaceSpec)

/-- ITS FALSE NEIGHBOUR: 'it returns false'. Refute it at one input. -/
def diskSpaceWrong : ChangeSpec := { name := "diskSpace", fn := fun _ => fun
  | [d1, d2] => { results := [.lit (.bool false)], args := [d1, d2] }
  | _ => none }
def DiskSpaceWrongFalsely : Prop := diskSpaceRow.holds Try.pinned (OpenSpec.ofChange diskSpaceWrong)

/-- 'munimentlaw11.DiskVoid': WHATEVER THE INPUT: true; the input reads as it did. -/
def diskVoidSpec : ChangeSpec := { name := "diskVoid", fn := fun _ => fun
  | [d1, d2] => { results := [.lit (.bool true)], args := [d1, d2] }
  | _ => none }
def diskVoidRow : OpenClaim := { program := "ytclcadpmkkeaeaa", sum := "29cb6d6da468e1583bdba67e977c08e21844269740b6114bdb26976791f9f271", func := "muniment/munimentlaw11.DiskVoid", spec := "diskVoid", inPlace := ["internal/bytealg.abigen_runtime_cmpstring", "slices.overlaps[muniment/disk.entry]"], unfollowed := true, recurses := true, apart := false }
def DiskVoidSaid : Prop := diskVoidRow.holds Try.pinned (OpenSpec.ofChange diskVoidSpec)

/-- ITS FALSE NEIGHBOUR: 'it returns false'. Refute it at one input. -/
def diskVoidWrong : ChangeSpec := { name := "diskVoid", fn := fun _ => fun
  | [d1, d2] => { results := [.lit (.bool false)], args := [d1, d2] }
  | _ => none }
def DiskVoidWrongFalsely : Prop := diskVoidRow.holds Try.pinned (OpenSpec.ofChange diskVoidWrong)

/- THE SECOND FORM. 'bulk': how many values and letters a reading holds, each counted each time it is reached (what is shared counts as often as it is met; a slice's spare places count too). A statement '..UptoSaid' is the law's where the arguments, and the package variables that the reading takes, are together of bulk at most 1048576: NARROWER than '..Said'. Prove '..Said' where nothing that the law and all that it calls make is longer than what came in: it says more and counts as full. Else prove '..UptoSaid'. A law counts once. -/
mutual
def uptoBulk {H : Type} : DataW H → Nat
  | .lit (.string bytes) => bytes.length + 1
  | .lit _ => 1
  | .nil => 1
  | .ptr d => uptoBulk d + 1
  | .slice elems spare => uptoBulkAll elems + uptoBulkAll spare + 1
  | .agg parts => uptoBulkAll parts + 1
  | .iface _ d => uptoBulk d + 1
  | .map entries => uptoBulkEntries entries + 1
  | .held _ => 1
def uptoBulkAll {H : Type} : List (DataW H) → Nat
  | [] => 0
  | d :: r => uptoBulk d + uptoBulkAll r
def uptoBulkEntries {H : Type} : List (Lit × DataW H) → Nat
  | [] => 0
  | x :: r => uptoBulkEntry x + uptoBulkEntries r
def uptoBulkEntry {H : Type} : Lit × DataW H → Nat
  | (.string bytes, d) => bytes.length + uptoBulk d + 1
  | (_, d) => uptoBulk d + 1
 end
def uptoSmall : (H : Type) → List (DataW H) → Bool := fun _ ds => decide (uptoBulkAll ds ≤ 1048576)
def OpenSpec.upto (s : _root_.Go.ChangeSpec) : _root_.Go.OpenSpec := { _root_.Go.OpenSpec.ofChange s with cond := some uptoSmall }

/-- 'munimentlaw11.DiskApart', WHERE WHAT IT READS IS OF BULK AT MOST 1048576: true; the input reads as it did. -/
def diskApartUptoRow : OpenClaim := { program := "ytclcadpmkkeaeaa", sum := "29cb6d6da468e1583bdba67e977c08e21844269740b6114bdb26976791f9f271", func := "muniment/munimentlaw11.DiskApart", spec := "diskApart", inPlace := ["internal/bytealg.abigen_runtime_cmpstring", "slices.overlaps[muniment/disk.entry]"], unfollowed := true, recurses := true, apart := false, narrowed := true }
def DiskApartUptoSaid : Prop := diskApartUptoRow.holds Try.pinned (OpenSpec.upto diskApartSpec)

/-- 'munimentlaw11.DiskSpace', WHERE WHAT IT READS IS OF BULK AT MOST 1048576: true; the input reads as it did. -/
def diskSpaceUptoRow : OpenClaim := { program := "ytclcadpmkkeaeaa", sum := "29cb6d6da468e1583bdba67e977c08e21844269740b6114bdb26976791f9f271", func := "muniment/munimentlaw11.DiskSpace", spec := "diskSpace", inPlace := ["internal/bytealg.abigen_runtime_cmpstring", "slices.overlaps[muniment/disk.entry]"], unfollowed := true, recurses := true, apart := false, narrowed := true }
def DiskSpaceUptoSaid : Prop := diskSpaceUptoRow.holds Try.pinned (OpenSpec.upto diskSpaceSpec)

/-- 'munimentlaw11.DiskVoid', WHERE WHAT IT READS IS OF BULK AT MOST 1048576: true; the input reads as it did. -/
def diskVoidUptoRow : OpenClaim := { program := "ytclcadpmkkeaeaa", sum := "29cb6d6da468e1583bdba67e977c08e21844269740b6114bdb26976791f9f271", func := "muniment/munimentlaw11.DiskVoid", spec := "diskVoid", inPlace := ["internal/bytealg.abigen_runtime_cmpstring", "slices.overlaps[muniment/disk.entry]"], unfollowed := true, recurses := true, apart := false, narrowed := true }
def DiskVoidUptoSaid : Prop := diskVoidUptoRow.holds Try.pinned (OpenSpec.upto diskVoidSpec)

end Rows
end Go.Proofs.Ytclcadpmkkeaeaa
