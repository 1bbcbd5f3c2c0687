/-
  No cell of these rows narrows 'for every input' (looked for: loops, veiled, ifaces, maps, wideKeys, modest, calm, conditions, laid).
  DERIVED. THE GIVEN ROWS OF THIS SEAT. 10 by the template 'for every input the law returns true; each argument reads behind the call as it read before'; 0 by the template 'total and deterministic' (their statements: YtjakgbhlnndhiaaTotals.lean).
  GIVEN WITH THE SEED: the statements are not yours to turn. If you find one false, say at which input.
  Laid BY PROGRAM, IN A SANDBOX (cutbox-rows.mjs): the forced cells as the released guide's own fill.sh prints them over the translation 11125fc2394de40b… (all of the seat's roots in one cut). By AI agents, Wed Nov 11 2026. No macro, syntax, notation, axiom, sorry.
-/
import Derived.Test.YtjakgbhlnndhiaaChecked
import GoSem.Claim
import GoSem.ClaimJoined
import GoSem.ClaimMapViews
import Derived.JoinedTies
import Derived.KernelRfl
namespace Go.Proofs.Ytjakgbhlnndhiaa
/- THE CELL 'sum', in the pinned program and in every row, IS THE sha256 OF THE DUMP (.gsa) THAT YtjakgbhlnndhiaaProg.lean LOADS. Nothing in Lean hashes anything: it is a label: what it is worth is what the hold of that sum in a sandbox is worth. -/
noncomputable def Try.pinned : Pinned := { name := "ytjakgbhlnndhiaa", sum := "11125fc2394de40b59570f187f14d17b9c505431a38448dd925e926a1e9a5692", checked := Try.checked }
namespace Rows
def none {H : Type} : Left H := { results := [], args := [] }

/-- 'munimentlaw14.RaftQuiet': WHATEVER THE INPUT: true; the input reads as it did. -/
def raftQuietSpec : ChangeSpec := { name := "raftQuiet", fn := fun _ => fun
  | [d1, d2] => { results := [.lit (.bool true)], args := [d1, d2] }
  | _ => none }
def raftQuietRow : OpenClaim := { program := "ytjakgbhlnndhiaa", sum := "11125fc2394de40b59570f187f14d17b9c505431a38448dd925e926a1e9a5692", func := "muniment/munimentlaw14.RaftQuiet", spec := "raftQuiet", unfollowed := true, recurses := true, apart := false }
def RaftQuietSaid : Prop := raftQuietRow.holds Try.pinned (OpenSpec.ofChange raftQuietSpec)

/-- ITS FALSE NEIGHBOUR: 'it returns false'. Refute it at one input. -/
def raftQuietWrong : ChangeSpec := { name := "raftQuiet", fn := fun _ => fun
  | [d1, d2] => { results := [.lit (.bool false)], args := [d1, d2] }
  | _ => none }
def RaftQuietWrongFalsely : Prop := raftQuietRow.holds Try.pinned (OpenSpec.ofChange raftQuietWrong)

/-- 'munimentlaw14.RaftVotes': WHATEVER THE INPUT: true; the input reads as it did. -/
def raftVotesSpec : ChangeSpec := { name := "raftVotes", fn := fun _ => fun
  | [d1, d2] => { results := [.lit (.bool true)], args := [d1, d2] }
  | _ => none }
def raftVotesRow : OpenClaim := { program := "ytjakgbhlnndhiaa", sum := "11125fc2394de40b59570f187f14d17b9c505431a38448dd925e926a1e9a5692", func := "muniment/munimentlaw14.RaftVotes", spec := "raftVotes", unfollowed := true, recurses := true, apart := false }
def RaftVotesSaid : Prop := raftVotesRow.holds Try.pinned (OpenSpec.ofChange raftVotesSpec)

/-- ITS FALSE NEIGHBOUR: 'it returns false'. Refute it at one input. -/
def raftVotesWrong : ChangeSpec := { name := "raftVotes", fn := fun _ => fun
  | [d1, d2] => { results := [.lit (.bool false)], args := [d1, d2] }
  | _ => none }
def RaftVotesWrongFalsely : Prop := raftVotesRow.holds Try.pinned (OpenSpec.ofChange raftVotesWrong)

/-- 'munimentlaw14.RaftBytes': WHATEVER THE INPUT: true; the input reads as it did. -/
def raftBytesSpec : ChangeSpec := { name := "raftBytes", fn := fun _ => fun
  | [d1, d2] => { results := [.lit (.bool true)], args := [d1, d2] }
  | _ => none }
def raftBytesRow : OpenClaim := { program := "ytjakgbhlnndhiaa", sum := "11125fc2394de40b59570f187f14d17b9c505431a38448dd925e926a1e9a5692", func := "muniment/munimentlaw14.RaftBytes", spec := "raftBytes", unfollowed := true, recurses := true, apart := false }
def RaftBytesSaid : Prop := raftBytesRow.holds Try.pinned (OpenSpec.ofChange raftBytesSpec)

/-- ITS FALSE NEIGHBOUR: 'it returns false'. Refute it at one input. -/
def raftBytesWrong : ChangeSpec := { name := "raftBytes", fn := fun _ => fun
  | [d1, d2] => { results := [.lit (.bool false)], args := [d1, d2] }
  | _ => none }
def RaftBytesWrongFalsely : Prop := raftBytesRow.holds Try.pinned (OpenSpec.ofChange raftBytesWrong)

/-- 'munimentlaw14.RaftWild': WHATEVER THE INPUT: true; the input reads as it did. -/
def raftWildSpec : ChangeSpec := { name := "raftWild", fn := fun _ => fun
  | [d1, d2] => { results := [.lit (.bool true)], args := [d1, d2] }
  | _ => none }
def raftWildRow : OpenClaim := { program := "ytjakgbhlnndhiaa", sum := "11125fc2394de40b59570f187f14d17b9c505431a38448dd925e926a1e9a5692", func := "muniment/munimentlaw14.RaftWild", spec := "raftWild", unfollowed := true, recurses := true, apart := false }
def RaftWildSaid : Prop := raftWildRow.holds Try.pinned (OpenSpec.ofChange raftWildSpec)

/-- ITS FALSE NEIGHBOUR: 'it returns false'. Refute it at one input. -/
def raftWildWrong : ChangeSpec := { name := "raftWild", fn := fun _ => fun
  | [d1, d2] => { results := [.lit (.bool false)], args := [d1, d2] }
  | _ => none }
def RaftWildWrongFalsely : Prop := raftWildRow.holds Try.pinned (OpenSpec.ofChange raftWildWrong)

/-- 'munimentlaw14.RaftSnapshots': WHATEVER THE INPUT: true; the input reads as it did. -/
def raftSnapshotsSpec : ChangeSpec := { name := "raftSnapshots", fn := fun _ => fun
  | [d1, d2, d3] => { results := [.lit (.bool true)], args := [d1, d2, d3] }
  | _ => none }
def raftSnapshotsRow : OpenClaim := { program := "ytjakgbhlnndhiaa", sum := "11125fc2394de40b59570f187f14d17b9c505431a38448dd925e926a1e9a5692", func := "muniment/munimentlaw14.RaftSnapshots", spec := "raftSnapshots", unfollowed := true, recurses := true, apart := false }
def RaftSnapshotsSaid : Prop := raftSnapshotsRow.holds Try.pinned (OpenSpec.ofChange raftSnapshotsSpec)

/-- ITS FALSE NEIGHBOUR: 'it returns false'. Refute it at one input. -/
def raftSnapshotsWrong : ChangeSpec := { name := "raftSnapshots", fn := fun _ => fun
  | [d1, d2, d3] => { results := [.lit (.bool false)], args := [d1, d2, d3] }
  | _ => none }
def RaftSnapshotsWrongFalsely : Prop := raftSnapshotsRow.holds Try.pinned (OpenSpec.ofChange raftSnapshotsWrong)

/-- 'munimentlaw14.RaftNil': WHATEVER THE INPUT: true; the input reads as it did. -/
def raftNilSpec : ChangeSpec := { name := "raftNil", fn := fun _ => fun
  | [d1, d2] => { results := [.lit (.bool true)], args := [d1, d2] }
  | _ => none }
def raftNilRow : OpenClaim := { program := "ytjakgbhlnndhiaa", sum := "11125fc2394de40b59570f187f14d17b9c505431a38448dd925e926a1e9a5692", func := "muniment/munimentlaw14.RaftNil", spec := "raftNil", unfollowed := true, recurses := true, apart := false }
def RaftNilSaid : Prop := raftNilRow.holds Try.pinned (OpenSpec.ofChange raftNilSpec)

/-- ITS FALSE NEIGHBOUR: 'it returns false'. Refute it at one input. -/
def raftNilWrong : ChangeSpec := { name := "raftNil", fn := fun _ => fun
  | [d1, d2] => { results := [.lit (.bool false)], args := [d1, d2] }
  | _ => none }
def RaftNilWrongFalsely : Prop := raftNilRow.holds Try.pinned (OpenSpec.ofChange raftNilWrong)

/-- 'munimentlaw14.RaftAlone': WHATEVER THE INPUT: true; the input reads as it did. -/
def raftAloneSpec : ChangeSpec := { name := "raftAlone", fn := fun _ => fun
  | [d] => { results := [.lit (.bool true)], args := [d] }
  | _ => none }
def raftAloneRow : OpenClaim := { program := "ytjakgbhlnndhiaa", sum := "11125fc2394de40b59570f187f14d17b9c505431a38448dd925e926a1e9a5692", func := "muniment/munimentlaw14.RaftAlone", spec := "raftAlone", unfollowed := true, recurses := true, apart := false }
def RaftAloneSaid : Prop := raftAloneRow.holds Try.pinned (OpenSpec.ofChange raftAloneSpec)

/-- ITS FALSE NEIGHBOUR: 'it returns false'. Refute it at one input. -/
def raftAloneWrong : ChangeSpec := { name := "raftAlone", fn := fun _ => fun
  | [d] => { results := [.lit (.bool false)], args := [d] }
  | _ => none }
def RaftAloneWrongFalsely : Prop := raftAloneRow.holds Try.pinned (OpenSpec.ofChange raftAloneWrong)

/-- 'munimentlaw14.RaftComes': WHATEVER THE INPUT: true; the input reads as it did. -/
def raftComesSpec : ChangeSpec := { name := "raftComes", fn := fun _ => fun
  | [d1, d2] => { results := [.lit (.bool true)], args := [d1, d2] }
  | _ => none }
def raftComesRow : OpenClaim := { program := "ytjakgbhlnndhiaa", sum := "11125fc2394de40b59570f187f14d17b9c505431a38448dd925e926a1e9a5692", func := "muniment/munimentlaw14.RaftComes", spec := "raftComes", unfollowed := true, recurses := true, apart := false }
def RaftComesSaid : Prop := raftComesRow.holds Try.pinned (OpenSpec.ofChange raftComesSpec)

/-- ITS FALSE NEIGHBOUR: 'it returns false'. Refute it at one input. -/
def raftComesWrong : ChangeSpec := { name := "raftComes", fn := fun _ => fun
  | [d1, d2] => { results := [.lit (.bool false)], args := [d1, d2] }
  | _ => none }
def RaftComesWrongFalsely : Prop := raftComesRow.holds Try.pinned (OpenSpec.ofChange raftComesWrong)

/-- 'munimentlaw14.RaftSafe': WHATEVER THE INPUT: true; the input reads as it did. -/
def raftSafeSpec : ChangeSpec := { name := "raftSafe", fn := fun _ => fun
  | [d1, d2, d3] => { results := [.lit (.bool true)], args := [d1, d2, d3] }
  | _ => none }
def raftSafeRow : OpenClaim := { program := "ytjakgbhlnndhiaa", sum := "11125fc2394de40b59570f187f14d17b9c505431a38448dd925e926a1e9a5692", func := "muniment/munimentlaw14.RaftSafe", spec := "raftSafe", unfollowed := true, recurses := true, apart := false }
def RaftSafeSaid : Prop := raftSafeRow.holds Try.pinned (OpenSpec.ofChange raftSafeSpec)

/-- ITS FALSE NEIGHBOUR: 'it returns false'. Refute it at one input. -/
def raftSafeWrong : ChangeSpec := { name := "raftSafe", fn := fun _ => fun
  | [d1, d2, d3] => { results := [.lit (.bool false)], args := [d1, d2, d3] }
  | _ => none }
def RaftSafeWrongFalsely : Prop := raftSafeRow.holds Try.pinned (OpenSpec.ofChange raftSafeWrong)

/-- 'munimentlaw14.RaftGoes': WHATEVER THE INPUT: true; the input reads as it did. -/
def raftGoesSpec : ChangeSpec := { name := "raftGoes", fn := fun _ => fun
  | [d1, d2, d3] => { results := [.lit (.bool true)], args := [d1, d2, d3] }
  | _ => none }
def raftGoesRow : OpenClaim := { program := "ytjakgbhlnndhiaa", sum := "11125fc2394de40b59570f187f14d17b9c505431a38448dd925e926a1e9a5692", func := "muniment/munimentlaw14.RaftGoes", spec := "raftGoes", unfollowed := true, recurses := true, apart := false }
def RaftGoesSaid : Prop := raftGoesRow.holds Try.pinned (OpenSpec.ofChange raftGoesSpec)

/-- ITS FALSE NEIGHBOUR: 'it returns false'. Refute it at one input. -/
def raftGoesWrong : ChangeSpec := { name := "raftGoes", fn := fun _ => fun
  | [d1, d2, d3] => { results := [.lit (.bool false)], args := [d1, d2, d3] }
  | _ => none }
def RaftGoesWrongFalsely : Prop := raftGoesRow.holds Try.pinned (OpenSpec.ofChange raftGoesWrong)

/- THE SECOND FORM. 'bulk': how many values and letters a reading holds, each counted each time it is reached (what is shared counts as often as it is met; a slice's spare places count too). A statement '..UptoSaid' is the law's where the arguments, and the package variables that the reading takes, are together of bulk at most 1048576: NARROWER than '..Said'. Prove '..Said' where nothing that the law and all that it calls make is longer than what came in: it says more and counts as full. Else prove '..UptoSaid'. A law counts once. -/
mutual
def uptoBulk {H : Type} : DataW H → Nat
  | .lit (.string bytes) => bytes.length + 1
  | .lit _ => 1
  | .nil => 1
  | .ptr d => uptoBulk d + 1
  | .slice elems spare => uptoBulkAll elems + uptoBulkAll spare + 1
  | .agg parts => uptoBulkAll parts + 1
  | .iface _ d => uptoBulk d + 1
  | .map entries => uptoBulkEntries entries + 1
  | .held _ => 1
def uptoBulkAll {H : Type} : List (DataW H) → Nat
  | [] => 0
  | d :: r => uptoBulk d + uptoBulkAll r
def uptoBulkEntries {H : Type} : List (Lit × DataW H) → Nat
  | [] => 0
  | x :: r => uptoBulkEntry x + uptoBulkEntries r
def uptoBulkEntry {H : Type} : Lit × DataW H → Nat
  | (.string bytes, d) => bytes.length + uptoBulk d + 1
  | (_, d) => uptoBulk d + 1
 end
def uptoSmall : (H : Type) → List (DataW H) → Bool := fun _ ds => decide (uptoBulkAll ds ≤ 1048576)
def OpenSpec.upto (s : _root_.Go.ChangeSpec) : _root_.Go.OpenSpec := { _root_.Go.OpenSpec.ofChange s with cond := some uptoSmall }

/-- 'munimentlaw14.RaftQuiet', WHERE WHAT IT READS IS OF BULK AT MOST 1048576: true; the input reads as it did. -/
def raftQuietUptoRow : OpenClaim := { program := "ytjakgbhlnndhiaa", sum := "11125fc2394de40b59570f187f14d17b9c505431a38448dd925e926a1e9a5692", func := "muniment/munimentlaw14.RaftQuiet", spec := "raftQuiet", unfollowed := true, recurses := true, apart := false, narrowed := true }
def RaftQuietUptoSaid : Prop := raftQuietUptoRow.holds Try.pinned (OpenSpec.upto raftQuietSpec)

/-- 'munimentlaw14.RaftVotes', WHERE WHAT IT READS IS OF BULK AT MOST 1048576: true; the input reads as it did. -/
def raftVotesUptoRow : OpenClaim := { program := "ytjakgbhlnndhiaa", sum := "11125fc2394de40b59570f187f14d17b9c505431a38448dd925e926a1e9a5692", func := "muniment/munimentlaw14.RaftVotes", spec := "raftVotes", unfollowed := true, recurses := true, apart := false, narrowed := true }
def RaftVotesUptoSaid : Prop := raftVotesUptoRow.holds Try.pinned (OpenSpec.upto raftVotesSpec)

/-- 'munimentlaw14.RaftBytes', WHERE WHAT IT READS IS OF BULK AT MOST 1048576: true; the input reads as it did. -/
def raftBytesUptoRow : OpenClaim := { program := "ytjakgbhlnndhiaa", sum := "11125fc2394de40b59570f187f14d17b9c505431a38448dd925e926a1e9a5692", func := "muniment/munimentlaw14.RaftBytes", spec := "raftBytes", unfollowed := true, recurses := true, apart := false, narrowed := true }
def RaftBytesUptoSaid : Prop := raftBytesUptoRow.holds Try.pinned (OpenSpec.upto raftBytesSpec)

/-- 'munimentlaw14.RaftWild', WHERE WHAT IT READS IS OF BULK AT MOST 1048576: true; the input reads as it did. -/
def raftWildUptoRow : OpenClaim := { program := "ytjakgbhlnndhiaa", sum := "11125fc2394de40b59570f187f14d17b9c505431a38448dd925e926a1e9a5692", func := "muniment/munimentlaw14.RaftWild", spec := "raftWild", unfollowed := true, recurses := true, apart := false, narrowed := true }
def RaftWildUptoSaid : Prop := raftWildUptoRow.holds Try.pinned (OpenSpec.upto raftWildSpec)

/-- 'munimentlaw14.RaftSnapshots', WHERE WHAT IT READS IS OF BULK AT MOST 1048576: true; the input reads as it did. -/
def raftSnapshotsUptoRow : OpenClaim := { program := "ytjakgbhlnndhiaa", sum := "11125fc2394de40b59570f187f14d17b9c505431a38448dd925e926a1e9a5692", func := "muniment/munimentlaw14.RaftSnapshots", spec := "raftSnapshots", unfollowed := true, recurses := true, apart := false, narrowed := true }
def RaftSnapshotsUptoSaid : Prop := raftSnapshotsUptoRow.holds Try.pinned (OpenSpec.upto raftSnapshotsSpec)

/-- 'munimentlaw14.RaftNil', WHERE WHAT IT READS IS OF BULK AT MOST 1048576: true; the input reads as it did. -/
def raftNilUptoRow : OpenClaim := { program := "ytjakgbhlnndhiaa", sum := "11125fc2394de40b59570f187f14d17b9c505431a38448dd925e926a1e9a5692", func := "muniment/munimentlaw14.RaftNil", spec := "raftNil", unfollowed := true, recurses := true, apart := false, narrowed := true }
def RaftNilUptoSaid : Prop := raftNilUptoRow.holds Try.pinned (OpenSpec.upto raftNilSpec)

/-- 'munimentlaw14.RaftAlone', WHERE WHAT IT READS IS OF BULK AT MOST 1048576: true; the input reads as it did. -/
def raftAloneUptoRow : OpenClaim := { program := "ytjakgbhlnndhiaa", sum := "11125fc2394de40b59570f187f14d17b9c505431a38448dd925e926a1e9a5692", func := "muniment/munimentlaw14.RaftAlone", spec := "raftAlone", unfollowed := true, recurses := true, apart := false, narrowed := true }
def RaftAloneUptoSaid : Prop := raftAloneUptoRow.holds Try.pinned (OpenSpec.upto raftAloneSpec)

/-- 'munimentlaw14.RaftComes', WHERE WHAT IT READS IS OF BULK AT MOST 1048576: true; the input reads as it did. -/
def raftComesUptoRow : OpenClaim := { program := "ytjakgbhlnndhiaa", sum := "11125fc2394de40b59570f187f14d17b9c505431a38448dd925e926a1e9a5692", func := "muniment/munimentlaw14.RaftComes", spec := "raftComes", unfollowed := true, recurses := true, apart := false, narrowed := true }
def RaftComesUptoSaid : Prop := raftComesUptoRow.holds Try.pinned (OpenSpec.upto raftComesSpec)

/-- 'munimentlaw14.RaftSafe', WHERE WHAT IT READS IS OF BULK AT MOST 1048576: true; the input reads as it did. -/
def raftSafeUptoRow : OpenClaim := { program := "ytjakgbhlnndhiaa", sum := "11125fc2394de40b59570f187f14d17b9c505431a38448dd925e926a1e9a5692", func := "muniment/munimentlaw14.RaftSafe", spec := "raftSafe", unfollowed := true, recurses := true, apart := false, narrowed := true }
def RaftSafeUptoSaid : Prop := raftSafeUptoRow.holds Try.pinned (OpenSpec.upto raftSafeSpec)

/-- 'munimentlaw14.RaftGoes', WHERE WHAT IT READS IS OF BULK AT MOST 1048576: true; the input reads as it did. -/
def raftGoesUptoRow : OpenClaim := { program := "ytjakgbhlnndhiaa", sum := "11125fc2394de40b59570f187f14d17b9c505431a38448dd925e926a1e9a5692", func := "muniment/munimentlaw14.RaftGoes", spec := "raftGoes", unfollowed := true, recurses := true, apart := false, narrowed := true }
def RaftGoesUptoSaid : Prop := raftGoesUptoRow.holds Try.pinned (OpenSpec.upto raftGoesSpec)

end Rows
end Go.Proofs.Ytjakgbhlnndhiaa
