/- (seval) The disk, in the machine: changes, told by the entries. -/
import Derived.Test.YtclcadpmkkeaeaaDkF
set_option linter.unusedSectionVars false
set_option linter.unusedSimpArgs false
set_option linter.unusedVariables false
set_option maxHeartbeats 2000000
set_option maxRecDepth 10000
namespace Go.Vm.Ytclcadpmkkeaeaa
open Go.Proofs
/-- What a change tells, and what comes back. -/
def stepV (lv : V) (l : List DE) (lim : Int) (ch : Nat) (c : Ch) : V × List V :=
  if codeL nameB l lim c = 0 then (.int .i64 0, [.opt (dkv (.osl 6 (chgL l c).length (rows DE.v (chgL l c))) lim (ch + 1) false)])
  else (.int .i64 (codeL nameB l lim c), [.opt (dkv lv lim ch false)])
/-- The two forms. -/
def Frm (lv : V) (l : List DE) (k : SK) : Prop := lv = .osl 6 l.length (rows DE.v l) ∧ k = .ro ∨ lv = .sl .nil 0 [] ∧ l = [] ∧ k = .nil
theorem OwL.frm {lv : V} {l : List DE} (h : OwL lv l) : ∃ k, Frm lv l k := by
  rcases h with h | ⟨h, h2⟩
  · exact ⟨.ro, .inl ⟨h, rfl⟩⟩
  · exact ⟨.nil, .inr ⟨h, h2, rfl⟩⟩
theorem Open_err (k : SK) (l : List DE) (lim : Int) (ch : Nat) (x : Tx) (must : Bool) (hs : Srt DE.n l) (hl : l.length ≤ 10000) (hx : x.length ≤ 140737488355328) (hc : opC l x must ≠ 0) : Gf fns 36 [.pt (dkv (.sl k l.length (rows DE.v l)) lim ch false) 0, .str x, .bool must] = some (.tup [.agg [.bool false, .str []], .int .i64 (opC l x must)], []) := by
  rw [Open_ok k l lim ch x must hs hl hx, if_neg hc]
  simp [hc]
theorem Open_fine (k : SK) (l : List DE) (lim : Int) (ch : Nat) (x : Tx) (must : Bool) (hs : Srt DE.n l) (hl : l.length ≤ 10000) (hx : x.length ≤ 140737488355328) (hc : opC l x must = 0) : Gf fns 36 [.pt (dkv (.sl k l.length (rows DE.v l)) lim ch false) 0, .str x, .bool must] = some (.tup [.agg [.bool (faceA l x), .str (faceS l x)], .int .i64 0], []) := by
  rw [Open_ok k l lim ch x must hs hl hx, if_pos hc]
  simp [hc]
theorem faceS_le (l : List DE) (x : Tx) : (faceS l x).length ≤ usedL l := by
  unfold faceS fnd usedL
  induction l with
  | nil => simp
  | cons e l ih =>
    rw [List.find?_cons]
    split
    · simp
    · rw [List.map_cons, List.sum_cons]; omega
end Go.Vm.Ytclcadpmkkeaeaa
