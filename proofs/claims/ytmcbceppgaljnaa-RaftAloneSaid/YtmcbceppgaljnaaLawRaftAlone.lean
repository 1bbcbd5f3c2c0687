/- munimentlaw14.RaftAlone: the law, out of the machine over values. A replica alone commits what it is proposed at once, and has it behind a loss of power, when it leads again. -/
import Derived.Test.YtmcbceppgaljnaaRows
import Derived.Test.YtmcbceppgaljnaaRwM
import Derived.WalkKit
import Derived.ProofKit
import Derived.OpenShut
import Derived.ShutString
import Derived.ChangeOld
import Derived.Below
import Derived.SizedLaws
set_option linter.unusedSectionVars false
set_option linter.unusedSimpArgs false
set_option linter.unusedVariables false
namespace Go.Proofs.Ytmcbceppgaljnaa.raftAlone
open Go.ChangeShapes Go.WideShapes Go.ChangeAt Go.RowKit
theorem own : ownKnob Try.prog.godebug = none := by kernel_rfl
theorem ubool : Try.prog.underlying 4 = some .bool := by kernel_rfl
set_option maxRecDepth 100000 in
theorem lifted (os : Os) (started : os.Started) (H : Type) (enc : TypeId × Value → H) :
    ReturnsInHanded {} Try.checked os 3 .any (Rows.raftAloneSpec.pre6 enc Try.prog Try.f3 Rows.raftAloneRow.domain false) (Rows.raftAloneSpec.post enc Try.prog Try.f3 false true false false) := by
  refine returnsInHanded_of_change_sized (C := Try.checked) own started (by kernel_rfl) Try.func3
    (ChangeSpec.witness6 (enc := enc) (C := Try.checked) false ⟨#[], #[.slice none 0 0], []⟩ 8 (by kernel_rfl) (by kernel_rfl) (by kernel_rfl) (by kernel_rfl)) ?_
  intro W base args ds gs before hval0 hW hcnd hsz0 _
  have hsz : (DataW.weightsEach Try.prog (Try.f3.params.toList ++ Rows.raftAloneSpec.plain.varTypes Try.prog) (ds ++ gs)).all (· ≤ reachBytes) = true := hsz0
  have hval : ∀ (j : Nat) t v, Try.f3.params[j]? = some t → args[j]? = some v → Value.okWide Try.prog W .any base t v := hval0
  have hW' := hW
  obtain ⟨p, q, hA0, hV, rfl, hfz, hnd⟩ := hW
  have hp6 : Try.f3.params = #[22] := by kernel_rfl
  have hA : DataW.TrodAll enc Try.prog W 0 (fun _ => true) true Try.f3.params.toList args.toList ds p := hA0
  rw [hp6] at hA hval hsz
  obtain ⟨rfl, rfl⟩ := trodVars_none hV
  obtain ⟨d0, rfl⟩ : ∃ d0, ds = [d0] := by
    obtain ⟨v0, vs0, d0, ds0, p0, q0, _, rfl, _, _, r0⟩ := trodAll_cons hA
    obtain ⟨_, rfl, _⟩ := trodAll_nil r0
    exact ⟨d0, rfl⟩
  have hw : ∀ n ∈ DataW.weightsEach Try.prog [22] [d0], n ≤ reachBytes := fun n hn => by
    have hvt : Rows.raftAloneSpec.plain.varTypes Try.prog = [] := by kernel_rfl
    rw [hvt, List.append_nil, List.append_nil] at hsz
    simpa using List.all_eq_true.1 hsz n hn
  have hpl : ∀ t ∈ ([22] : List TypeId), Vm.plainT Try.prog 8 t = true := by
    intro t ht
    simp only [List.mem_cons, List.not_mem_nil, or_false] at ht
    subst ht; kernel_rfl
  have hrd : ∀ t ∈ ([22] : List TypeId), Try.prog.readableRec t = true ∧ t < Try.prog.types.size := by
    intro t ht
    simp only [List.mem_cons, List.not_mem_nil, or_false] at ht
    subst ht; exact ⟨by kernel_rfl, of_decide_eq_true (by kernel_rfl)⟩
  refine (Vm.law_calls Vm.Ytmcbceppgaljnaa.laid Vm.Ytmcbceppgaljnaa.T_ok Vm.Ytmcbceppgaljnaa.mixed (β := 0) (F := Vm.Ytmcbceppgaljnaa.ir3) Try.func3 (by kernel_rfl) (by kernel_rfl) (d := 8) (b := base) (ts := [22]) hpl Vm.Ytmcbceppgaljnaa.raftAlone_main (fun j t v h1 h2 => hval j t v (by simpa using h1) h2) hA hw).mono fun e W' ⟨he, bel⟩ => ?_
  subst he
  have hst := Vm.args_stay Vm.Ytmcbceppgaljnaa.laid bel (ts := [22]) hrd hA
  exact ⟨_, rfl, _, _, _, [], _, [], hW', trodAll_mk1 (shut_bool ubool _), hst, rfl, bel.frame _, fun h => by cases h⟩
theorem over : Rows.raftAloneRow.holds Try.pinned (OpenSpec.ofChange Rows.raftAloneSpec) :=
  OpenClaim.holds_of_wide 3 Try.f3 rfl rfl rfl rfl rfl rfl rfl ⟨rfl, rfl, rfl, rfl, rfl⟩ rfl rfl rfl rfl rfl (by kernel_rfl) Try.func3 (by kernel_rfl)
    (of_decide_eq_true (by kernel_rfl)) (by unfold Func.isWrapper; first | (rw [if_pos (by decide +kernel)]; kernel_rfl) | (rw [if_neg (by decide +kernel)]; exact ⟨rfl, rfl⟩))
    (fun os started H enc _ => lifted os started H enc)
theorem proved : Rows.RaftAloneSaid := over
#print axioms proved
end Go.Proofs.Ytmcbceppgaljnaa.raftAlone
namespace Go.Proofs.Ytmcbceppgaljnaa
/-- The row, under a short name, for the claim. -/
theorem raftAlone_holds : Rows.RaftAloneSaid := raftAlone.proved
end Go.Proofs.Ytmcbceppgaljnaa
