/- munimentlaw14.RaftWild: the law, out of the machine over values. Whatever messages come, nothing that is committed goes back, and no call fails. -/
import Derived.Test.YtholgdogohmdbaaRows
import Derived.Test.YtholgdogohmdbaaWdY
import Derived.WalkKit
import Derived.ProofKit
import Derived.OpenShut
import Derived.ShutString
import Derived.ChangeOld
import Derived.Below
import Derived.SizedLaws
set_option linter.unusedSectionVars false
set_option linter.unusedSimpArgs false
set_option linter.unusedVariables false
namespace Go.Proofs.Ytholgdogohmdbaa.raftWild
open Go.ChangeShapes Go.WideShapes Go.ChangeAt Go.RowKit
theorem own : ownKnob Try.prog.godebug = none := by kernel_rfl
theorem ubool : Try.prog.underlying 4 = some .bool := by kernel_rfl
set_option maxRecDepth 100000 in
theorem lifted (os : Os) (started : os.Started) (H : Type) (enc : TypeId × Value → H) :
    ReturnsInHanded {} Try.checked os 3 .any (Rows.raftWildSpec.pre6 enc Try.prog Try.f3 Rows.raftWildRow.domain false) (Rows.raftWildSpec.post enc Try.prog Try.f3 false true false false) := by
  refine returnsInHanded_of_change_sized (C := Try.checked) own started (by kernel_rfl) Try.func3
    (ChangeSpec.witness6 (enc := enc) (C := Try.checked) false ⟨#[], #[.agg #[.int .i64 0, .int .i64 0, .int .i64 0, .int .i64 0, .string ByteArray.empty, .slice none 0 0, .slice none 0 0], .slice none 0 0], []⟩ 8 (by kernel_rfl) (by kernel_rfl) (by kernel_rfl) (by kernel_rfl)) ?_
  intro W base args ds gs before hval0 hW hcnd hsz0 _
  have hsz : (DataW.weightsEach Try.prog (Try.f3.params.toList ++ Rows.raftWildSpec.plain.varTypes Try.prog) (ds ++ gs)).all (· ≤ reachBytes) = true := hsz0
  have hval : ∀ (j : Nat) t v, Try.f3.params[j]? = some t → args[j]? = some v → Value.okWide Try.prog W .any base t v := hval0
  have hW' := hW
  obtain ⟨p, q, hA0, hV, rfl, hfz, hnd⟩ := hW
  have hp6 : Try.f3.params = #[25, 26] := by kernel_rfl
  have hA : DataW.TrodAll enc Try.prog W 0 (fun _ => true) true Try.f3.params.toList args.toList ds p := hA0
  rw [hp6] at hA hval hsz
  obtain ⟨rfl, rfl⟩ := trodVars_none hV
  obtain ⟨d0, d1, rfl⟩ : ∃ d0 d1, ds = [d0, d1] := by
    obtain ⟨v0, vs0, d0, ds0, p0, q0, _, rfl, _, _, r0⟩ := trodAll_cons hA
    obtain ⟨v1, vs1, d1, ds1, p1, q1, _, rfl, _, _, r1⟩ := trodAll_cons r0
    obtain ⟨_, rfl, _⟩ := trodAll_nil r1
    exact ⟨d0, d1, rfl⟩
  have hw : ∀ n ∈ DataW.weightsEach Try.prog [25, 26] [d0, d1], n ≤ reachBytes := fun n hn => by
    have hvt : Rows.raftWildSpec.plain.varTypes Try.prog = [] := by kernel_rfl
    rw [hvt, List.append_nil, List.append_nil] at hsz
    simpa using List.all_eq_true.1 hsz n hn
  have hpl : ∀ t ∈ ([25, 26] : List TypeId), Vm.plainT Try.prog 8 t = true := by
    intro t ht
    simp only [List.mem_cons, List.not_mem_nil, or_false] at ht
    rcases ht with rfl | rfl <;> kernel_rfl
  have hrd : ∀ t ∈ ([25, 26] : List TypeId), Try.prog.readableRec t = true ∧ t < Try.prog.types.size := by
    intro t ht
    simp only [List.mem_cons, List.not_mem_nil, or_false] at ht
    rcases ht with rfl | rfl <;> exact ⟨by kernel_rfl, of_decide_eq_true (by kernel_rfl)⟩
  refine (Vm.law_calls Vm.YtholgdogohmdbaaW.laid Vm.YtholgdogohmdbaaW.T_ok Vm.YtholgdogohmdbaaW.mixed (β := 0) (F := Vm.YtholgdogohmdbaaW.ir3) Try.func3 (by kernel_rfl) (by kernel_rfl) (d := 8) (b := base) (ts := [25, 26]) hpl Vm.YtholgdogohmdbaaW.raftWild_main (fun j t v h1 h2 => hval j t v (by simpa using h1) h2) hA hw).mono fun e W' ⟨he, bel⟩ => ?_
  subst he
  have hst := Vm.args_stay Vm.YtholgdogohmdbaaW.laid bel (ts := [25, 26]) hrd hA
  exact ⟨_, rfl, _, _, _, [], _, [], hW', trodAll_mk1 (shut_bool ubool _), hst, rfl, bel.frame _, fun h => by cases h⟩
theorem over : Rows.raftWildRow.holds Try.pinned (OpenSpec.ofChange Rows.raftWildSpec) :=
  OpenClaim.holds_of_wide 3 Try.f3 rfl rfl rfl rfl rfl rfl rfl ⟨rfl, rfl, rfl, rfl, rfl⟩ rfl rfl rfl rfl rfl (by kernel_rfl) Try.func3 (by kernel_rfl)
    (of_decide_eq_true (by kernel_rfl)) (by unfold Func.isWrapper; first | (rw [if_pos (by decide +kernel)]; kernel_rfl) | (rw [if_neg (by decide +kernel)]; exact ⟨rfl, rfl⟩))
    (fun os started H enc _ => lifted os started H enc)
theorem proved : Rows.RaftWildSaid := over
#print axioms proved
end Go.Proofs.Ytholgdogohmdbaa.raftWild
namespace Go.Proofs.Ytholgdogohmdbaa
/-- The row, under a short name, for the claim. -/
theorem raftWild_holds : Rows.RaftWildSaid := raftWild.proved
end Go.Proofs.Ytholgdogohmdbaa
