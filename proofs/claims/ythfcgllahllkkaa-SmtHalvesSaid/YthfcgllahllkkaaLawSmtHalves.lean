/- munimentlaw07.SmtHalves: the law, out of the machine over values. A tree's root is that of its halves: of any two keys and any value. -/
import Derived.Test.YthfcgllahllkkaaRows
import Derived.Test.YthfcgllahllkkaaSmtN
import Derived.WalkKit
import Derived.ProofKit
import Derived.OpenShut
import Derived.ShutString
import Derived.ChangeOld
import Derived.Below
import Derived.SizedLaws
set_option linter.unusedSectionVars false
set_option linter.unusedSimpArgs false
set_option linter.unusedVariables false
namespace Go.Proofs.Ythfcgllahllkkaa.smtHalves
open Go.ChangeShapes Go.WideShapes Go.ChangeAt Go.RowKit
theorem own : ownKnob Try.prog.godebug = none := by kernel_rfl
theorem ubool : Try.prog.underlying 4 = some .bool := by kernel_rfl
set_option maxRecDepth 100000 in
theorem lifted (os : Os) (started : os.Started) (H : Type) (enc : TypeId × Value → H) :
    ReturnsInHanded {} Try.checked os 4 .any (Rows.smtHalvesSpec.pre6 enc Try.prog Try.f4 Rows.smtHalvesRow.domain false) (Rows.smtHalvesSpec.post enc Try.prog Try.f4 false true false false) := by
  refine returnsInHanded_of_change_sized (C := Try.checked) own started (by kernel_rfl) Try.func4
    (ChangeSpec.witness6 (enc := enc) (C := Try.checked) false ⟨#[], #[.string ByteArray.empty, .string ByteArray.empty, .string ByteArray.empty], []⟩ 8 (by kernel_rfl) (by kernel_rfl) (by kernel_rfl) (by kernel_rfl)) ?_
  intro W base args ds gs before hval0 hW hcnd hsz0 _
  have hsz : (DataW.weightsEach Try.prog (Try.f4.params.toList ++ Rows.smtHalvesSpec.plain.varTypes Try.prog) (ds ++ gs)).all (· ≤ reachBytes) = true := hsz0
  have hval : ∀ (j : Nat) t v, Try.f4.params[j]? = some t → args[j]? = some v → Value.okWide Try.prog W .any base t v := hval0
  have hW' := hW
  obtain ⟨p, q, hA0, hV, rfl, hfz, hnd⟩ := hW
  have hp6 : Try.f4.params = #[9, 9, 9] := by kernel_rfl
  have hA : DataW.TrodAll enc Try.prog W 0 (fun _ => true) true Try.f4.params.toList args.toList ds p := hA0
  rw [hp6] at hA hval hsz
  obtain ⟨rfl, rfl⟩ := trodVars_none hV
  obtain ⟨d0, d1, d2, rfl⟩ : ∃ d0 d1 d2, ds = [d0, d1, d2] := by
    obtain ⟨v0, vs0, d0, ds0, p0, q0, _, rfl, _, _, r0⟩ := trodAll_cons hA
    obtain ⟨v1, vs1, d1, ds1, p1, q1, _, rfl, _, _, r1⟩ := trodAll_cons r0
    obtain ⟨v2, vs2, d2, ds2, p2, q2, _, rfl, _, _, r2⟩ := trodAll_cons r1
    obtain ⟨_, rfl, _⟩ := trodAll_nil r2
    exact ⟨d0, d1, d2, rfl⟩
  have hw : ∀ n ∈ DataW.weightsEach Try.prog [9, 9, 9] [d0, d1, d2], n ≤ reachBytes := fun n hn => by
    have hvt : Rows.smtHalvesSpec.plain.varTypes Try.prog = [] := by kernel_rfl
    rw [hvt, List.append_nil, List.append_nil] at hsz
    simpa using List.all_eq_true.1 hsz n hn
  have hpl : ∀ t ∈ ([9, 9, 9] : List TypeId), Vm.plainT Try.prog 8 t = true := by
    intro t ht
    simp only [List.mem_cons, List.not_mem_nil, or_false] at ht
    rcases ht with rfl | rfl | rfl <;> kernel_rfl
  have hrd : ∀ t ∈ ([9, 9, 9] : List TypeId), Try.prog.readableRec t = true ∧ t < Try.prog.types.size := by
    intro t ht
    simp only [List.mem_cons, List.not_mem_nil, or_false] at ht
    rcases ht with rfl | rfl | rfl <;> exact ⟨by kernel_rfl, of_decide_eq_true (by kernel_rfl)⟩
  refine (Vm.law_calls Vm.Ythfcgllahllkkaa.laid Vm.Ythfcgllahllkkaa.T2_ok Vm.Ythfcgllahllkkaa.mixed (β := 0) (F := Vm.Ythfcgllahllkkaa.ir4) Try.func4 (by kernel_rfl) (by kernel_rfl) (d := 8) (b := base) (ts := [9, 9, 9]) hpl Vm.Ythfcgllahllkkaa.halves_main (fun j t v h1 h2 => hval j t v (by simpa using h1) h2) hA hw).mono fun e W' ⟨he, bel⟩ => ?_
  subst he
  have hst := Vm.args_stay Vm.Ythfcgllahllkkaa.laid bel (ts := [9, 9, 9]) hrd hA
  exact ⟨_, rfl, _, _, _, [], _, [], hW', trodAll_mk1 (shut_bool ubool _), hst, rfl, bel.frame _, fun h => by cases h⟩
theorem over : Rows.smtHalvesRow.holds Try.pinned (OpenSpec.ofChange Rows.smtHalvesSpec) :=
  OpenClaim.holds_of_wide 4 Try.f4 rfl rfl rfl rfl rfl rfl rfl ⟨rfl, rfl, rfl, rfl, rfl⟩ rfl rfl rfl rfl rfl (by kernel_rfl) Try.func4 (by kernel_rfl)
    (of_decide_eq_true (by kernel_rfl)) (by unfold Func.isWrapper; first | (rw [if_pos (by decide +kernel)]; kernel_rfl) | (rw [if_neg (by decide +kernel)]; exact ⟨rfl, rfl⟩))
    (fun os started H enc _ => lifted os started H enc)
theorem proved : Rows.SmtHalvesSaid := over
#print axioms proved
end Go.Proofs.Ythfcgllahllkkaa.smtHalves
namespace Go.Proofs.Ythfcgllahllkkaa
/-- The row, under a short name, for the claim. -/
theorem smtHalves_holds : Rows.SmtHalvesSaid := smtHalves.proved
end Go.Proofs.Ythfcgllahllkkaa
