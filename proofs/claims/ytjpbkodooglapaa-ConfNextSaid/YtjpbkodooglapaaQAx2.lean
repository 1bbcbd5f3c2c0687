-- Written by a program of this session (wip/tools/ownprint.py) for this claim.
import Derived.Test.YtjpbkodooglapaaQAx0
import Derived.Test.YtjpbkodooglapaaQAx1
namespace Go.Proofs.Ytjpbkodooglapaa.QA
open Go.RowKit Go.Proofs.YtjpbkodooglapaaW.PrintWords Go.Proofs.YtjpbkodooglapaaW.PrintLast Go.Proofs.YtjpbkodooglapaaW.PrintMore
attribute [local go_sem] max2_int min2_int max_two min_two max_three min_three max_four min_four   -- for this text's walks alone
set_option linter.unusedVariables false
set_option linter.unusedSimpArgs false

/-! ### munimentlaw13_bits: function 11 -/
def munimentlaw13_bits.f (k : Nat) (a0 : Int) : Option (Int) := (munimentlaw13_list.f k a0).bind fun t107 => (some (t107.length : Int))
theorem munimentlaw13_bits.mono : ∀ a0 k, LeO (munimentlaw13_bits.f k a0) (munimentlaw13_bits.f (k + 1) a0) := by
  intro a0 k
  unfold munimentlaw13_bits.f
  repeat' first
      | (with_reducible exact munimentlaw13_list.mono _ _)
      | (with_reducible exact LeO.refl _)
      | (with_reducible exact LeO.none _)
      | (with_reducible refine LeO.ite ?_ ?_)
      | (with_reducible refine LeO.bind ?_ (fun _ => ?_))
      | exact munimentlaw13_list.mono _ _
      | exact LeO.none _
      | refine LeO.ite ?_ ?_
      | refine LeO.bind ?_ (fun _ => ?_)
set_option maxHeartbeats 8000000 in
set_option maxRecDepth 100000 in
theorem munimentlaw13_bits.calls (k : Nat) (a0 : Int) (r : Int) (w : World) (h : munimentlaw13_bits.f k a0 = some r) :
    Calls Try.prog 11 #[.int .i64 a0] w fun e w' => e = .returned (.int .i64 r) ∧ Below w.heap.size w w' := by
  have HB := Aside0.mk (Below.refl w.heap.size w)
  have H : ((munimentlaw13_list.f k a0).bind fun t107 => (some (t107.length : Int))) = some r := h
  clear h
  replace H := Option.bind_eq_some_iff.mp H
  obtain ⟨t107, A20, H⟩ := H
  replace H : (some (t107.length : Int)) = some r := H
  have A2 := Aside0.mk A20
  clear A20
  obtain rfl := Option.some.inj H
  go_enter Try.func11, Try.ntmps11
  go_wp2_with (first | ((with_reducible refine gate_callee (f := 14) rfl ?_); refine goesL_ (some 4) rfl rfl Try.func14 (by kernel_rfl) rfl #[.int .i64 a0] rfl (by (try simp only [List.map_toArray, List.map_cons, List.map_nil]); first | done | rfl | (simp [Act.eval, wrap64]; done) | (simp only [List.length_drop, List.length_take]; rfl)) ?_; (with_reducible refine (munimentlaw13_list.calls k a0 t107 _ A2.out).mono ?_); rintro e w3 ⟨v108, rfl, ho0, hb⟩; refine ⟨_, rfl, ?_⟩; have n0_ := Aside0.mk (Kd.R_lower ho0 (below_size (by repeat (first | (with_reducible first | exact HB.out | apply below_alloc | apply pw_below_drewN | apply below_drew1) | exact HB.out)))); have n1_ := Aside0.mk (below_step (by repeat (first | (with_reducible first | exact HB.out | apply below_alloc | apply pw_below_drewN | apply below_drew1) | exact HB.out)) hb); clear HB; have HO109 := n0_; have HB := n1_; clear n0_ n1_; (try clear A2); (try clear hb); (try clear hb2); (try clear hk); (try clear hi); (try clear ho0); obtain ⟨Ao4, co4, eo4⟩ := Kd.R_slice HO109.out; subst eo4))
  go_ret
  exact ⟨by first | rfl | (simp [errW_none, errW_some] <;> rfl) | (simp [*, errW_none, errW_some] <;> rfl), by repeat (first | (with_reducible first | exact HB.out | apply below_alloc | apply pw_below_drewN | apply below_drew1) | exact HB.out)⟩

end Go.Proofs.Ytjpbkodooglapaa.QA
