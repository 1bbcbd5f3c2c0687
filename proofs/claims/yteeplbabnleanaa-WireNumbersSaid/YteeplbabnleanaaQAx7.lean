-- Written by a program of this session (wip/tools/ownprint.py) for this claim.
import Derived.Test.YteeplbabnleanaaQAx0
import Derived.Test.YteeplbabnleanaaQAx1
import Derived.Test.YteeplbabnleanaaQAx2
import Derived.Test.YteeplbabnleanaaQAx3
import Derived.Test.YteeplbabnleanaaQAx4
import Derived.Test.YteeplbabnleanaaQAx5
import Derived.Test.YteeplbabnleanaaQAx6
namespace Go.Proofs.Yteeplbabnleanaa.QA
open Go.RowKit Go.Proofs.YteeplbabnleanaaW.PrintWords Go.Proofs.YteeplbabnleanaaW.PrintLast Go.Proofs.YteeplbabnleanaaW.PrintMore
attribute [local go_sem] max2_int min2_int max_two min_two max_three min_three max_four min_four   -- for this text's walks alone
set_option linter.unusedVariables false
set_option linter.unusedSimpArgs false

/-! ### munimentlaw03_WireNumbers: function 3 -/
def munimentlaw03_WireNumbers.f (k : Nat) (a0 : Int) (a1 : Int) (a2 : ByteArray) : Option (Bool) := (munimentlaw03_awake.f k).bind fun t114 => (if t114 = true then ((wire_Number.f k a0 a1).bind fun t115 => ((munimentref03_Number.f k a0 a1).bind fun t116 => (if t115.toList = t116.toList then ((munimentlaw03_few.f a2).bind fun t117 => ((wire_Crc.f k t117).bind fun t118 => ((munimentref03_Crc.f k t117).bind fun t119 => (some (t118 == t119))))) else (some false)))) else (some false))
theorem munimentlaw03_WireNumbers.mono : ∀ a0 a1 a2 k, LeO (munimentlaw03_WireNumbers.f k a0 a1 a2) (munimentlaw03_WireNumbers.f (k + 1) a0 a1 a2) := by
  intro a0 a1 a2 k
  unfold munimentlaw03_WireNumbers.f
  repeat' first
      | (with_reducible exact munimentlaw03_awake.mono _)
      | (with_reducible exact munimentref03_Crc.mono _ _)
      | (with_reducible exact munimentref03_Number.mono _ _ _)
      | (with_reducible exact wire_Crc.mono _ _)
      | (with_reducible exact wire_Number.mono _ _ _)
      | (with_reducible exact LeO.refl _)
      | (with_reducible exact LeO.none _)
      | (with_reducible refine LeO.ite ?_ ?_)
      | (with_reducible refine LeO.bind ?_ (fun _ => ?_))
      | exact munimentlaw03_awake.mono _
      | exact munimentref03_Crc.mono _ _
      | exact munimentref03_Number.mono _ _ _
      | exact wire_Crc.mono _ _
      | exact wire_Number.mono _ _ _
      | exact LeO.none _
      | refine LeO.ite ?_ ?_
      | refine LeO.bind ?_ (fun _ => ?_)
set_option maxHeartbeats 8000000 in
set_option maxRecDepth 100000 in
theorem munimentlaw03_WireNumbers.calls (k : Nat) (a0 : Int) (a1 : Int) (a2 : ByteArray) (r : Bool) (w : World) (h : munimentlaw03_WireNumbers.f k a0 a1 a2 = some r) :
    Calls Try.prog 3 #[.int .u64 a0, .int .i64 a1, .string a2] w fun e w' => e = .returned (.bool r) ∧ Below w.heap.size w w' := by
  have HB := Aside0.mk (Below.refl w.heap.size w)
  have H : ((munimentlaw03_awake.f k).bind fun t114 => (if t114 = true then ((wire_Number.f k a0 a1).bind fun t115 => ((munimentref03_Number.f k a0 a1).bind fun t116 => (if t115.toList = t116.toList then ((munimentlaw03_few.f a2).bind fun t117 => ((wire_Crc.f k t117).bind fun t118 => ((munimentref03_Crc.f k t117).bind fun t119 => (some (t118 == t119))))) else (some false)))) else (some false))) = some r := h
  clear h
  replace H := Option.bind_eq_some_iff.mp H
  obtain ⟨t114, A40, H⟩ := H
  replace H : (if t114 = true then ((wire_Number.f k a0 a1).bind fun t115 => ((munimentref03_Number.f k a0 a1).bind fun t116 => (if t115.toList = t116.toList then ((munimentlaw03_few.f a2).bind fun t117 => ((wire_Crc.f k t117).bind fun t118 => ((munimentref03_Crc.f k t117).bind fun t119 => (some (t118 == t119))))) else (some false)))) else (some false)) = some r := H
  have A4 := Aside0.mk A40
  clear A40
  by_cases c5 : t114 = true
  · subst c5
    have H1 : ((wire_Number.f k a0 a1).bind fun t115 => ((munimentref03_Number.f k a0 a1).bind fun t116 => (if t115.toList = t116.toList then ((munimentlaw03_few.f a2).bind fun t117 => ((wire_Crc.f k t117).bind fun t118 => ((munimentref03_Crc.f k t117).bind fun t119 => (some (t118 == t119))))) else (some false)))) = some r := by rw [if_pos rfl] at H; exact H
    clear H
    have H := H1
    clear H1
    replace H := Option.bind_eq_some_iff.mp H
    obtain ⟨t115, A60, H⟩ := H
    replace H : ((munimentref03_Number.f k a0 a1).bind fun t116 => (if t115.toList = t116.toList then ((munimentlaw03_few.f a2).bind fun t117 => ((wire_Crc.f k t117).bind fun t118 => ((munimentref03_Crc.f k t117).bind fun t119 => (some (t118 == t119))))) else (some false))) = some r := H
    have A6 := Aside0.mk A60
    clear A60
    replace H := Option.bind_eq_some_iff.mp H
    obtain ⟨t116, A70, H⟩ := H
    replace H : (if t115.toList = t116.toList then ((munimentlaw03_few.f a2).bind fun t117 => ((wire_Crc.f k t117).bind fun t118 => ((munimentref03_Crc.f k t117).bind fun t119 => (some (t118 == t119))))) else (some false)) = some r := H
    have A7 := Aside0.mk A70
    clear A70
    by_cases c8 : t115.toList = t116.toList
    · rw [if_pos c8] at H
      have c8b0 : (t115.toList == t116.toList) = true := beq_iff_eq.mpr c8
      have c8b1 : (t115.toList != t116.toList) = false := bne_eq_false_iff_eq.mpr c8
      clear c8
      replace H := Option.bind_eq_some_iff.mp H
      obtain ⟨t117, A90, H⟩ := H
      replace H : ((wire_Crc.f k t117).bind fun t118 => ((munimentref03_Crc.f k t117).bind fun t119 => (some (t118 == t119)))) = some r := H
      have A9 := Aside0.mk A90
      clear A90
      replace H := Option.bind_eq_some_iff.mp H
      obtain ⟨t118, A100, H⟩ := H
      replace H : ((munimentref03_Crc.f k t117).bind fun t119 => (some (t118 == t119))) = some r := H
      have A10 := Aside0.mk A100
      clear A100
      replace H := Option.bind_eq_some_iff.mp H
      obtain ⟨t119, A110, H⟩ := H
      replace H : (some (t118 == t119)) = some r := H
      have A11 := Aside0.mk A110
      clear A110
      obtain rfl := Option.some.inj H
      go_enter Try.func3, Try.ntmps3
      go_wp2_with (first | ((with_reducible refine gate_callee (f := 13) rfl ?_); refine goesL_ (some 7) rfl rfl Try.func13 (by kernel_rfl) rfl #[] rfl (by (try simp only [List.map_toArray, List.map_cons, List.map_nil]); first | done | rfl | (simp [Act.eval, wrap64]; done) | (simp only [List.length_drop, List.length_take]; rfl)) ?_; (with_reducible refine (munimentlaw03_awake.calls k  true _ A4.out).mono ?_); rintro e w12 ⟨rfl, hb⟩; refine ⟨_, rfl, ?_⟩; have n0_ := Aside0.mk (below_step (by repeat (first | (with_reducible first | exact HB.out | apply below_alloc | apply pw_below_drewN | apply below_drew1) | exact HB.out)) hb); clear HB; have HB := n0_; clear n0_; (try clear hb); (try clear hb2); (try clear hk); (try clear hi)) | (go_at_call 14; (with_reducible refine (wire_Number.calls k a0 a1 t115 _ A6.out).mono ?_); rintro e w13 ⟨rfl, hb⟩; have n0_ := Aside0.mk (below_step (by repeat (first | (with_reducible first | exact HB.out | apply below_alloc | apply pw_below_drewN | apply below_drew1) | exact HB.out)) hb); clear HB; have HB := n0_; clear n0_; (try clear hb); (try clear hb2); (try clear hk); (try clear hi)) | (go_at_call 15; (with_reducible refine (munimentref03_Number.calls k a0 a1 t116 _ A7.out).mono ?_); rintro e w14 ⟨rfl, hb⟩; have n0_ := Aside0.mk (below_step (by repeat (first | (with_reducible first | exact HB.out | apply below_alloc | apply pw_below_drewN | apply below_drew1) | exact HB.out)) hb); clear HB; have HB := n0_; clear n0_; (try clear hb); (try clear hb2); (try clear hk); (try clear hi)) | (go_at_call 17; (with_reducible refine (munimentlaw03_few.calls a2 t117 _ A9.out).mono ?_); rintro e w' ⟨rfl, ⟨nd, rfl⟩⟩) | (go_at_call 16; (with_reducible refine (wire_Crc.calls k t117 t118 _ A10.out).mono ?_); rintro e w' ⟨rfl, ⟨nd, rfl⟩⟩) | (go_at_call 18; (with_reducible refine (munimentref03_Crc.calls k t117 t119 _ A11.out).mono ?_); rintro e w' ⟨rfl, ⟨nd, rfl⟩⟩))
      go_ret
      exact ⟨by first | rfl | (simp [errW_none, errW_some] <;> rfl) | (simp [*, errW_none, errW_some] <;> rfl), by repeat (first | (with_reducible first | exact HB.out | apply below_alloc | apply pw_below_drewN | apply below_drew1) | exact HB.out)⟩
    · rw [if_neg c8] at H
      have c8b0 : (t115.toList == t116.toList) = false := beq_eq_false_iff_ne.mpr c8
      have c8b1 : (t115.toList != t116.toList) = true := bne_iff_ne.mpr c8
      obtain rfl := Option.some.inj H
      go_enter Try.func3, Try.ntmps3
      go_wp2_with (first | ((with_reducible refine gate_callee (f := 13) rfl ?_); refine goesL_ (some 7) rfl rfl Try.func13 (by kernel_rfl) rfl #[] rfl (by (try simp only [List.map_toArray, List.map_cons, List.map_nil]); first | done | rfl | (simp [Act.eval, wrap64]; done) | (simp only [List.length_drop, List.length_take]; rfl)) ?_; (with_reducible refine (munimentlaw03_awake.calls k  true _ A4.out).mono ?_); rintro e w15 ⟨rfl, hb⟩; refine ⟨_, rfl, ?_⟩; have n0_ := Aside0.mk (below_step (by repeat (first | (with_reducible first | exact HB.out | apply below_alloc | apply pw_below_drewN | apply below_drew1) | exact HB.out)) hb); clear HB; have HB := n0_; clear n0_; (try clear hb); (try clear hb2); (try clear hk); (try clear hi)) | (go_at_call 14; (with_reducible refine (wire_Number.calls k a0 a1 t115 _ A6.out).mono ?_); rintro e w16 ⟨rfl, hb⟩; have n0_ := Aside0.mk (below_step (by repeat (first | (with_reducible first | exact HB.out | apply below_alloc | apply pw_below_drewN | apply below_drew1) | exact HB.out)) hb); clear HB; have HB := n0_; clear n0_; (try clear hb); (try clear hb2); (try clear hk); (try clear hi)) | (go_at_call 15; (with_reducible refine (munimentref03_Number.calls k a0 a1 t116 _ A7.out).mono ?_); rintro e w17 ⟨rfl, hb⟩; have n0_ := Aside0.mk (below_step (by repeat (first | (with_reducible first | exact HB.out | apply below_alloc | apply pw_below_drewN | apply below_drew1) | exact HB.out)) hb); clear HB; have HB := n0_; clear n0_; (try clear hb); (try clear hb2); (try clear hk); (try clear hi)))
      go_ret
      exact ⟨by first | rfl | (simp [errW_none, errW_some] <;> rfl) | (simp [*, errW_none, errW_some] <;> rfl), by repeat (first | (with_reducible first | exact HB.out | apply below_alloc | apply pw_below_drewN | apply below_drew1) | exact HB.out)⟩
  · replace c5 := Bool.eq_false_iff.mpr c5
    subst c5
    have H1 : (some false) = some r := by rw [if_neg (show ¬ (false = true) by decide)] at H; exact H
    clear H
    have H := H1
    clear H1
    obtain rfl := Option.some.inj H
    go_enter Try.func3, Try.ntmps3
    go_wp2_with (first | ((with_reducible refine gate_callee (f := 13) rfl ?_); refine goesL_ (some 7) rfl rfl Try.func13 (by kernel_rfl) rfl #[] rfl (by (try simp only [List.map_toArray, List.map_cons, List.map_nil]); first | done | rfl | (simp [Act.eval, wrap64]; done) | (simp only [List.length_drop, List.length_take]; rfl)) ?_; (with_reducible refine (munimentlaw03_awake.calls k  false _ A4.out).mono ?_); rintro e w18 ⟨rfl, hb⟩; refine ⟨_, rfl, ?_⟩; have n0_ := Aside0.mk (below_step (by repeat (first | (with_reducible first | exact HB.out | apply below_alloc | apply pw_below_drewN | apply below_drew1) | exact HB.out)) hb); clear HB; have HB := n0_; clear n0_; (try clear hb); (try clear hb2); (try clear hk); (try clear hi)))
    go_ret
    exact ⟨by first | rfl | (simp [errW_none, errW_some] <;> rfl) | (simp [*, errW_none, errW_some] <;> rfl), by repeat (first | (with_reducible first | exact HB.out | apply below_alloc | apply pw_below_drewN | apply below_drew1) | exact HB.out)⟩

/-- THE ONE PURE STATEMENT of munimentlaw03_WireNumbers: yours. -/
def munimentlaw03_WireNumbers.Pure : Prop := ∀ (a0 : Int) (a1 : Int) (a2 : ByteArray), (Lit.int .u64 a0).wf = true → (Lit.int .i64 a1).wf = true → a2.size ≤ 140737488351232 → ∃ k, munimentlaw03_WireNumbers.f k a0 a1 a2 = some true
theorem munimentlaw03_WireNumbers.walk (P : munimentlaw03_WireNumbers.Pure) (a0 : Int) (a1 : Int) (a2 : ByteArray) (w : World) (w0 : (Lit.int .u64 a0).wf = true) (w1 : (Lit.int .i64 a1).wf = true) (w2 : a2.size ≤ 140737488351232) :
    Calls Try.prog 3 #[.int .u64 a0, .int .i64 a1, .string a2] w fun e w' => e = .returned (.bool true) ∧ Below w.heap.size w w' := by
  obtain ⟨k, h⟩ := P a0 a1 a2 w0 w1 w2
  refine (munimentlaw03_WireNumbers.calls k a0 a1 a2 true w h).mono ?_
  rintro e w' ⟨rfl, hd⟩
  exact ⟨rfl, hd⟩

end Go.Proofs.Yteeplbabnleanaa.QA
