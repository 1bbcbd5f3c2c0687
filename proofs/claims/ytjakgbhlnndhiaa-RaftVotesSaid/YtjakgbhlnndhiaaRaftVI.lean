/- (seval) Raft: a replica that is asked for its vote: one asking of the law. -/
import Derived.Test.YtjakgbhlnndhiaaRaftVH
set_option linter.unusedSectionVars false
set_option linter.unusedSimpArgs false
set_option linter.unusedVariables false
set_option maxHeartbeats 8000000
set_option maxRecDepth 10000
namespace Go.Vm.Ytjakgbhlnndhiaa
open Go.Proofs
def SS : List Nat := [6144 + 1, 6144 + 2, 8704, 8704 + 1, 9152 + 1, 9152 + 2, 16192, 16192 + 1, 16192 + 2, 16192 + 3, 16896, 16896 + 1, 16896 + 2, 16896 + 3, 16960 + 1, 16960 + 2]
theorem ss_no {p : Nat} (hp : p = 6144 ∨ p = 16960) : p ∉ SS ∧ (∀ j, j = 192 ∨ j = 768 ∨ j = 6720 ∨ j = 9152 → j ≠ p ∧ j ∉ SS) ∧ (∀ b, b = 8704 ∨ b = 9152 ∨ b = 16192 ∨ b = 16896 → p ≠ b ∧ p ≠ b + 1 ∧ p ≠ b + 2 ∧ p ≠ b + 3) := by
  unfold SS
  refine ⟨?_, fun j hj => ⟨?_, ?_⟩, fun b hb => ?_⟩
  · rcases hp with rfl | rfl <;> decide
  · rcases hp with rfl | rfl <;> rcases hj with rfl | rfl | rfl | rfl <;> decide
  · rcases hj with rfl | rfl | rfl | rfl <;> decide
  · rcases hp with rfl | rfl <;> rcases hb with rfl | rfl | rfl | rfl <;> decide
theorem NodeIn.frame {σ σ' : Store} {p g : Nat} {S : List Nat} {bl : List Int} {l : List Ent} {term vote since tmo : Int} (h : NodeIn σ p g S bl l term vote since tmo) (hf : ∀ j, j = p ∨ j ∈ S → σ' j = σ j) : NodeIn σ' p g S bl l term vote since tmo := by
  have fp := hf p (.inl rfl)
  rcases h with ⟨kb, kl, k1, k2, e⟩ | ⟨q, gq, kl, hq, e, e2⟩ | ⟨kb, q, gq, k1, k2, hq, e, e2⟩ | ⟨q, gq, r, gr, hq, hr, hqr, e, e2, e3⟩
  · exact .inl ⟨kb, kl, k1, k2, fp.trans e⟩
  · exact .inr (.inl ⟨q, gq, kl, hq, fp.trans e, (hf q (.inr hq)).trans e2⟩)
  · exact .inr (.inr (.inl ⟨kb, q, gq, k1, k2, hq, fp.trans e, (hf q (.inr hq)).trans e2⟩))
  · exact .inr (.inr (.inr ⟨q, gq, r, gr, hq, hr, hqr, fp.trans e, (hf q (.inr hq)).trans e2, (hf r (.inr hr)).trans e3⟩))
theorem told_callr {σ : Store} {base p g : Nat} {rv : V} {wr : List (Nat × Blk)} {rd : List Nat} (h : callV (tabW fns) σ base 23 [.ptr p g 0] = some ⟨rv, wr, rd⟩) : callR (tabW fns) σ base 23 [.ptr p g 0] = some (rv, upds σ wr) := by
  rw [callV_T at23] at h
  rw [callR_T at23, h]
  rfl
theorem mayM_of {m : Msg} (h : mayM m = true) : 0 ≤ m.f ∧ m.f < 16 ∧ 0 ≤ m.term ∧ m.term ≤ 2147483647 ∧ 0 ≤ m.cm ∧ m.cm ≤ 2147483647 := by
  simp only [mayM, Bool.and_eq_true, decide_eq_true_eq] at h
  omega
def vS (km : SK) (ml : List Msg) (hc : List V) (bl : List Int) (l : List Ent) (i : Nat) (s : St) : Prop :=
  i ≤ ml.length ∧ s.t 1 = .sl km ml.length (rows Msg.v ml) ∧ s.t 2 = .ptr 192 1 0 ∧ s.σ 192 = ⟨1, .rw, false, hc⟩ ∧ s.t 5 = .int .i64 (lastT l) ∧ s.t 10 = .int .i64 (i : Int) ∧
  ∃ (gm p g T : Nat) (vote since tmo : Int) (vm : List (Int × Int)), s.t 9 = .mp 6720 gm ∧ s.t 7 = .ptr p g 0 ∧ (p = 6144 ∨ p = 16960) ∧ NodeIn s.σ p g SS bl l (T : Int) vote since tmo ∧ T ≤ 2147483647 ∧ -1 ≤ vote ∧ vote < 16 ∧ s.σ 6720 = ⟨gm, .rw, false, [.mcell (encM vm)]⟩ ∧ (∀ a, (T : Int) < a → lk a vm = none) ∧ lk (T : Int) vm = (if vote = -1 then none else some vote)
theorem mlen (ml : List Msg) : (rows Msg.v ml).length = ml.length * 13 := rows_length Msg.v_len ml
theorem mrow (ml : List Msg) (i : Nat) (h : i < ml.length) : ((rows Msg.v ml).drop (i * 13)).take 13 = (gt ml i).v := rows_row Msg.v_len h
end Go.Vm.Ytjakgbhlnndhiaa
