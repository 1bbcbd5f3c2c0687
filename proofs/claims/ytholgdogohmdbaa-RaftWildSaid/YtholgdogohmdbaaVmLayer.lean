/- A second table upon a first: what the first table's functions answer is taken as shown by hand. -/
import Derived.Test.YtholgdogohmdbaaVmTab
set_option linter.unusedSectionVars false
set_option linter.unusedSimpArgs false
set_option linter.unusedVariables false
namespace Go.Vm

variable {σ : Store} {base : Nat}
theorem tabW_ent {fs : Fns} {f : Nat} {ms : List Mode} {F : IFun} (hf : fs f = some (some ms, F)) : tabW fs f = some ⟨ms, Gf fs f, none⟩ := by
  have h : tabW fs f = some (entOf (Fw fs) (Hw fs) (some ms, F)) := by
    unfold tabW
    rw [hf]
    rfl
  have hG : Gf fs f = (entOf (Fw fs) (Hw fs) (some ms, F)).G := by
    funext xs
    unfold Gf
    rw [h]
    rfl
  rw [h, hG]
  rfl
theorem good_G {P : Program} {fs : Fns} (hT : TblOk P (tabW fs)) {f : Nat} {ms : List Mode} {F : IFun} (hf : fs f = some (some ms, F)) : Good P f ⟨ms, Gf fs f, none⟩ := (hT f _ (tabW_ent hf)).1
/-- The second table: some functions anew, the others as the first one has them. -/
noncomputable def layer (fs : Fns) (top : Fns) : Fns := fun f =>
  match top f with
  | some p => some p
  | none => match fs f with
    | some (some ms, _) => some (some ms, handF ms (Gf fs f))
    | _ => none
theorem layer_top {fs top : Fns} {f : Nat} {p : Option (List Mode) × IFun} (h : top f = some p) : layer fs top f = some p := by
  unfold layer
  rw [h]
theorem layer_low {fs top : Fns} {f : Nat} {ms : List Mode} {F : IFun} (ht : top f = none) (hf : fs f = some (some ms, F)) : layer fs top f = some (some ms, handF ms (Gf fs f)) := by
  unfold layer
  rw [ht, hf]
theorem layer_ok {P : Program} {fs top : Fns} (hT : TblOk P (tabW fs)) (htop : ∀ f p, top f = some p → FnOk P f p.2) (f : Nat) (p : Option (List Mode) × IFun) (h : layer fs top f = some p) : FnOk P f p.2 := by
  unfold layer at h
  split at h
  · rename_i q hq
    cases h
    exact htop f _ hq
  · split at h
    · rename_i ms F hf
      cases h
      exact .inr ⟨ms, Gf fs f, rfl, good_G hT hf⟩
    · cases h
theorem layer_G {fs top : Fns} {f : Nat} {ms : List Mode} {F : IFun} (ht : top f = none) (hf : fs f = some (some ms, F)) : Gf (layer fs top) f = Gf fs f := Gf_hand (layer_low ht hf)
theorem layer_call {fs top : Fns} {f : Nat} {ms : List Mode} {F : IFun} (ht : top f = none) (hf : fs f = some (some ms, F)) (vs : List V) : callV (tabW (layer fs top)) σ base f vs = callP σ base ms vs (Gf fs f) (passV σ ms vs) := by
  rw [callV_T (layer_low ht hf), layer_G ht hf]
theorem layer_callr {fs top : Fns} {f : Nat} {ms : List Mode} {F : IFun} (ht : top f = none) (hf : fs f = some (some ms, F)) (vs : List V) : callR (tabW (layer fs top)) σ base f vs = outS σ (callP σ base ms vs (Gf fs f) (passV σ ms vs)) := by
  rw [callR_T (layer_low ht hf), layer_G ht hf]
theorem layer_callH {fs top : Fns} {f : Nat} {ms : List Mode} {G : List V → Option (V × List V)} (ht : top f = some (some ms, handF ms G)) (vs : List V) : callV (tabW (layer fs top)) σ base f vs = callP σ base ms vs G (passV σ ms vs) := by
  rw [callV_T (layer_top ht), Gf_hand (layer_top ht)]
theorem layer_callHr {fs top : Fns} {f : Nat} {ms : List Mode} {G : List V → Option (V × List V)} (ht : top f = some (some ms, handF ms G)) (vs : List V) : callR (tabW (layer fs top)) σ base f vs = outS σ (callP σ base ms vs G (passV σ ms vs)) := by
  rw [callR_T (layer_top ht), Gf_hand (layer_top ht)]
/-- What answers without memory, as the walk shows it. -/
theorem after_flat {w w' : World} {pin : Pin} {ms : List Mode} {vals : List Value} {r : V} {c : Value} {own : List Nat} (hB : RowKit.Below w.heap.size w w') (hp : ∀ b o, pin b = some o → w.heap[b]? = some o) (hr : B pin w' r c []) (hio : ioVals ms vals = []) : After w pin own ms vals r [] (.returned c) w' := by
  have lt : ∀ {b : Nat} {x : Obj}, w.heap[b]? = some x → b < w.heap.size := fun hx => (Array.getElem?_eq_some_iff.1 hx).1
  refine ⟨c, pin, [], [], rfl, PExt.refl _, fun b x hb => ?_, fun b x hb => .inl hb, ⟨hB.os, hB.tape, hB.output, hB.size, fun k hk _ => hB.block k hk, fun b arr el fz hb => ⟨arr, el, fz, (hB.block b (lt hb)).trans hb, Nat.le_refl _⟩⟩, hr, by rw [hio]; exact BL.nil, by simp, by simp⟩
  rw [hB.block b (lt (hp b x hb))]
  exact hp b x hb
end Go.Vm
