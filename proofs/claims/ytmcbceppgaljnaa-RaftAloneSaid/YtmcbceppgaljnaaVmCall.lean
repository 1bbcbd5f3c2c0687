/- A call: what is handed over, what comes back. -/
import Derived.Test.YtmcbceppgaljnaaVmMat
set_option linter.unusedSectionVars false
set_option linter.unusedSimpArgs false
set_option linter.unusedVariables false
namespace Go.Vm
variable {P : Program} {w0 w : World} {S0 : Terr} {ρ : Ren} {pin : Pin} {σ : Store} {a : Act} {t : Nat → V}

def ioVals : List Mode → List Value → List Value
  | .io :: ms, v :: vs => v :: ioVals ms vs
  | _ :: ms, _ :: vs => ioVals ms vs
  | _, _ => []

/-- What stands behind a call. -/
def After (w : World) (pin : Pin) (own : List Nat) (modes : List Mode) (vals : List Value) (r : V) (ios : List V) (e : Ending) (w' : World) : Prop :=
  ∃ c pin' o oss, e = .returned c ∧ PExt pin pin' ∧ (∀ b x, pin' b = some x → w'.heap[b]? = some x) ∧ (∀ b x, pin' b = some x → pin b = some x ∨ b ∈ own ∨ w.heap.size ≤ b) ∧ Fr w w' (· ∈ own) ∧
    B pin' w' r c o ∧ BL pin' w' ios (ioVals modes vals) oss ∧ (o ++ oss.flatten).Nodup ∧ (∀ b ∈ o ++ oss.flatten, pin' b = none ∧ (b ∈ own ∨ w.heap.size ≤ b))
/-- A function does what its entry says. -/
def Good (P : Program) (f : Nat) (E : Entry) : Prop :=
  (∀ args w, (callFunc f args).run P w = .ok (.enter f args) w) ∧
  ∀ (w : World) (pin : Pin) (xs : List V) (vals : List Value) (os : List (List Nat)) (r : V) (ios : List V), E.G xs = some (r, ios) → BL pin w xs vals os → os.flatten.Nodup → (∀ b ∈ os.flatten, pin b = none) → (∀ b o, pin b = some o → w.heap[b]? = some o) → xs.length = E.modes.length →
    Calls P f vals.toArray w (After w pin os.flatten E.modes vals r ios)
/-- A function that works on the caller's own blocks does what its entry says. -/
def RawOk (P : Program) (f : Nat) (E : Entry) : Prop :=
  ∀ H, E.raw = some H → (∀ args w, (callFunc f args).run P w = .ok (.enter f args) w) ∧
  ∀ (w0 : World) (S0 : Terr) (ρ : Ren) (pin : Pin) (σ : Store) (w : World) (xs : List V) (vals : List Value) (v : V) (σ' : Store), H xs σ = some (v, σ') → Sim w0 S0 ρ pin σ w → RL ρ pin xs vals →
    Calls P f vals.toArray w fun e w' => ∃ c ρ' pin', e = .returned c ∧ RExt ρ ρ' ∧ PExt pin pin' ∧ Sim w0 S0 ρ' pin' σ' w' ∧ R ρ' pin' v c
def TblOk (P : Program) (tbl : Tbl) : Prop := ∀ f E, tbl f = some E → Good P f E ∧ RawOk P f E

theorem pass_sound (hS : Sim w0 S0 ρ pin σ w) {pin2 : Pin} (hp : PExt pin pin2) : ∀ {ms : List Mode} {vs xs : List V} {vals : List Value} {mv bo : List Nat}, passV σ ms vs = some (xs, mv, bo) → RL ρ pin vs vals → PinsAll ρ σ w pin2 bo →
    ∃ os, BL pin2 w xs vals os ∧ Rows ρ σ mv os.flatten ∧ xs.length = ms.length ∧ vs.length = ms.length
  | [], [], xs, vals, mv, bo, h, hl, _ => by
    simp only [passV, Option.some.injEq, Prod.mk.injEq] at h
    obtain ⟨rfl, rfl, rfl⟩ := h
    have := hl.len
    cases vals with
    | nil => exact ⟨[], BL.nil, .nil, rfl, rfl⟩
    | cons _ _ => simp at this
  | [], _ :: _, _, _, _, _, h, _, _ => by simp [passV] at h
  | _ :: _, [], _, _, _, _, h, _, _ => by simp [passV] at h
  | m :: ms, v :: vs, xs, vals, mv, bo, h, hl, hpi => by
    have hl0 := hl.len
    cases vals with
    | nil => simp at hl0
    | cons c vals =>
      obtain ⟨l1, l2⟩ := hl.inv
      cases m with
      | bor =>
        simp only [passV, Option.bind_eq_some_iff] at h
        obtain ⟨⟨x, is⟩, h1, ⟨xs', mv', bo'⟩, h2, h⟩ := h
        simp only [Option.some.injEq, Prod.mk.injEq] at h
        obtain ⟨rfl, rfl, rfl⟩ := h
        obtain ⟨k1, k2, _⟩ := roV_sound hS hp dep h1 (fun i hi => hpi i (List.mem_append_left _ hi)) l1
        obtain ⟨os, q1, q2, q3, q4⟩ := pass_sound hS hp h2 l2 (fun i hi => hpi i (List.mem_append_right _ hi))
        exact ⟨[] :: os, BL.cons (.ofR k2 k1) q1, by simpa using q2, by simp [q3], by simp [q4]⟩
      | io =>
        simp only [passV, Option.bind_eq_some_iff] at h
        obtain ⟨⟨x, is⟩, h1, ⟨xs', mv', bo'⟩, h2, h⟩ := h
        simp only [Option.some.injEq, Prod.mk.injEq] at h
        obtain ⟨rfl, rfl, rfl⟩ := h
        obtain ⟨o, k1, k2⟩ := own_sound hS hp dep h1 l1
        obtain ⟨os, q1, q2, q3, q4⟩ := pass_sound hS hp h2 l2 hpi
        exact ⟨o :: os, BL.cons k1 q1, by simpa using k2.append q2, by simp [q3], by simp [q4]⟩
      | mov =>
        simp only [passV, Option.bind_eq_some_iff] at h
        obtain ⟨⟨x, is⟩, h1, ⟨xs', mv', bo'⟩, h2, h⟩ := h
        simp only [Option.some.injEq, Prod.mk.injEq] at h
        obtain ⟨rfl, rfl, rfl⟩ := h
        obtain ⟨o, k1, k2⟩ := own_sound hS hp dep h1 l1
        obtain ⟨os, q1, q2, q3, q4⟩ := pass_sound hS hp h2 l2 hpi
        exact ⟨o :: os, BL.cons k1 q1, by simpa using k2.append q2, by simp [q3], by simp [q4]⟩

theorem pass_alive : ∀ {ms : List Mode} {vs xs : List V} {mv bo : List Nat}, passV σ ms vs = some (xs, mv, bo) → ∀ i ∈ bo, (σ i).st ≠ .dead
  | [], [], xs, mv, bo, h => by
    simp only [passV, Option.some.injEq, Prod.mk.injEq] at h
    obtain ⟨_, _, rfl⟩ := h
    simp
  | [], _ :: _, _, _, _, h => by simp [passV] at h
  | _ :: _, [], _, _, _, h => by simp [passV] at h
  | m :: ms, v :: vs, xs, mv, bo, h => by
    cases m with
    | bor =>
      simp only [passV, Option.bind_eq_some_iff] at h
      obtain ⟨⟨x, is⟩, h1, ⟨xs', mv', bo'⟩, h2, h⟩ := h
      simp only [Option.some.injEq, Prod.mk.injEq] at h
      obtain ⟨rfl, rfl, rfl⟩ := h
      intro i hi
      rcases List.mem_append.1 hi with hi | hi
      · exact roV_alive σ dep h1 i hi
      · exact pass_alive h2 i hi
    | io =>
      simp only [passV, Option.bind_eq_some_iff] at h
      obtain ⟨⟨x, is⟩, h1, ⟨xs', mv', bo'⟩, h2, h⟩ := h
      simp only [Option.some.injEq, Prod.mk.injEq] at h
      obtain ⟨rfl, rfl, rfl⟩ := h
      exact pass_alive h2
    | mov =>
      simp only [passV, Option.bind_eq_some_iff] at h
      obtain ⟨⟨x, is⟩, h1, ⟨xs', mv', bo'⟩, h2, h⟩ := h
      simp only [Option.some.injEq, Prod.mk.injEq] at h
      obtain ⟨rfl, rfl, rfl⟩ := h
      exact pass_alive h2

/-- Memory behind a call that wrote rows which nobody here writes any more. -/
theorem Sim.after (h : Sim w0 S0 ρ pin σ w) {w' : World} {pin' : Pin} {O : List Nat} (hf : Fr w w' (· ∈ O)) (hx : PExt pin pin') (hp : ∀ b x, pin' b = some x → w'.heap[b]? = some x)
    (hn : ∀ b x, pin' b = some x → pin b = some x ∨ b ∈ O ∨ w.heap.size ≤ b) (ho : ∀ b ∈ O, (S0 b ∨ w0.heap.size ≤ b) ∧ ¬ Used ρ σ b ∧ pin b = none) : Sim w0 S0 ρ pin' σ w' := by
  refine ⟨h.fr.trans hf (fun j hj hO => ((ho j hO).1).resolve_right (by omega)), fun i hi => ?_, h.inj, hp, h.young, fun b o hb => ?_⟩
  · obtain ⟨e, he, L⟩ := h.live i hi
    obtain ⟨ob, r1, r6⟩ := L.obj
    have hlt := lt_of_heap r1
    refine ⟨e, he, L.mono (RExt.refl _) hx (hf.block e.b hlt ?_) (fun x => ?_)⟩
    · intro hO
      rcases hs : (σ i).st with _ | _ | _
      · exact hi hs
      · exact (ho e.b hO).2.1 ⟨i, e, hs, he, rfl⟩
      · have := r6 hs
        rw [(ho e.b hO).2.2] at this
        cases this
    · cases hq : pin' e.b with
      | none => rfl
      | some o =>
        rcases hn e.b o hq with h1 | h1 | h1
        · rw [(L.rw x).1] at h1; cases h1
        · exact absurd ⟨i, e, x, he, rfl⟩ (ho e.b h1).2.1
        · omega
  · rcases hn b o hb with h1 | h1 | h1
    · exact h.news b o h1
    · exact .inr (ho b h1).1
    · exact .inr (.inr (Nat.le_trans h.fr.size h1))

/-- A value that names no memory read alone stands for the same whatever is pinned. -/
theorem R.noRo {pin' : Pin} : ∀ (d : Nat) {v : V} {c : Value}, hasRo d v = false → R ρ pin v c → R ρ pin' v c
  | 0, _, _, h, _ => by simp [hasRo] at h
  | d + 1, v, c, h, hR => by
    cases hR with
    | int => exact .int _ _
    | bool => exact .bool _
    | str => exact .str _
    | nilp => exact .nilp
    | nilfn => exact .nilfn
    | agg cs arr hl h1 hh =>
      simp only [hasRo] at h
      exact .agg cs arr hl h1 fun j v c hv hc => R.noRo d (by have := List.any_eq_false.1 h v (List.mem_of_getElem? hv); simpa using this) (hh j v c hv hc)
    | tup cs arr hl hh =>
      simp only [hasRo] at h
      exact .tup cs arr hl fun j v c hv hc => R.noRo d (by have := List.any_eq_false.1 h v (List.mem_of_getElem? hv); simpa using this) (hh j v c hv hc)
    | fn f cs arr hl hh =>
      simp only [hasRo] at h
      exact .fn f cs arr hl fun j v c hv hc => R.noRo d (by have := List.any_eq_false.1 h v (List.mem_of_getElem? hv); simpa using this) (hh j v c hv hc)
    | slnil => exact .slnil
    | slzero a => exact .slzero a
    | slro n cs a cap arr el fz hn h0 hp h1 hh =>
      have hn0 : n = 0 := by simpa [hasRo] using h
      subst hn0
      obtain rfl := h0 rfl
      exact .slro 0 [] a cap arr el fz hn (fun _ => rfl) (fun c => absurd rfl c) (by simp) (by simp)
    | pt => simp [hasRo] at h
    | sli id g off n esz cap e a he hm hn hc hl => exact .sli id g off n esz cap e a he hm hn hc hl
    | ptr id g off e he hm => exact .ptr id g off e he hm
    | nilm => exact .nilm
    | itm => simp [hasRo] at h
    | mth f id g off e he hm => exact .mth f id g off e he hm
    | junk p n c => exact .junk p n c
    | rmp => simp [hasRo] at h
    | mp id g e he hm => exact .mp id g e he hm
theorem B.noRo {pin' : Pin} : ∀ (d : Nat) {v : V} {c : Value} {os : List Nat}, hasRo d v = false → B pin w v c os → B pin' w v c os
  | 0, _, _, _, h, _ => by simp [hasRo] at h
  | d + 1, v, c, os, h, hB => by
    cases hB with
    | flat _ _ hn hr => exact .flat v c hn (hr.noRo (d + 1) h)
    | agg cs arr os hl ho h1 hh =>
      simp only [hasRo] at h
      exact .agg cs arr os hl ho h1 fun j v c o hv hc hoo => B.noRo d (by have := List.any_eq_false.1 h v (List.mem_of_getElem? hv); simpa using this) (hh j v c o hv hc hoo)
    | tup cs arr os hl ho hh =>
      simp only [hasRo] at h
      exact .tup cs arr os hl ho fun j v c o hv hc hoo => B.noRo d (by have := List.any_eq_false.1 h v (List.mem_of_getElem? hv); simpa using this) (hh j v c o hv hc hoo)
    | fn f cs arr os hl ho hh =>
      simp only [hasRo] at h
      exact .fn f cs arr os hl ho fun j v c o hv hc hoo => B.noRo d (by have := List.any_eq_false.1 h v (List.mem_of_getElem? hv); simpa using this) (hh j v c o hv hc hoo)
    | opt cs b base arr el fz os hrow hu hfit ho h1 hh =>
      simp only [hasRo] at h
      exact .opt cs b base arr el fz os hrow hu hfit ho h1 fun j v c o hv hc hoo => B.noRo d (by have := List.any_eq_false.1 h v (List.mem_of_getElem? hv); simpa using this) (hh j v c o hv hc hoo)
    | omp es b arr clock hrow hE => exact .omp es b arr clock hrow hE
    | osl esz n cap cs ad b base arr el fz hrow hu hfit hn hc hlen h1 hh =>
      simp only [hasRo] at h
      exact .osl esz n cap cs ad b base arr el fz hrow hu hfit hn hc hlen h1 fun j v c hv hcc => (hh j v c hv hcc).noRo d (by have := List.any_eq_false.1 h v (List.mem_of_getElem? hv); simpa using this)

/-- A block takes its name again. -/
theorem Sim.revive (h : Sim w0 S0 ρ pin σ w) (id : Nat) (cells : List V) (isArr : Bool) (e : Ent) (arr : Array Value) (el : TypeId) (fz : Nat × Nat) (he : ρ id (σ id).gen = some e)
    (hm : e.mp = false) (hrow : w.heap[e.b]? = some (.cells arr el fz)) (hfz : Unfrozen arr fz) (hsize : e.size ≤ arr.size) (hfit : e.base + e.len ≤ e.size) (hlen : e.len = cells.length)
    (hone : ∀ v ∈ cells, v.one = true) (hno : isArr = true → ∀ v ∈ cells, NoRef v)
    (hown : S0 e.b ∨ w0.heap.size ≤ e.b) (hpin : pin e.b = none) (hfree : ∀ j ej, j ≠ id → (σ j).st = .rw → ρ j (σ j).gen = some ej → ej.b ≠ e.b)
    (hR : ∀ (j : Nat) (v : V) (c : Value), cells[j]? = some v → arr[e.base + j]? = some c → R ρ pin v c) :
    Sim w0 S0 ρ pin (upd σ id ⟨(σ id).gen, .rw, isArr, cells⟩) w := by
  refine ⟨h.fr, ?_, ?_, h.pinned, ?_, h.news⟩
  · intro i hi
    by_cases hid : i = id
    · subst hid
      rw [upd_same]
      exact ⟨e, he, ⟨fun _ => ⟨arr, el, fz, hrow, hfz, hsize, hfit, hR, fun x => by cases x⟩, (fun c => by rw [hm] at c; cases c), hlen, fun _ => hone, fun _ => ⟨hpin, hown⟩, hno⟩⟩
    · rw [upd_ne _ _ hid] at hi ⊢
      exact h.live i hi
  · intro i j ei ej hi hj hij hei hej
    by_cases h1 : i = id
    · subst h1
      rw [upd_same] at hi hei
      rw [upd_ne _ _ (fun c => hij c.symm)] at hj hej
      rw [he] at hei
      cases hei
      exact fun c => hfree j ej (fun c => hij c.symm) hj hej c.symm
    · rw [upd_ne _ _ h1] at hi hei
      by_cases h2 : j = id
      · subst h2
        rw [upd_same] at hj hej
        rw [he] at hej
        cases hej
        exact hfree i ei h1 hi hei
      · rw [upd_ne _ _ h2] at hj hej
        exact h.inj i j ei ej hi hj hij hei hej
  · intro i g e1 h1
    by_cases hid : i = id
    · subst hid; rw [upd_same]; exact h.young i g e1 h1
    · rw [upd_ne _ _ hid]; exact h.young i g e1 h1
end Go.Vm
