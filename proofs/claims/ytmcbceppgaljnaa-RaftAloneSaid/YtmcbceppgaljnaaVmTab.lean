/- One table for a program's functions: what a function answers is what the machine reckons, however deep its calls go. -/
import Derived.Test.YtmcbceppgaljnaaVmEval
set_option linter.unusedSectionVars false
set_option linter.unusedSimpArgs false
set_option linter.unusedVariables false
namespace Go.Vm
variable {T T' : Tbl} {t : Nat → V} {σ : Store} {base : Nat}

/-- The one table says no more than the other one. -/
def Sub (T T' : Tbl) : Prop := ∀ f e, T f = some e → ∃ e', T' f = some e' ∧ e'.modes = e.modes ∧ (∀ xs r, e.G xs = some r → e'.G xs = some r) ∧ (e.raw = none → e'.raw = none) ∧ ∀ H, e.raw = some H → ∃ H', e'.raw = some H' ∧ ∀ xs σ r, H xs σ = some r → H' xs σ = some r
theorem Sub.refl (T : Tbl) : Sub T T := fun f e h => ⟨e, h, rfl, fun _ _ h => h, id, fun H h => ⟨H, h, fun _ _ _ h => h⟩⟩
theorem Sub.trans {T1 T2 T3 : Tbl} (h : Sub T1 T2) (h' : Sub T2 T3) : Sub T1 T3 := fun f e he => by
  obtain ⟨e1, h1, h2, h3, h4, h5⟩ := h f e he
  obtain ⟨e2, g1, g2, g3, g4, g5⟩ := h' f e1 h1
  refine ⟨e2, g1, g2.trans h2, fun xs r hx => g3 _ _ (h3 _ _ hx), fun hn => g4 (h4 hn), fun H hH => ?_⟩
  obtain ⟨H1, k1, k2⟩ := h5 H hH
  obtain ⟨H2, k3, k4⟩ := g5 H1 k1
  exact ⟨H2, k3, fun xs σ r hx => k4 _ _ _ (k2 _ _ _ hx)⟩
theorem callV_mono (h : Sub T T') {f : Nat} {args : List V} {r : Res} (hc : callV T σ base f args = some r) : callV T' σ base f args = some r := by
  unfold callV at hc ⊢
  simp only [Option.bind_eq_some_iff] at hc
  obtain ⟨e, he, ⟨xs, mv, bo⟩, hp, hc⟩ := hc
  obtain ⟨e', he', hm, hG, _⟩ := h f e he
  rw [he', Option.bind_some, hm, hp, Option.bind_some]
  simp only at hc ⊢
  split at hc
  · rename_i hn
    rw [if_pos hn]
    obtain ⟨⟨r', ios⟩, h1, hc⟩ := Option.bind_eq_some_iff.1 hc
    rw [hG _ _ h1]
    exact hc
  · cases hc
theorem insV_mono (h : Sub T T') {i : Ins} {r : Res} (hc : insV T base t σ i = some r) : insV T' base t σ i = some r := by
  cases i with
  | call f args => exact callV_mono h hc
  | callv x args =>
    simp only [insV] at hc ⊢
    split at hc
    · exact callV_mono h hc
    · exact callV_mono h hc
    · cases hc
  | _ => exact hc
theorem step_mono (h : Sub T T') {o : IOp} {s : St} {p : St × List Nat} (hc : o.step T s = some p) : o.step T' s = some p := by
  unfold IOp.step at hc ⊢
  split at hc
  · rename_i hw
    rw [if_pos hw]
    obtain ⟨r, h1, h2⟩ := Option.map_eq_some_iff.1 hc
    rw [insV_mono h h1, Option.map_some, h2]
  · rename_i hw
    rw [if_neg hw]
    exact hc
theorem stepR_mono (hx : ∀ f, T f = none → T' f = none) (h : Sub T T') {o : IOp} {s s' : St} (hc : o.stepR T s = some s') : o.stepR T' s = some s' := by
  unfold IOp.stepR at hc
  split at hc
  · rename_i args H hraw
    have : ∃ H', rawOf T' s.t o.ins = some (args, H') ∧ ∀ xs σ r, H xs σ = some r → H' xs σ = some r := by
      obtain ⟨f, htg, hH⟩ := rawOf_some hraw
      obtain ⟨E, hE, hH⟩ := Option.bind_eq_some_iff.1 hH
      obtain ⟨E', hE', _, _, _, h5⟩ := h f E hE
      obtain ⟨H', k1, k2⟩ := h5 H hH
      exact ⟨H', by unfold rawOf; rw [htg, Option.bind_some]; unfold rawF; simp only; rw [hE', Option.bind_some, k1]; rfl, k2⟩
    obtain ⟨H', k1, k2⟩ := this
    unfold IOp.stepR
    rw [k1]
    simp only
    split at hc
    · rename_i hw
      rw [if_pos hw]
      obtain ⟨p, hp, he⟩ := Option.map_eq_some_iff.1 hc
      rw [k2 _ _ _ hp, Option.map_some, he]
    · rename_i hw
      rw [if_neg hw]
      exact hc
  · rename_i hraw
    have : rawOf T' s.t o.ins = none := by
      unfold rawOf at hraw ⊢
      cases hi : o.ins.tgt s.t with
      | none => rfl
      | some q =>
        obtain ⟨f, xs⟩ := q
        rw [hi, Option.bind_some] at hraw
        rw [Option.bind_some]
        unfold rawF at hraw ⊢
        simp only at hraw ⊢
        rw [Option.map_eq_none_iff] at hraw ⊢
        cases hf : T f with
        | none => rw [hx f hf]; rfl
        | some E =>
          obtain ⟨E', hE', _, _, h4, _⟩ := h f E hf
          rw [hE', Option.bind_some]
          rw [hf, Option.bind_some] at hraw
          exact h4 hraw
    unfold IOp.stepR
    rw [this]
    simp only
    obtain ⟨p, hp, rfl⟩ := Option.map_eq_some_iff.1 hc
    rw [step_mono h hp, Option.map_some]
/-- The one table says no more than the other one; both of the same functions. -/
structure Sub2 (T T' : Tbl) : Prop where
  sub : Sub T T'
  dom : ∀ f, T f = none → T' f = none
theorem Sub2.refl (T : Tbl) : Sub2 T T := ⟨Sub.refl T, fun _ h => h⟩
theorem Sub2.trans {T1 T2 T3 : Tbl} (h : Sub2 T1 T2) (h' : Sub2 T2 T3) : Sub2 T1 T3 := ⟨h.sub.trans h'.sub, fun f hf => h'.dom f (h.dom f hf)⟩
theorem okP_some_iff {α : Type} {o : Option α} {K : α → Prop} : okP o K ↔ ∃ x, o = some x ∧ K x := by
  cases o with
  | none => exact ⟨fun h => h.elim, fun ⟨_, h, _⟩ => by cases h⟩
  | some x => exact ⟨fun h => ⟨x, rfl, h⟩, fun ⟨_, h, k⟩ => by cases h; exact k⟩
theorem regA_tbl (h : Sub2 T T') : ∀ {ops : List IOp} {K : St → Prop} {s : St}, regA T ops K s → regA T' ops K s
  | [], _, _, hk => hk
  | o :: r, K, s, hk => by
    obtain ⟨p, h1, h2⟩ := okP_some_iff.1 hk
    exact okP_some_iff.2 ⟨p, stepR_mono h.dom h.sub h1, regA_tbl h h2⟩
theorem regD_tbl (h : Sub2 T T') : ∀ {ops : List IOp} {n : Nat} {acc : List (List Nat × List Nat)} {K : St → Prop} {s : St}, regD T n ops acc K s → regD T' n ops acc K s
  | [], _, _, _, _, hk => hk
  | o :: r, n, acc, K, s, hk => by
    obtain ⟨p, h1, h0, h2⟩ := okP_some_iff.1 hk
    exact okP_some_iff.2 ⟨p, step_mono h.sub h1, h0, regD_tbl h h2⟩
theorem wpA_tbl (h : Sub2 T T') : ∀ {c : IC} {Q : Ex → St → Prop} {s : St}, wpA T c Q s → wpA T' c Q s
  | .skip, _, _, hk => hk
  | .reg false _, _, _, hk => regA_tbl h hk
  | .reg true _, _, _, hk => regD_tbl h hk
  | .seq a b, Q, s, hk => by
    have h1 := wpA_tbl h (c := a) hk
    refine wpA_mono (c := a) (fun e s hq => ?_) h1
    cases e with
    | normal => exact wpA_tbl h (c := b) hq
    | exit i => exact hq
    | ret => exact hq
  | .cond x a b, Q, s, hk => by
    simp only [wpA] at hk ⊢
    split at hk
    · exact ⟨fun hc => wpA_tbl h (hk.1 hc), fun hc => wpA_tbl h (hk.2 hc)⟩
    · exact hk.elim
  | .block id c, Q, s, hk => wpA_tbl h (c := c) hk
  | .loop c, Q, s, hk => by
    obtain ⟨n, hk⟩ := hk
    refine ⟨n, ?_⟩
    induction n generalizing s with
    | zero => exact hk
    | succ n ih =>
      have h1 := wpA_tbl h (c := c) hk
      refine wpA_mono (c := c) (fun e s hq => ?_) h1
      cases e with
      | normal => exact ih _ hq
      | exit i => exact hq
      | ret => exact hq
  | .exit _, _, _, hk => hk
  | .scope c, _, _, hk => wpA_tbl h (c := c) hk
  | .ret, _, _, hk => hk
theorem fnA_tbl (h : Sub2 T T') {ms : List Mode} {F : IFun} {xs : List V} {Q : V × List V → Prop} (hk : fnA T ms F xs Q) : fnA T' ms F xs Q := by
  obtain ⟨h1, h2⟩ := hk
  refine ⟨h1, ?_⟩
  obtain ⟨p, h3, h4⟩ := okP_some_iff.1 h2
  exact okP_some_iff.2 ⟨p, h3, wpA_tbl h h4⟩

theorem runR_tbl (h : Sub2 T T') {F : IFun} {xs : List V} {σ : Store} {Q : V × Store → Prop} (hk : runR T F xs σ Q) : runR T' F xs σ Q := ⟨hk.1, wpA_tbl h hk.2⟩

/-! ### The machine has one end -/
theorem regA_and : ∀ {ops : List IOp} {K K' : St → Prop} {s : St}, regA T ops K s → regA T ops K' s → regA T ops (fun s => K s ∧ K' s) s
  | [], _, _, _, h, h' => ⟨h, h'⟩
  | o :: r, K, K', s, h, h' => by
    obtain ⟨p, h1, h2⟩ := okP_some_iff.1 h
    obtain ⟨p', h1', h2'⟩ := okP_some_iff.1 h'
    rw [h1] at h1'
    cases h1'
    exact okP_some_iff.2 ⟨p, h1, regA_and h2 h2'⟩
theorem regD_and : ∀ {ops : List IOp} {n : Nat} {acc : List (List Nat × List Nat)} {K K' : St → Prop} {s : St}, regD T n ops acc K s → regD T n ops acc K' s → regD T n ops acc (fun s => K s ∧ K' s) s
  | [], _, _, _, _, _, h, h' => ⟨h, h'⟩
  | o :: r, n, acc, K, K', s, h, h' => by
    obtain ⟨p, h1, h0, h2⟩ := okP_some_iff.1 h
    obtain ⟨p', h1', _, h2'⟩ := okP_some_iff.1 h'
    rw [h1] at h1'
    cases h1'
    exact okP_some_iff.2 ⟨p, h1, h0, regD_and h2 h2'⟩
theorem wpA_and : ∀ {c : IC} {Q Q' : Ex → St → Prop} {s : St}, wpA T c Q s → wpA T c Q' s → wpA T c (fun e s => Q e s ∧ Q' e s) s
  | .skip, _, _, _, h, h' => ⟨h, h'⟩
  | .reg false _, _, _, _, h, h' => regA_and h h'
  | .reg true _, _, _, _, h, h' => regD_and h h'
  | .seq a b, Q, Q', s, h, h' => by
    refine wpA_mono (c := a) (fun e s hq => ?_) (wpA_and (c := a) h h')
    cases e with
    | normal => exact wpA_and (c := b) hq.1 hq.2
    | exit i => exact hq
    | ret => exact hq
  | .cond x a b, Q, Q', s, h, h' => by
    simp only [wpA] at h h' ⊢
    split at h
    · rename_i c hc
      rw [hc] at h'
      exact ⟨fun hc => wpA_and (h.1 hc) (h'.1 hc), fun hc => wpA_and (h.2 hc) (h'.2 hc)⟩
    · exact h.elim
  | .block id c, Q, Q', s, h, h' => by
    refine wpA_mono (c := c) (fun e s hq => ?_) (wpA_and (c := c) h h')
    cases e with
    | normal => exact hq
    | exit i =>
      simp only at hq ⊢
      split
      · rename_i hi; rw [if_pos hi, if_pos hi] at hq; exact hq
      · rename_i hi; rw [if_neg hi, if_neg hi] at hq; exact hq
    | ret => exact hq
  | .loop c, Q, Q', s, h, h' => by
    obtain ⟨n, h⟩ := h
    obtain ⟨m, h'⟩ := h'
    replace h := loopA_le (show n ≤ n + m by omega) h
    replace h' := loopA_le (show m ≤ n + m by omega) h'
    refine ⟨n + m, ?_⟩
    revert h h'
    generalize n + m = k
    clear n m
    intro h h'
    induction k generalizing s with
    | zero => exact h
    | succ k ih =>
      refine wpA_mono (c := c) (fun e s hq => ?_) (wpA_and (c := c) h h')
      cases e with
      | normal => exact ih _ hq.1 hq.2
      | exit i => exact hq
      | ret => exact hq
  | .exit _, _, _, _, h, h' => ⟨h, h'⟩
  | .scope c, _, _, _, h, h' => wpA_and (c := c) h h'
  | .ret, _, _, _, h, h' => ⟨h, h'⟩
theorem fnA_det {ms : List Mode} {F : IFun} {xs : List V} {r r' : V × List V} (h : fnA T ms F xs (· = r)) (h' : fnA T ms F xs (· = r')) : r = r' := by
  obtain ⟨_, h2⟩ := h
  obtain ⟨_, h2'⟩ := h'
  obtain ⟨p, h3, h4⟩ := okP_some_iff.1 h2
  obtain ⟨p', h3', h4'⟩ := okP_some_iff.1 h2'
  rw [h3] at h3'
  cases h3'
  obtain ⟨e, s, ⟨⟨_, h5⟩, _, h6⟩, _⟩ := wpA_det (wpA_and h4 h4')
  obtain ⟨q, g1, g2⟩ := okP_some_iff.1 h5
  obtain ⟨q', g1', g2'⟩ := okP_some_iff.1 h6
  rw [g1] at g1'
  cases g1'
  exact g2.symm.trans g2'
theorem fnA_at {ms : List Mode} {F : IFun} {xs : List V} {Q : V × List V → Prop} (h : fnA T ms F xs Q) : ∃ r, Q r ∧ fnA T ms F xs (· = r) := by
  obtain ⟨h1, h2⟩ := h
  obtain ⟨p, h3, h4⟩ := okP_some_iff.1 h2
  obtain ⟨e, s, ⟨h5, h6⟩, h7⟩ := wpA_det h4
  obtain ⟨q, g1, g2⟩ := okP_some_iff.1 h6
  exact ⟨q, g2, h1, okP_some_iff.2 ⟨p, h3, h7 _ ⟨h5, okP_some_iff.2 ⟨q, g1, rfl⟩⟩⟩⟩

theorem runR_det {F : IFun} {xs : List V} {σ : Store} {r r' : V × Store} (h : runR T F xs σ (· = r)) (h' : runR T F xs σ (· = r')) : r = r' := by
  obtain ⟨e, s, ⟨⟨_, h5⟩, _, h6⟩, _⟩ := wpA_det (wpA_and h.2 h'.2)
  obtain ⟨q, g1, g2⟩ := okP_some_iff.1 h5
  obtain ⟨q', g1', g2'⟩ := okP_some_iff.1 h6
  rw [g1] at g1'
  cases g1'
  exact g2.symm.trans g2'

/-! ### The table -/
abbrev Fns := Nat → Option (Option (List Mode) × IFun)
open Classical in
noncomputable def pick {α β : Type} (R : α → β → Prop) (x : α) : Option β := if h : ∃ r, R x r then some h.choose else none
theorem pick_of {α β : Type} {R : α → β → Prop} {x : α} {r : β} (hd : ∀ r r', R x r → R x r' → r = r') : pick R x = some r ↔ R x r := by
  unfold pick
  split
  · rename_i h
    have := h.choose_spec
    exact ⟨fun he => by cases he; exact this, fun hr => by rw [hd _ _ this hr]⟩
  · rename_i h
    exact ⟨(fun he => by cases he), fun hr => absurd ⟨r, hr⟩ h⟩
/-- What a function answers: what is shown by hand, or what is reckoned. -/
def hnd (A : List Mode → IFun → List V → V × List V → Prop) (ms : List Mode) (F : IFun) (xs : List V) (r : V × List V) : Prop :=
  match F.hand with
  | none => A ms F xs r
  | some (ms', G) => ms = ms' ∧ G xs = some r
theorem hnd_det {A : List Mode → IFun → List V → V × List V → Prop} (d : ∀ ms F xs r r', A ms F xs r → A ms F xs r' → r = r') (ms : List Mode) (F : IFun) (xs : List V) (r r' : V × List V) (h : hnd A ms F xs r) (h' : hnd A ms F xs r') : r = r' := by
  unfold hnd at h h'
  split at h
  · rename_i he
    rw [he] at h'
    exact d _ _ _ _ _ h h'
  · rename_i he
    rw [he] at h'
    have := h.2.symm.trans h'.2
    cases this
    rfl
theorem hnd_imp {A A' : List Mode → IFun → List V → V × List V → Prop} (d : ∀ ms F xs r, A ms F xs r → A' ms F xs r) (ms : List Mode) (F : IFun) (xs : List V) (r : V × List V) (h : hnd A ms F xs r) : hnd A' ms F xs r := by
  unfold hnd at h ⊢
  split at h
  · exact d _ _ _ _ h
  · exact h
/-- One that works on the caller's own blocks, where it is called in open order: all is lent. -/
def lentM (F : IFun) : List Mode := List.replicate F.np .bor
noncomputable def entOf (A : List Mode → IFun → List V → V × List V → Prop) (B : IFun → List V × Store → V × Store → Prop) (p : Option (List Mode) × IFun) : Entry :=
  match p.1 with
  | some ms => ⟨ms, pick (hnd A ms p.2), none⟩
  | none => ⟨lentM p.2, pick (hnd A (lentM p.2) p.2), some fun xs σ => pick (B p.2) (xs, σ)⟩
theorem entOf_sub {A A' : List Mode → IFun → List V → V × List V → Prop} {B B' : IFun → List V × Store → V × Store → Prop} (hA : ∀ ms F xs r, A ms F xs r → A' ms F xs r) (hB : ∀ F q r, B F q r → B' F q r)
    (dA : ∀ ms F xs r r', A ms F xs r → A ms F xs r' → r = r') (dA' : ∀ ms F xs r r', A' ms F xs r → A' ms F xs r' → r = r') (dB : ∀ F q r r', B F q r → B F q r' → r = r') (dB' : ∀ F q r r', B' F q r → B' F q r' → r = r') (p : Option (List Mode) × IFun) :
    (entOf A' B' p).modes = (entOf A B p).modes ∧ (∀ xs r, (entOf A B p).G xs = some r → (entOf A' B' p).G xs = some r) ∧ ((entOf A B p).raw = none → (entOf A' B' p).raw = none) ∧ ∀ H, (entOf A B p).raw = some H → ∃ H', (entOf A' B' p).raw = some H' ∧ ∀ xs σ r, H xs σ = some r → H' xs σ = some r := by
  obtain ⟨m, F⟩ := p
  cases m with
  | some ms =>
    refine ⟨rfl, fun xs r h => ?_, fun _ => rfl, fun H h => by cases h⟩
    simp only [entOf] at h ⊢
    rw [pick_of fun _ _ a b => hnd_det dA _ _ _ _ _ a b] at h
    rw [pick_of fun _ _ a b => hnd_det dA' _ _ _ _ _ a b]
    exact hnd_imp hA _ _ _ _ h
  | none =>
    refine ⟨rfl, (fun xs r h => ?_), (fun h => by cases h), fun H h => ⟨_, rfl, fun xs σ r hx => ?_⟩⟩
    · simp only [entOf] at h ⊢
      rw [pick_of fun _ _ a b => hnd_det dA _ _ _ _ _ a b] at h
      rw [pick_of fun _ _ a b => hnd_det dA' _ _ _ _ _ a b]
      exact hnd_imp hA _ _ _ _ h
    cases h
    simp only at hx
    rw [pick_of fun _ _ a b => dB _ _ _ _ a b] at hx
    rw [pick_of fun _ _ a b => dB' _ _ _ _ a b]
    exact hB _ _ _ hx
def Fno (_ : List Mode) (_ : IFun) (_ : List V) (_ : V × List V) : Prop := False
def Hno (_ : IFun) (_ : List V × Store) (_ : V × Store) : Prop := False
def Fat (T : Tbl) (ms : List Mode) (F : IFun) (xs : List V) (r : V × List V) : Prop := fnA T ms F xs (· = r)
def Hat (T : Tbl) (F : IFun) (q : List V × Store) (r : V × Store) : Prop := runR T F q.1 q.2 (· = r)
noncomputable def tabN (fs : Fns) : Nat → Tbl
  | 0 => fun f => (fs f).map (entOf Fno Hno)
  | n + 1 => fun f => (fs f).map (entOf (Fat (tabN fs n)) (Hat (tabN fs n)))
def Fw (fs : Fns) (ms : List Mode) (F : IFun) (xs : List V) (r : V × List V) : Prop := ∃ n, fnA (tabN fs n) ms F xs (· = r)
def Hw (fs : Fns) (F : IFun) (q : List V × Store) (r : V × Store) : Prop := ∃ n, runR (tabN fs n) F q.1 q.2 (· = r)
noncomputable def tabW (fs : Fns) : Tbl := fun f => (fs f).map (entOf (Fw fs) (Hw fs))
theorem Fat_det {T : Tbl} (ms : List Mode) (F : IFun) (xs : List V) (r r' : V × List V) (h : Fat T ms F xs r) (h' : Fat T ms F xs r') : r = r' := fnA_det h h'
theorem Hat_det {T : Tbl} (F : IFun) (q : List V × Store) (r r' : V × Store) (h : Hat T F q r) (h' : Hat T F q r') : r = r' := runR_det h h'
variable {fs : Fns}
theorem map_sub {g g' : Option (List Mode) × IFun → Entry} (h : ∀ p, (g' p).modes = (g p).modes ∧ (∀ xs r, (g p).G xs = some r → (g' p).G xs = some r) ∧ ((g p).raw = none → (g' p).raw = none) ∧ ∀ H, (g p).raw = some H → ∃ H', (g' p).raw = some H' ∧ ∀ xs σ r, H xs σ = some r → H' xs σ = some r) :
    Sub2 (fun f => (fs f).map g) (fun f => (fs f).map g') := by
  refine ⟨fun f e he => ?_, fun f hf => ?_⟩
  · obtain ⟨p, h1, rfl⟩ := Option.map_eq_some_iff.1 he
    exact ⟨g' p, by simp only [h1, Option.map_some], h p⟩
  · simp only [Option.map_eq_none_iff] at hf ⊢
    exact hf
theorem tabN_step : ∀ n, Sub2 (tabN fs n) (tabN fs (n + 1))
  | 0 => map_sub (g := entOf Fno Hno) (g' := entOf (Fat (tabN fs 0)) (Hat (tabN fs 0))) fun p => entOf_sub (fun _ _ _ _ h => h.elim) (fun _ _ _ h => h.elim) (fun _ _ _ _ _ h => h.elim) Fat_det (fun _ _ _ _ h => h.elim) Hat_det p
  | n + 1 => map_sub (g := entOf (Fat (tabN fs n)) (Hat (tabN fs n))) (g' := entOf (Fat (tabN fs (n + 1))) (Hat (tabN fs (n + 1)))) fun p => entOf_sub (fun _ _ _ _ h => fnA_tbl (tabN_step n) h) (fun _ _ _ h => runR_tbl (tabN_step n) h) Fat_det Fat_det Hat_det Hat_det p
theorem tabN_le {n m : Nat} (h : n ≤ m) : Sub2 (tabN fs n) (tabN fs m) := by
  induction h with
  | refl => exact Sub2.refl _
  | step _ ih => exact ih.trans (tabN_step _)
theorem Fw_det (ms : List Mode) (F : IFun) (xs : List V) (r r' : V × List V) (h : Fw fs ms F xs r) (h' : Fw fs ms F xs r') : r = r' := by
  obtain ⟨n, h⟩ := h
  obtain ⟨m, h'⟩ := h'
  exact fnA_det (fnA_tbl (tabN_le (show n ≤ n + m by omega)) h) (fnA_tbl (tabN_le (show m ≤ n + m by omega)) h')
theorem Hw_det (F : IFun) (q : List V × Store) (r r' : V × Store) (h : Hw fs F q r) (h' : Hw fs F q r') : r = r' := by
  obtain ⟨n, h⟩ := h
  obtain ⟨m, h'⟩ := h'
  exact runR_det (runR_tbl (tabN_le (show n ≤ n + m by omega)) h) (runR_tbl (tabN_le (show m ≤ n + m by omega)) h')
theorem hnd_Fw (ms : List Mode) (F : IFun) (xs : List V) (r : V × List V) : hnd (Fw fs) ms F xs r ↔ ∃ n, hnd (Fat (tabN fs n)) ms F xs r := by
  unfold hnd
  split
  · exact Iff.rfl
  · exact ⟨fun h => ⟨0, h⟩, fun ⟨_, h⟩ => h⟩
theorem tabW_at {f : Nat} {e : Entry} {xs : List V} {r : V × List V} (he : tabW fs f = some e) (hG : e.G xs = some r) : ∃ n e', tabN fs n f = some e' ∧ e'.modes = e.modes ∧ e'.G xs = some r := by
  obtain ⟨⟨m, F⟩, h1, rfl⟩ := Option.map_eq_some_iff.1 he
  cases m with
  | none =>
    simp only [entOf] at hG
    rw [pick_of fun _ _ a b => hnd_det Fw_det _ _ _ _ _ a b, hnd_Fw] at hG
    obtain ⟨n, hG⟩ := hG
    refine ⟨n + 1, entOf (Fat (tabN fs n)) (Hat (tabN fs n)) (none, F), by show (fs f).map _ = _; rw [h1]; rfl, rfl, ?_⟩
    simp only [entOf]
    rw [pick_of fun _ _ a b => hnd_det Fat_det _ _ _ _ _ a b]
    exact hG
  | some ms =>
    simp only [entOf] at hG
    rw [pick_of fun _ _ a b => hnd_det Fw_det _ _ _ _ _ a b, hnd_Fw] at hG
    obtain ⟨n, hG⟩ := hG
    refine ⟨n + 1, entOf (Fat (tabN fs n)) (Hat (tabN fs n)) (some ms, F), by show (fs f).map _ = _; rw [h1]; rfl, rfl, ?_⟩
    simp only [entOf]
    rw [pick_of fun _ _ a b => hnd_det Fat_det _ _ _ _ _ a b]
    exact hG
theorem entOf_raw {A A' : List Mode → IFun → List V → V × List V → Prop} {B B' : IFun → List V × Store → V × Store → Prop} (o : Option (Option (List Mode) × IFun)) : (o.map (entOf A B)).bind (·.raw) = none ↔ (o.map (entOf A' B')).bind (·.raw) = none := by
  cases o with
  | none => simp
  | some p =>
    obtain ⟨m, F⟩ := p
    cases m <;> simp [entOf]
theorem tabW_raw {f : Nat} : ∀ n, (tabW fs f).bind (·.raw) = none ↔ (tabN fs n f).bind (·.raw) = none
  | 0 => entOf_raw (fs f)
  | _ + 1 => entOf_raw (fs f)
theorem tabW_rawAt {f : Nat} {H : List V → Store → Option (V × Store)} {xs : List V} {σ : Store} {r : V × Store} (hr : (tabW fs f).bind (·.raw) = some H) (hx : H xs σ = some r) : ∃ n H', (tabN fs n f).bind (·.raw) = some H' ∧ H' xs σ = some r := by
  obtain ⟨e, he, hr⟩ := Option.bind_eq_some_iff.1 hr
  obtain ⟨⟨m, F⟩, h1, rfl⟩ := Option.map_eq_some_iff.1 he
  cases m with
  | some ms => cases hr
  | none =>
    cases hr
    simp only at hx
    rw [pick_of fun _ _ a b => Hw_det _ _ _ _ a b] at hx
    obtain ⟨n, hx⟩ := hx
    refine ⟨n + 1, fun xs σ => pick (Hat (tabN fs n) F) (xs, σ), by show ((fs f).map _).bind _ = _; rw [h1]; rfl, ?_⟩
    simp only
    rw [pick_of fun _ _ a b => Hat_det _ _ _ _ a b]
    exact hx
theorem callV_cont {f : Nat} {args : List V} {r : Res} (hc : callV (tabW fs) σ base f args = some r) : ∃ n, callV (tabN fs n) σ base f args = some r := by
  unfold callV at hc
  simp only [Option.bind_eq_some_iff] at hc
  obtain ⟨e, he, ⟨xs, mv, bo⟩, hp, hc⟩ := hc
  simp only at hc
  split at hc
  · rename_i hn
    obtain ⟨⟨r', ios⟩, h1, hc⟩ := Option.bind_eq_some_iff.1 hc
    obtain ⟨n, e', h2, h3, h4⟩ := tabW_at he h1
    refine ⟨n, ?_⟩
    unfold callV
    rw [h2, Option.bind_some, h3, hp, Option.bind_some]
    simp only
    rw [if_pos hn, h4]
    exact hc
  · cases hc
theorem insV_cont {i : Ins} {r : Res} (hc : insV (tabW fs) base t σ i = some r) : ∃ n, insV (tabN fs n) base t σ i = some r := by
  cases i with
  | call f args => exact callV_cont hc
  | callv x args =>
    simp only [insV] at hc ⊢
    split at hc
    · exact callV_cont hc
    · exact callV_cont hc
    · cases hc
  | _ => exact ⟨0, hc⟩
theorem step_cont {o : IOp} {s : St} {p : St × List Nat} (hc : o.step (tabW fs) s = some p) : ∃ n, o.step (tabN fs n) s = some p := by
  unfold IOp.step at hc ⊢
  split at hc
  · rename_i hw
    obtain ⟨r, h1, h2⟩ := Option.map_eq_some_iff.1 hc
    obtain ⟨n, h3⟩ := insV_cont h1
    exact ⟨n, by rw [if_pos hw, h3, Option.map_some, h2]⟩
  · rename_i hw
    exact ⟨0, by rw [if_neg hw]; exact hc⟩
theorem stepR_cont {o : IOp} {s s' : St} (hc : o.stepR (tabW fs) s = some s') : ∃ n, o.stepR (tabN fs n) s = some s' := by
  unfold IOp.stepR at hc
  split at hc
  · rename_i args H hraw
    have key : ∀ xs σ r, H xs σ = some r → ∃ n H', rawOf (tabN fs n) s.t o.ins = some (args, H') ∧ H' xs σ = some r := by
      intro xs σ r hx
      obtain ⟨f, htg, hH⟩ := rawOf_some hraw
      obtain ⟨n, H', k1, k2⟩ := tabW_rawAt hH hx
      exact ⟨n, H', by unfold rawOf; rw [htg, Option.bind_some]; unfold rawF; simp only; rw [k1]; rfl, k2⟩
    have key0 : ∃ H', rawOf (tabN fs 0) s.t o.ins = some (args, H') := by
      obtain ⟨f, htg, hH⟩ := rawOf_some hraw
      cases hq : (tabN fs 0 f).bind (·.raw) with
      | none => rw [(tabW_raw 0).2 hq] at hH; cases hH
      | some H' => exact ⟨H', by unfold rawOf; rw [htg, Option.bind_some]; unfold rawF; simp only; rw [hq]; rfl⟩
    split at hc
    · rename_i hw
      obtain ⟨p, hp, he⟩ := Option.map_eq_some_iff.1 hc
      obtain ⟨n, H', k1, k2⟩ := key _ _ _ hp
      refine ⟨n, ?_⟩
      unfold IOp.stepR
      rw [k1]
      simp only
      rw [if_pos hw, k2, Option.map_some, he]
    · rename_i hw
      obtain ⟨H', k1⟩ := key0
      refine ⟨0, ?_⟩
      unfold IOp.stepR
      rw [k1]
      simp only
      rw [if_neg hw]
      exact hc
  · rename_i hraw
    have : ∀ n, rawOf (tabN fs n) s.t o.ins = none := by
      intro n
      unfold rawOf at hraw ⊢
      cases hi : o.ins.tgt s.t with
      | none => rfl
      | some q =>
        obtain ⟨f, xs⟩ := q
        rw [hi, Option.bind_some] at hraw
        rw [Option.bind_some]
        unfold rawF at hraw ⊢
        simp only at hraw ⊢
        rw [Option.map_eq_none_iff] at hraw ⊢
        exact (tabW_raw n).1 hraw
    obtain ⟨p, hp, rfl⟩ := Option.map_eq_some_iff.1 hc
    obtain ⟨n, hn⟩ := step_cont hp
    refine ⟨n, ?_⟩
    unfold IOp.stepR
    rw [this n]
    simp only
    rw [hn, Option.map_some]
theorem regA_cont : ∀ {ops : List IOp} {K : St → Prop} {s : St}, regA (tabW fs) ops K s → ∃ n, regA (tabN fs n) ops K s
  | [], _, _, hk => ⟨0, hk⟩
  | o :: r, K, s, hk => by
    obtain ⟨p, h1, h2⟩ := okP_some_iff.1 hk
    obtain ⟨n, h3⟩ := stepR_cont h1
    obtain ⟨m, h4⟩ := regA_cont h2
    exact ⟨n + m, okP_some_iff.2 ⟨p, stepR_mono (tabN_le (by omega)).dom (tabN_le (by omega)).sub h3, regA_tbl (tabN_le (by omega)) h4⟩⟩
theorem regD_cont : ∀ {ops : List IOp} {k : Nat} {acc : List (List Nat × List Nat)} {K : St → Prop} {s : St}, regD (tabW fs) k ops acc K s → ∃ n, regD (tabN fs n) k ops acc K s
  | [], _, _, _, _, hk => ⟨0, hk⟩
  | o :: r, k, acc, K, s, hk => by
    obtain ⟨p, h1, h0, h2⟩ := okP_some_iff.1 hk
    obtain ⟨n, h3⟩ := step_cont h1
    obtain ⟨m, h4⟩ := regD_cont h2
    exact ⟨n + m, okP_some_iff.2 ⟨p, step_mono (tabN_le (by omega)).sub h3, h0, regD_tbl (tabN_le (by omega)) h4⟩⟩
theorem wpA_cont : ∀ {c : IC} {Q : Ex → St → Prop} {s : St}, wpA (tabW fs) c Q s → ∃ n, wpA (tabN fs n) c Q s
  | .skip, _, _, hk => ⟨0, hk⟩
  | .reg false _, _, _, hk => regA_cont hk
  | .reg true _, _, _, hk => regD_cont hk
  | .seq a b, Q, s, hk => by
    obtain ⟨e, s', h1, h2⟩ := wpA_det (c := a) hk
    obtain ⟨n, h3⟩ := wpA_cont (c := a) (h2 (fun e2 s2 => e2 = e ∧ s2 = s') ⟨rfl, rfl⟩)
    cases e with
    | normal =>
      obtain ⟨m, h4⟩ := wpA_cont (c := b) h1
      refine ⟨n + m, wpA_mono (c := a) (fun e2 s2 hq => ?_) (wpA_tbl (tabN_le (show n ≤ n + m by omega)) h3)⟩
      obtain ⟨rfl, rfl⟩ := hq
      exact wpA_tbl (tabN_le (show m ≤ n + m by omega)) h4
    | exit i => exact ⟨n, wpA_mono (c := a) (fun e2 s2 hq => by obtain ⟨rfl, rfl⟩ := hq; exact h1) h3⟩
    | ret => exact ⟨n, wpA_mono (c := a) (fun e2 s2 hq => by obtain ⟨rfl, rfl⟩ := hq; exact h1) h3⟩
  | .cond x a b, Q, s, hk => by
    simp only [wpA] at hk ⊢
    split at hk
    · rename_i c hc
      cases c with
      | true =>
        obtain ⟨n, h1⟩ := wpA_cont (hk.1 rfl)
        exact ⟨n, fun _ => h1, fun h => by cases h⟩
      | false =>
        obtain ⟨n, h1⟩ := wpA_cont (hk.2 rfl)
        exact ⟨n, (fun h => by cases h), fun _ => h1⟩
    · exact hk.elim
  | .block id c, Q, s, hk => wpA_cont (c := c) hk
  | .loop c, Q, s, hk => by
    obtain ⟨k, hk⟩ := hk
    induction k generalizing s with
    | zero => exact hk.elim
    | succ k ih =>
      obtain ⟨e, s', h1, h2⟩ := wpA_det (c := c) hk
      obtain ⟨n, h3⟩ := wpA_cont (c := c) (h2 (fun e2 s2 => e2 = e ∧ s2 = s') ⟨rfl, rfl⟩)
      cases e with
      | normal =>
        obtain ⟨m, h4⟩ := ih _ h1
        obtain ⟨j, h4⟩ := wpA_tbl (tabN_le (show m ≤ n + m by omega)) h4
        refine ⟨n + m, j + 1, wpA_mono (c := c) (fun e2 s2 hq => ?_) (wpA_tbl (tabN_le (show n ≤ n + m by omega)) h3)⟩
        obtain ⟨rfl, rfl⟩ := hq
        exact h4
      | exit i => exact ⟨n, 1, wpA_mono (c := c) (fun e2 s2 hq => by obtain ⟨rfl, rfl⟩ := hq; exact h1) h3⟩
      | ret => exact ⟨n, 1, wpA_mono (c := c) (fun e2 s2 hq => by obtain ⟨rfl, rfl⟩ := hq; exact h1) h3⟩
  | .exit _, _, _, hk => ⟨0, hk⟩
  | .scope c, _, _, hk => wpA_cont (c := c) hk
  | .ret, _, _, hk => ⟨0, hk⟩
theorem fnA_cont {ms : List Mode} {F : IFun} {xs : List V} {Q : V × List V → Prop} (hk : fnA (tabW fs) ms F xs Q) : ∃ n, fnA (tabN fs n) ms F xs Q := by
  obtain ⟨h1, h2⟩ := hk
  obtain ⟨p, h3, h4⟩ := okP_some_iff.1 h2
  obtain ⟨n, h5⟩ := wpA_cont h4
  exact ⟨n, h1, okP_some_iff.2 ⟨p, h3, h5⟩⟩

theorem runR_cont {F : IFun} {xs : List V} {σ : Store} {Q : V × Store → Prop} (hk : runR (tabW fs) F xs σ Q) : ∃ n, runR (tabN fs n) F xs σ Q := by
  obtain ⟨n, h⟩ := wpA_cont hk.2
  exact ⟨n, hk.1, h⟩
/-- What a function answers. -/
noncomputable def Gf (fs : Fns) (f : Nat) (xs : List V) : Option (V × List V) := (tabW fs f).bind fun e => e.G xs
theorem Gf_of {f : Nat} {ms : List Mode} {F : IFun} {xs : List V} {r : V × List V} (hf : fs f = some (some ms, F)) (h : fnA (tabW fs) ms F xs (· = r)) (hh : F.hand = none := by rfl) : Gf fs f xs = some r := by
  obtain ⟨n, h⟩ := fnA_cont h
  unfold Gf tabW
  rw [hf, Option.map_some, Option.bind_some]
  simp only [entOf]
  rw [pick_of fun _ _ a b => hnd_det Fw_det _ _ _ _ _ a b]
  unfold hnd
  rw [hh]
  exact ⟨n, h⟩
theorem GfH_of {f : Nat} {F : IFun} {xs : List V} {r : V × List V} (hf : fs f = some (none, F)) (h : fnA (tabW fs) (lentM F) F xs (· = r)) (hh : F.hand = none := by rfl) : Gf fs f xs = some r := by
  obtain ⟨n, h⟩ := fnA_cont h
  unfold Gf tabW
  rw [hf, Option.map_some, Option.bind_some]
  simp only [entOf]
  rw [pick_of fun _ _ a b => hnd_det Fw_det _ _ _ _ _ a b]
  unfold hnd
  rw [hh]
  exact ⟨n, h⟩
/-- A function that is shown by hand. -/
def handF (ms : List Mode) (G : List V → Option (V × List V)) : IFun := ⟨0, 0, [], .exit 0, some (ms, G)⟩
theorem Gf_hand {f : Nat} {ms : List Mode} {G : List V → Option (V × List V)} (hf : fs f = some (some ms, handF ms G)) : Gf fs f = G := by
  funext xs
  unfold Gf tabW
  rw [hf, Option.map_some, Option.bind_some]
  simp only [entOf]
  cases hG : G xs with
  | some r =>
    rw [pick_of fun _ _ a b => hnd_det Fw_det _ _ _ _ _ a b]
    exact ⟨rfl, hG⟩
  | none =>
    cases hp : pick (hnd (Fw fs) ms (handF ms G)) xs with
    | none => rfl
    | some r =>
      rw [pick_of fun _ _ a b => hnd_det Fw_det _ _ _ _ _ a b] at hp
      have := hG.symm.trans hp.2
      cases this
/-- What a function does that works on the caller's own blocks. -/
noncomputable def Hf (fs : Fns) (f : Nat) (xs : List V) (σ : Store) : Option (V × Store) := ((tabW fs f).bind (·.raw)).bind fun H => H xs σ
theorem Hf_of {f : Nat} {F : IFun} {xs : List V} {σ : Store} {r : V × Store} (hf : fs f = some (none, F)) (h : runR (tabW fs) F xs σ (· = r)) : Hf fs f xs σ = some r := by
  obtain ⟨n, h⟩ := runR_cont h
  unfold Hf tabW
  rw [hf, Option.map_some, Option.bind_some]
  simp only [entOf, Option.bind_some]
  rw [pick_of fun _ _ a b => Hw_det _ _ _ _ a b]
  exact ⟨n, h⟩

/-! ### The table is the program's -/
def FnOk (P : Program) (f : Nat) (F : IFun) : Prop := (∃ fn β, P.funcs[f]? = some fn ∧ (fn.name == "runtime.NumGoroutine") = false ∧ compF P β fn = some F) ∨ ∃ ms G, F = handF ms G ∧ Good P f ⟨ms, G, none⟩
theorem compF_hand {P : Program} {β : Nat} {fn : Func} {F : IFun} (h : compF P β fn = some F) : F.hand = none := by
  unfold compF at h
  obtain ⟨_, _, h⟩ := Option.bind_eq_some_iff.1 h
  obtain ⟨_, _, h⟩ := Option.bind_eq_some_iff.1 h
  obtain ⟨_, _, rfl⟩ := Option.map_eq_some_iff.1 h
  rfl
theorem hand_G {A : List Mode → IFun → List V → V × List V → Prop} {B : IFun → List V × Store → V × Store → Prop} (dA : ∀ ms F xs r r', A ms F xs r → A ms F xs r' → r = r') (dB : ∀ F q r r', B F q r → B F q r' → r = r') (hB : ∀ ms G q r, ¬ B (handF ms G) q r) {P : Program} {f : Nat} {m : Option (List Mode)} {ms : List Mode} {G : List V → Option (V × List V)} (h : Good P f ⟨ms, G, none⟩) :
    Good P f (entOf A B (m, handF ms G)) ∧ RawOk P f (entOf A B (m, handF ms G)) := by
  cases m with
  | some ms' =>
    refine ⟨⟨h.1, fun w pin xs vals os r ios hG hb hn ho hp hl => ?_⟩, fun H hH => by cases hH⟩
    simp only [entOf] at hG hl ⊢
    rw [pick_of fun _ _ a b => hnd_det dA _ _ _ _ _ a b] at hG
    obtain ⟨rfl, hG⟩ := hG
    exact h.2 w pin xs vals os r ios hG hb hn ho hp hl
  | none =>
    refine ⟨⟨h.1, fun w pin xs vals os r ios hG hb hn ho hp hl => ?_⟩, fun H hH => ?_⟩
    · simp only [entOf] at hG hl ⊢
      rw [pick_of fun _ _ a b => hnd_det dA _ _ _ _ _ a b] at hG
      obtain ⟨hms, hG⟩ := hG
      rw [hms] at hl ⊢
      exact h.2 w pin xs vals os r ios hG hb hn ho hp hl
    cases hH
    refine ⟨h.1, fun w0 S0 ρ pin σ w xs vals v σ' hx => ?_⟩
    simp only at hx
    rw [pick_of fun _ _ a b => dB _ _ _ _ a b] at hx
    exact absurd hx (hB _ _ _ _)
theorem runR_hand {T : Tbl} {ms : List Mode} {G : List V → Option (V × List V)} {xs : List V} {σ : Store} {Q : V × Store → Prop} : ¬ runR T (handF ms G) xs σ Q := fun h => by
  have := h.2
  simp only [handF, wpA] at this
  exact this.1
theorem entOf_ok {P : Program} {tbl : Tbl} (hT : TblOk P tbl) (hm : P.follows .mixedOrders = true) {f : Nat} {p : Option (List Mode) × IFun} (h : FnOk P f p.2) :
    Good P f (entOf (Fat tbl) (Hat tbl) p) ∧ RawOk P f (entOf (Fat tbl) (Hat tbl) p) := by
  obtain ⟨m, F⟩ := p
  rcases h with ⟨fn, β, h2, h3, h4⟩ | ⟨ms, G, h1, hG⟩
  case inr =>
    simp only at h1
    subst h1
    exact hand_G Fat_det Hat_det (fun _ _ _ _ => runR_hand) hG
  have hh := compF_hand h4
  refine ⟨good_of hT hm h2 h3 h4 fun xs r ios hx => ?_, fn_raw hT (draw_ok hT hm) h2 h3 h4 fun H xs σ v σ' hH hx => ?_⟩
  · cases m with
    | none =>
      simp only [entOf] at hx
      rw [pick_of fun _ _ a b => hnd_det Fat_det _ _ _ _ _ a b] at hx
      unfold hnd at hx
      rw [hh] at hx
      exact hx
    | some ms =>
      simp only [entOf] at hx
      rw [pick_of fun _ _ a b => hnd_det Fat_det _ _ _ _ _ a b] at hx
      unfold hnd at hx
      rw [hh] at hx
      exact hx
  · cases m with
    | some ms => cases hH
    | none =>
      cases hH
      simp only at hx
      rw [pick_of fun _ _ a b => Hat_det _ _ _ _ a b] at hx
      exact hx
theorem entOf_no {P : Program} (hm : P.follows .mixedOrders = true) {f : Nat} {p : Option (List Mode) × IFun} (h : FnOk P f p.2) :
    Good P f (entOf Fno Hno p) ∧ RawOk P f (entOf Fno Hno p) := by
  obtain ⟨m, F⟩ := p
  rcases h with ⟨fn, β, h2, h3, h4⟩ | ⟨ms, G, h1, hG⟩
  case inr =>
    simp only at h1
    subst h1
    exact hand_G (fun _ _ _ _ _ h => h.elim) (fun _ _ _ _ h => h.elim) (fun _ _ _ _ h => h) hG
  have hh := compF_hand h4
  refine ⟨good_of TblOk.nil hm h2 h3 h4 fun xs r ios hx => ?_, fn_raw TblOk.nil (draw_ok TblOk.nil hm) h2 h3 h4 fun H xs σ v σ' hH hx => ?_⟩
  · cases m with
    | none =>
      simp only [entOf] at hx
      rw [pick_of fun _ _ a b => hnd_det (fun _ _ _ _ _ h => h.elim) _ _ _ _ _ a b] at hx
      unfold hnd at hx
      rw [hh] at hx
      exact hx.elim
    | some ms =>
      simp only [entOf] at hx
      rw [pick_of fun _ _ a b => hnd_det (fun _ _ _ _ _ h => h.elim) _ _ _ _ _ a b] at hx
      unfold hnd at hx
      rw [hh] at hx
      exact hx.elim
  · cases m with
    | some ms => cases hH
    | none =>
      cases hH
      simp only at hx
      rw [pick_of fun _ _ a b => a.elim] at hx
      exact hx.elim
theorem tabN_ok {P : Program} (hm : P.follows .mixedOrders = true) (h : ∀ f p, fs f = some p → FnOk P f p.2) : ∀ n, TblOk P (tabN fs n)
  | 0 => fun f e he => by
    obtain ⟨p, h1, rfl⟩ := Option.map_eq_some_iff.1 (show (fs f).map _ = some e from he)
    exact entOf_no hm (h f p h1)
  | n + 1 => fun f e he => by
    obtain ⟨p, h1, rfl⟩ := Option.map_eq_some_iff.1 (show (fs f).map _ = some e from he)
    exact entOf_ok (tabN_ok hm h n) hm (h f p h1)
theorem tabW_ok {P : Program} (hm : P.follows .mixedOrders = true) (h : ∀ f p, fs f = some p → FnOk P f p.2) : TblOk P (tabW fs) := fun f e he => by
  obtain ⟨p, h1, rfl⟩ := Option.map_eq_some_iff.1 he
  have hg := fun n => entOf_ok (tabN_ok hm h n) hm (h f p h1)
  obtain ⟨m, F⟩ := p
  cases m with
  | some ms =>
    refine ⟨⟨(hg 0).1.1, fun w pin xs vals os r ios hG => ?_⟩, fun H hH => by cases hH⟩
    simp only [entOf] at hG
    rw [pick_of fun _ _ a b => hnd_det Fw_det _ _ _ _ _ a b, hnd_Fw] at hG
    obtain ⟨n, hG⟩ := hG
    exact (hg n).1.2 w pin xs vals os r ios (by simp only [entOf]; rw [pick_of fun _ _ a b => hnd_det Fat_det _ _ _ _ _ a b]; exact hG)
  | none =>
    refine ⟨⟨(hg 0).1.1, fun w pin xs vals os r ios hG => ?_⟩, fun H hH => ?_⟩
    · simp only [entOf] at hG
      rw [pick_of fun _ _ a b => hnd_det Fw_det _ _ _ _ _ a b, hnd_Fw] at hG
      obtain ⟨n, hG⟩ := hG
      exact (hg n).1.2 w pin xs vals os r ios (by simp only [entOf]; rw [pick_of fun _ _ a b => hnd_det Fat_det _ _ _ _ _ a b]; exact hG)
    cases hH
    refine ⟨(hg 0).1.1, fun w0 S0 ρ pin σ w xs vals v σ' hx => ?_⟩
    simp only at hx
    rw [pick_of fun _ _ a b => Hw_det _ _ _ _ a b] at hx
    obtain ⟨n, hx⟩ := hx
    exact ((hg n).2 _ rfl).2 w0 S0 ρ pin σ w xs vals v σ' (by simp only; rw [pick_of fun _ _ a b => Hat_det _ _ _ _ a b]; exact hx)

/-! ### Calls, a step at a time -/
def callP (σ : Store) (base : Nat) (ms : List Mode) (vs : List V) (G : List V → Option (V × List V)) (o : Option (List V × List Nat × List Nat)) : Option Res :=
  match o with
  | some (xs, mv, bo) => if (mv.Nodup ∧ ∀ i ∈ bo, i ∉ mv) then
      (G xs).bind fun (r, ios) =>
        (matV σ dep base r).bind fun (rv, w1, k1) => (backV σ k1 ms vs ios).bind fun w2 =>
          if ((w1 ++ w2).map (·.1)).Nodup then
            some ⟨rv, (mv.map fun i => (i, { σ i with st := .dead })) ++ (if hasRo dep r || ios.any (hasRo dep) then fzs σ bo else []) ++ w1 ++ w2, mv ++ bo ++ (w1 ++ w2).map (·.1)⟩
          else none
      else none
  | none => none
def callG (σ : Store) (base : Nat) (ms : List Mode) (vs : List V) (mv bo : List Nat) (o : Option (V × List V)) : Option Res :=
  match o with
  | some (r, ios) => (matV σ dep base r).bind fun (rv, w1, k1) => (backV σ k1 ms vs ios).bind fun w2 =>
          if ((w1 ++ w2).map (·.1)).Nodup then
            some ⟨rv, (mv.map fun i => (i, { σ i with st := .dead })) ++ (if hasRo dep r || ios.any (hasRo dep) then fzs σ bo else []) ++ w1 ++ w2, mv ++ bo ++ (w1 ++ w2).map (·.1)⟩
          else none
  | none => none
def callM (σ : Store) (ms : List Mode) (vs : List V) (mv bo : List Nat) (r : V) (ios : List V) (o : Option (V × List (Nat × Blk) × Nat)) : Option Res :=
  match o with
  | some (rv, w1, k1) => (backV σ k1 ms vs ios).bind fun w2 =>
          if ((w1 ++ w2).map (·.1)).Nodup then
            some ⟨rv, (mv.map fun i => (i, { σ i with st := .dead })) ++ (if hasRo dep r || ios.any (hasRo dep) then fzs σ bo else []) ++ w1 ++ w2, mv ++ bo ++ (w1 ++ w2).map (·.1)⟩
          else none
  | none => none
def callB (σ : Store) (mv bo : List Nat) (rv : V) (w1 : List (Nat × Blk)) (ro : Bool) (o : Option (List (Nat × Blk))) : Option Res :=
  match o with
  | some w2 => if ((w1 ++ w2).map (·.1)).Nodup then
            some ⟨rv, (mv.map fun i => (i, { σ i with st := .dead })) ++ (if ro then fzs σ bo else []) ++ w1 ++ w2, mv ++ bo ++ (w1 ++ w2).map (·.1)⟩
          else none
  | none => none
theorem callV_T {f : Nat} {ms : List Mode} {F : IFun} (hf : fs f = some (some ms, F)) (vs : List V) : callV (tabW fs) σ base f vs = callP σ base ms vs (Gf fs f) (passV σ ms vs) := by
  unfold callV Gf tabW
  rw [hf, Option.map_some, Option.bind_some]
  simp only [entOf]
  cases passV σ ms vs with
  | none => rfl
  | some p => rfl
theorem callV_H {f : Nat} {F : IFun} (hf : fs f = some (none, F)) (vs : List V) : callV (tabW fs) σ base f vs = callP σ base (lentM F) vs (Gf fs f) (passV σ (lentM F) vs) := by
  unfold callV Gf tabW
  rw [hf, Option.map_some, Option.bind_some]
  simp only [entOf]
  cases passV σ (lentM F) vs with
  | none => rfl
  | some p => rfl
/-- What stands behind a call. -/
def outS (σ : Store) (o : Option Res) : Option (V × Store) := o.map fun r => (r.val, upds σ r.wr)
theorem outS_some (v : V) (wr : List (Nat × Blk)) (rd : List Nat) : outS σ (some ⟨v, wr, rd⟩) = some (v, upds σ wr) := rfl
theorem callR_T {f : Nat} {ms : List Mode} {F : IFun} (hf : fs f = some (some ms, F)) (vs : List V) : callR (tabW fs) σ base f vs = outS σ (callP σ base ms vs (Gf fs f) (passV σ ms vs)) := by
  have : (tabW fs f).bind (·.raw) = none := by
    unfold tabW
    rw [hf]
    rfl
  unfold callR
  rw [this]
  simp only
  rw [callV_T hf]
  rfl
theorem callR_H {f : Nat} {F : IFun} (hf : fs f = some (none, F)) (vs : List V) : callR (tabW fs) σ base f vs = Hf fs f vs σ := by
  unfold callR Hf tabW
  rw [hf]
  rfl
theorem callP_some {ms : List Mode} {vs xs : List V} {G : List V → Option (V × List V)} {mv bo : List Nat} : callP σ base ms vs G (some (xs, mv, bo)) = if (mv.Nodup ∧ ∀ i ∈ bo, i ∉ mv) then callG σ base ms vs mv bo (G xs) else none := by
  simp only [callP]
  split
  · cases G xs <;> rfl
  · rfl
theorem callG_some {ms : List Mode} {vs : List V} {mv bo : List Nat} {r : V} {ios : List V} : callG σ base ms vs mv bo (some (r, ios)) = callM σ ms vs mv bo r ios (matV σ dep base r) := by
  simp only [callG]
  cases matV σ dep base r <;> rfl
theorem callM_some {ms : List Mode} {vs : List V} {mv bo : List Nat} {r rv : V} {ios : List V} {w1 : List (Nat × Blk)} {k1 : Nat} : callM σ ms vs mv bo r ios (some (rv, w1, k1)) = callB σ mv bo rv w1 (hasRo dep r || ios.any (hasRo dep)) (backV σ k1 ms vs ios) := by
  simp only [callM]
  cases backV σ k1 ms vs ios <;> rfl
theorem callB_some {mv bo : List Nat} {rv : V} {w1 w2 : List (Nat × Blk)} {ro : Bool} : callB σ mv bo rv w1 ro (some w2) = if ((w1 ++ w2).map (·.1)).Nodup then
            some ⟨rv, (mv.map fun i => (i, { σ i with st := .dead })) ++ (if ro then fzs σ bo else []) ++ w1 ++ w2, mv ++ bo ++ (w1 ++ w2).map (·.1)⟩
          else none := rfl
end Go.Vm
