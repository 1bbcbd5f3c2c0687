/- Values that come over a border become blocks. -/
import Derived.Test.YtmcbceppgaljnaaVmBord
set_option linter.unusedSectionVars false
set_option linter.unusedSimpArgs false
set_option linter.unusedVariables false
namespace Go.Vm
variable {P : Program} {w0 w : World} {S0 : Terr} {ρ : Ren} {pin : Pin} {σ : Store} {a : Act} {t : Nat → V}

theorem upds_out (σ : Store) : ∀ (l : List (Nat × Blk)) (k : Nat), (∀ p ∈ l, p.1 ≠ k) → upds σ l k = σ k := by
  intro l
  induction l generalizing σ with
  | nil => intro k _; rfl
  | cons p l ih =>
    intro k h
    have e : upds σ (p :: l) = upds (upd σ p.1 p.2) l := rfl
    rw [e, ih _ k (fun q hq => h q (List.mem_cons_of_mem _ hq)), upd_ne _ _ (fun c => h p (by simp) c.symm)]

theorem BL.ofFlat {cs : List V} {vs : List Value} (hl : RL noRen pin cs vs) (hn : ∀ v ∈ cs, NoRef v) : BL pin w cs vs (List.replicate cs.length []) :=
  ⟨hl.len, by simp, fun j v c o hv hc ho => by
    have : o = [] := by
      have := List.mem_of_getElem? ho
      exact List.eq_of_mem_replicate this
    subst this
    exact .flat v c (hn v (List.mem_of_getElem? hv)) (hl.at_ j v c hv hc)⟩
theorem flatten_replicate_nil (n : Nat) : (List.replicate n ([] : List Nat)).flatten = [] := by
  induction n with
  | zero => rfl
  | succ n ih => simp [List.replicate_succ, ih]
theorem NoRef.bone {v : V} (h : v.one = true) : v.bone = true := by cases v <;> first | rfl | (simp [V.one] at h; done)
theorem B.agg_inv {cs : List V} {c : Value} {os : List Nat} (h : B pin w (.agg cs) c os) : ∃ arr os', c = .agg arr ∧ BL pin w cs arr.toList os' ∧ os = os'.flatten ∧ ∀ v ∈ cs, v.bone = true := by
  cases h with
  | flat _ _ hn hr =>
    cases hn with
    | agg _ hn => cases hr with
      | agg _ arr hl h1 hh => exact ⟨arr, _, rfl, BL.ofFlat (RL.ofArr hl hh) hn, (flatten_replicate_nil _).symm, fun v hv => NoRef.bone (h1 v hv)⟩
  | agg _ arr os' hl ho h1 hh => exact ⟨arr, os', rfl, ⟨by simpa using hl, ho, fun j v c o hv hc hoo => hh j v c o hv (by simpa using hc) hoo⟩, rfl, h1⟩
theorem B.tup_inv {cs : List V} {c : Value} {os : List Nat} (h : B pin w (.tup cs) c os) : ∃ arr os', c = .tuple arr ∧ BL pin w cs arr.toList os' ∧ os = os'.flatten := by
  cases h with
  | flat _ _ hn hr =>
    cases hn with
    | tup _ hn => cases hr with
      | tup _ arr hl hh => exact ⟨arr, _, rfl, BL.ofFlat (RL.ofArr hl hh) hn, (flatten_replicate_nil _).symm⟩
  | tup _ arr os' hl ho hh => exact ⟨arr, os', rfl, ⟨by simpa using hl, ho, fun j v c o hv hc hoo => hh j v c o hv (by simpa using hc) hoo⟩, rfl⟩
theorem B.fn_inv {f : Nat} {cs : List V} {c : Value} {os : List Nat} (h : B pin w (.fn f cs) c os) : ∃ arr os', c = .func (.func f) #[] arr ∧ BL pin w cs arr.toList os' ∧ os = os'.flatten := by
  cases h with
  | flat _ _ hn hr =>
    cases hn with
    | fn _ _ hn => cases hr with
      | fn _ _ arr hl hh => exact ⟨arr, _, rfl, BL.ofFlat (RL.ofArr hl hh) hn, (flatten_replicate_nil _).symm⟩
  | fn _ _ arr os' hl ho hh => exact ⟨arr, os', rfl, ⟨by simpa using hl, ho, fun j v c o hv hc hoo => hh j v c o hv (by simpa using hc) hoo⟩, rfl⟩

/-- What is asked of the rows that come over a border. -/
def Free (w0 : World) (S0 : Terr) (ρ : Ren) (pin : Pin) (σ : Store) (os : List Nat) : Prop := os.Nodup ∧ ∀ b ∈ os, pin b = none ∧ (S0 b ∨ w0.heap.size ≤ b) ∧ ¬ Used ρ σ b

/-- What comes of it. -/
structure Came (w0 : World) (S0 : Terr) (ρ : Ren) (pin : Pin) (σ : Store) (w : World) (os : List Nat) (k k' : Nat) (wr : List (Nat × Blk)) (ρ' : Ren) : Prop where
  ext : RExt ρ ρ'
  sim : Sim w0 S0 ρ' pin (upds σ wr) w
  used : ∀ b, Used ρ' (upds σ wr) b → b ∈ os ∨ Used ρ σ b
  le : k ≤ k'
  keys : ∀ p ∈ wr, k ≤ p.1 ∧ p.1 < k'

theorem mat_list {f : Nat → V → Option (V × List (Nat × Blk) × Nat)} {τ : Store}
    (hf : ∀ {k : Nat} {v x : V} {wr : List (Nat × Blk)} {k' : Nat} {c : Value} {os : List Nat} {ρ : Ren} {σ : Store}, f k v = some (x, wr, k') → Sim w0 S0 ρ pin σ w → B pin w v c os → Free w0 S0 ρ pin σ os → (∀ j, k ≤ j → (σ j).gen = (τ j).gen) →
      ∃ ρ', Came w0 S0 ρ pin σ w os k k' wr ρ' ∧ R ρ' pin x c ∧ x.one = v.bone) :
    ∀ {cs ys : List V} {k k' : Nat} {wr : List (Nat × Blk)} {vs : List Value} {os : List (List Nat)} {ρ : Ren} {σ : Store}, mapM' f k cs = some (ys, wr, k') → Sim w0 S0 ρ pin σ w → BL pin w cs vs os → Free w0 S0 ρ pin σ os.flatten → (∀ j, k ≤ j → (σ j).gen = (τ j).gen) →
      ∃ ρ', Came w0 S0 ρ pin σ w os.flatten k k' wr ρ' ∧ RL ρ' pin ys vs ∧ ((∀ v ∈ cs, v.bone = true) → ∀ y ∈ ys, y.one = true) ∧ ys.length = cs.length := by
  intro cs
  induction cs with
  | nil =>
    intro ys k k' wr vs os ρ σ h hS hl _ _
    simp only [mapM', Option.some.injEq, Prod.mk.injEq] at h
    obtain ⟨rfl, rfl, rfl⟩ := h
    have h1 := hl.len
    have h2 := hl.olen
    cases vs with
    | cons _ _ => simp at h1
    | nil => cases os with
      | cons _ _ => simp at h2
      | nil => exact ⟨ρ, ⟨RExt.refl _, hS, fun b hb => .inr hb, Nat.le_refl _, by simp⟩, RL.nil, by simp, rfl⟩
  | cons v cs ih =>
    intro ys k k' wr vs os ρ σ h hS hl hfr hg
    simp only [mapM', Option.bind_eq_some_iff] at h
    obtain ⟨⟨y, w1, k1⟩, h1, ⟨ys', w2, k2⟩, h2, h⟩ := h
    simp only [Option.some.injEq, Prod.mk.injEq] at h
    obtain ⟨rfl, rfl, rfl⟩ := h
    obtain ⟨c, vs', o, os', rfl, rfl, b1, b2⟩ := hl.inv
    simp only [List.flatten_cons] at hfr ⊢
    obtain ⟨hnd, hfr⟩ := hfr
    rw [List.nodup_append] at hnd
    obtain ⟨ρ1, C1, r1, one1⟩ := hf h1 hS b1 ⟨hnd.1, fun b hb => hfr b (List.mem_append_left _ hb)⟩ hg
    have out1 : ∀ j, k1 ≤ j → upds σ w1 j = σ j := fun j hj => upds_out _ _ _ (fun p hp c => by have := (C1.keys p hp).2; omega)
    obtain ⟨ρ2, C2, r2, one2, len2⟩ := ih h2 C1.sim b2 ⟨hnd.2.1, fun b hb => ⟨(hfr b (List.mem_append_right _ hb)).1, (hfr b (List.mem_append_right _ hb)).2.1, fun hu => (C1.used b hu).elim (fun hbo => hnd.2.2 b hbo b hb rfl) (hfr b (List.mem_append_right _ hb)).2.2⟩⟩
      (fun j hj => by rw [out1 j hj]; exact hg j (Nat.le_trans C1.le hj))
    refine ⟨ρ2, ⟨C1.ext.trans C2.ext, by rw [upds_append]; exact C2.sim, fun b hb => ?_, Nat.le_trans C1.le C2.le, fun p hp => ?_⟩, RL.cons (r1.mono C2.ext (PExt.refl _)) r2, fun hb y' hy' => ?_, by simp [len2]⟩
    · rw [upds_append] at hb
      rcases C2.used b hb with h | h
      · exact .inl (List.mem_append_right _ h)
      · exact (C1.used b h).imp (List.mem_append_left _) id
    · rcases List.mem_append.1 hp with hp | hp
      · exact ⟨(C1.keys p hp).1, Nat.lt_of_lt_of_le (C1.keys p hp).2 C2.le⟩
      · exact ⟨Nat.le_trans C1.le (C2.keys p hp).1, (C2.keys p hp).2⟩
    · rcases List.mem_cons.1 hy' with rfl | hy'
      · rw [one1]; exact hb v (by simp)
      · exact one2 (fun v hv => hb v (List.mem_cons_of_mem _ hv)) y' hy'

theorem used_name {k g : Nat} {e : Ent} {bl : Blk} (hg : bl.gen = g) {b : Nat} (h : Used (setEnt ρ k g e) (upd σ k bl) b) : b = e.b ∨ ∃ j e', j ≠ k ∧ (σ j).st = .rw ∧ ρ j (σ j).gen = some e' ∧ e'.b = b := by
  obtain ⟨j, ej, h1, h2, h3⟩ := h
  by_cases hj : j = k
  · subst hj
    rw [upd_same] at h1 h2
    rw [hg, setEnt_same] at h2
    cases h2
    exact .inl h3.symm
  · rw [upd_ne _ _ hj] at h1 h2
    rw [setEnt_ne _ _ (.inl hj)] at h2
    exact .inr ⟨j, ej, hj, h1, h2, h3⟩

theorem mat_sound (τ : Store) : ∀ (d : Nat) {k : Nat} {v x : V} {wr : List (Nat × Blk)} {k' : Nat} {c : Value} {os : List Nat} {ρ : Ren} {σ : Store}, matV τ d k v = some (x, wr, k') → Sim w0 S0 ρ pin σ w → B pin w v c os → Free w0 S0 ρ pin σ os → (∀ j, k ≤ j → (σ j).gen = (τ j).gen) →
    ∃ ρ', Came w0 S0 ρ pin σ w os k k' wr ρ' ∧ R ρ' pin x c ∧ x.one = v.bone
  | 0, k, v, x, wr, k', c, os, ρ, σ, h, _, _, _, _ => by simp [matV] at h
  | d + 1, k, v, x, wr, k', c, os, ρ, σ, h, hS, hB, hfr, hg => by
    have flat : ∀ {v : V}, B pin w v c os → NoRef v → v.one = v.bone → (∀ cs, v ≠ .agg cs) → (∀ cs, v ≠ .tup cs) → (∀ f cs, v ≠ .fn f cs) → x = v → wr = [] → k' = k → ∃ ρ', Came w0 S0 ρ pin σ w os k k' wr ρ' ∧ R ρ' pin x c ∧ x.one = v.bone := by
      rintro v hB hn hone hna hnt hnf rfl rfl rfl
      cases hB with
      | flat _ _ _ hr => exact ⟨ρ, ⟨RExt.refl _, hS, fun b hb => .inr hb, Nat.le_refl _, by simp⟩, hr.noref hn, hone⟩
      | agg cs => exact absurd rfl (hna cs)
      | tup cs => exact absurd rfl (hnt cs)
      | fn f cs => exact absurd rfl (hnf f cs)
      | opt => cases hn
      | osl => cases hn
      | omp => cases hn
    cases v with
    | int ki n => simp only [matV, Option.some.injEq, Prod.mk.injEq] at h; exact flat hB (.int _ _) rfl (by simp) (by simp) (by simp) h.1.symm h.2.1.symm h.2.2.symm
    | bool b => simp only [matV, Option.some.injEq, Prod.mk.injEq] at h; exact flat hB (.bool _) rfl (by simp) (by simp) (by simp) h.1.symm h.2.1.symm h.2.2.symm
    | str s => simp only [matV, Option.some.injEq, Prod.mk.injEq] at h; exact flat hB (.str _) rfl (by simp) (by simp) (by simp) h.1.symm h.2.1.symm h.2.2.symm
    | nilp => simp only [matV, Option.some.injEq, Prod.mk.injEq] at h; exact flat hB .nilp rfl (by simp) (by simp) (by simp) h.1.symm h.2.1.symm h.2.2.symm
    | nilfn => simp only [matV, Option.some.injEq, Prod.mk.injEq] at h; exact flat hB .nilfn rfl (by simp) (by simp) (by simp) h.1.symm h.2.1.symm h.2.2.symm
    | sl ki n cs => simp only [matV, Option.some.injEq, Prod.mk.injEq] at h; exact flat hB (.sl _ _ _) rfl (by simp) (by simp) (by simp) h.1.symm h.2.1.symm h.2.2.symm
    | pt cs o => simp only [matV, Option.some.injEq, Prod.mk.injEq] at h; exact flat hB (.pt _ _) rfl (by simp) (by simp) (by simp) h.1.symm h.2.1.symm h.2.2.symm
    | ptr id g off => simp [matV] at h
    | sli id g off n e => simp [matV] at h
    | mp id g => simp [matV] at h
    | itm => simp [matV] at h
    | mth => simp [matV] at h
    | mcell es => simp [matV] at h
    | nilm => simp only [matV, Option.some.injEq, Prod.mk.injEq] at h; exact flat hB .nilm rfl (by simp) (by simp) (by simp) h.1.symm h.2.1.symm h.2.2.symm
    | junk => simp only [matV, Option.some.injEq, Prod.mk.injEq] at h; exact flat hB .junk rfl (by simp) (by simp) (by simp) h.1.symm h.2.1.symm h.2.2.symm
    | rmp es => simp only [matV, Option.some.injEq, Prod.mk.injEq] at h; exact flat hB (.rmp _) rfl (by simp) (by simp) (by simp) h.1.symm h.2.1.symm h.2.2.symm
    | omp es =>
      simp only [matV, Option.some.injEq, Prod.mk.injEq] at h
      obtain ⟨rfl, rfl, rfl⟩ := h
      cases hB with
      | flat _ _ hn _ => cases hn
      | omp _ b arr clock hrow hE =>
        obtain ⟨hnd, hfr⟩ := hfr
        obtain ⟨f1, f2, f3⟩ := hfr b (by simp)
        have hname := hS.nameM k es ⟨b, 0, 1, 1, true⟩ arr clock rfl hrow hE rfl f2 f1 (fun j ej _ hj hej hcc => f3 ⟨j, ej, hj, hej, hcc⟩)
        have hx := setEnt_ext ρ k ((σ k).gen + 1) ⟨b, 0, 1, 1, true⟩ (hS.fresh k)
        rw [hg k (Nat.le_refl _)] at hname hx
        refine ⟨_, ⟨hx, by rw [upds_one]; exact hname, fun b' hb' => ?_, by omega, fun p hp => ?_⟩, ?_, rfl⟩
        · rw [upds_one] at hb'
          rcases used_name rfl hb' with h | ⟨j, ej, hj, q1, q2, q3⟩
          · exact .inl (by rw [h]; simp)
          · exact .inr ⟨j, ej, q1, q2, q3⟩
        · simp at hp; subst hp; exact ⟨Nat.le_refl _, by simp⟩
        · exact .mp k _ ⟨b, 0, 1, 1, true⟩ (setEnt_same _ _ _ _) rfl
    | agg cs =>
      simp only [matV, Option.map_eq_some_iff] at h
      obtain ⟨⟨ys, wr', k1⟩, hm, h⟩ := h
      simp only [Prod.mk.injEq] at h
      obtain ⟨rfl, rfl, rfl⟩ := h
      obtain ⟨arr, os', rfl, hl, rfl, hb⟩ := hB.agg_inv
      obtain ⟨ρ', C, r, one, len⟩ := mat_list (mat_sound τ d) hm hS hl hfr hg
      exact ⟨ρ', C, .agg ys arr (by simpa using r.len) (one hb) (fun j v c hv hc => r.at_ j v c hv (by simpa using hc)), rfl⟩
    | tup cs =>
      simp only [matV, Option.map_eq_some_iff] at h
      obtain ⟨⟨ys, wr', k1⟩, hm, h⟩ := h
      simp only [Prod.mk.injEq] at h
      obtain ⟨rfl, rfl, rfl⟩ := h
      obtain ⟨arr, os', rfl, hl, rfl⟩ := hB.tup_inv
      obtain ⟨ρ', C, r, one, len⟩ := mat_list (mat_sound τ d) hm hS hl hfr hg
      exact ⟨ρ', C, .tup ys arr (by simpa using r.len) (fun j v c hv hc => r.at_ j v c hv (by simpa using hc)), rfl⟩
    | fn f cs =>
      simp only [matV, Option.map_eq_some_iff] at h
      obtain ⟨⟨ys, wr', k1⟩, hm, h⟩ := h
      simp only [Prod.mk.injEq] at h
      obtain ⟨rfl, rfl, rfl⟩ := h
      obtain ⟨arr, os', rfl, hl, rfl⟩ := hB.fn_inv
      obtain ⟨ρ', C, r, one, len⟩ := mat_list (mat_sound τ d) hm hS hl hfr hg
      exact ⟨ρ', C, .fn f ys arr (by simpa using r.len) (fun j v c hv hc => r.at_ j v c hv (by simpa using hc)), rfl⟩
    | opt cs =>
      simp only [matV, Option.map_eq_some_iff] at h
      obtain ⟨⟨ys, wr', k1⟩, hm, h⟩ := h
      simp only [Prod.mk.injEq] at h
      obtain ⟨rfl, rfl, rfl⟩ := h
      cases hB with
      | flat _ _ hn _ => cases hn
      | opt _ b bs arr el fz os' hrow hu hfit ho h1 hh =>
        obtain ⟨hnd, hfr⟩ := hfr
        rw [List.nodup_cons] at hnd
        have hl : BL pin w cs ((arr.toList.drop bs).take cs.length) os' := ⟨by simp; omega, ho, fun j v c o hv hc hoo => hh j v c o hv (by
          rw [List.getElem?_take] at hc
          split at hc
          · rw [List.getElem?_drop] at hc; simpa using hc
          · cases hc) hoo⟩
        obtain ⟨ρ1, C, r, one, len⟩ := mat_list (mat_sound τ d) hm hS hl ⟨hnd.2, fun b hb => hfr b (List.mem_cons_of_mem _ hb)⟩ (fun j hj => hg j (by omega))
        have hk : upds σ wr' k = σ k := upds_out _ _ _ (fun p hp c => by have := (C.keys p hp).1; omega)
        obtain ⟨f1, f2, f3⟩ := hfr b (by simp)
        have hnu : ¬ Used ρ1 (upds σ wr') b := fun hu => (C.used b hu).elim hnd.1 f3
        have hname := C.sim.name k ys false ⟨b, bs, ys.length, arr.size, false⟩ arr el fz rfl hrow hu (Nat.le_refl _) (by show bs + ys.length ≤ arr.size; omega) rfl (one h1) (by simp) f2 f1 (fun j ej _ hj hej hc => hnu ⟨j, ej, hj, hej, hc⟩) (fun j v c hv hc => r.at_ j v c hv (by
          have hj : j < ys.length := by
            rcases Nat.lt_or_ge j ys.length with h' | h'
            · exact h'
            · rw [List.getElem?_eq_none h'] at hv; cases hv
          rw [List.getElem?_take, if_pos (by omega), List.getElem?_drop]
          simpa using hc))
        have hgk : (upds σ wr' k).gen = (τ k).gen := by rw [hk]; exact hg k (Nat.le_refl _)
        have hx := setEnt_ext ρ1 k ((upds σ wr' k).gen + 1) ⟨b, bs, ys.length, arr.size, false⟩ (C.sim.fresh k)
        rw [hgk] at hname hx
        refine ⟨_, ⟨C.ext.trans hx, by rw [upds_append, upds_one]; exact hname, fun b' hb' => ?_, by have := C.le; omega, fun p hp => ?_⟩, ?_, rfl⟩
        · rw [upds_append, upds_one] at hb'
          rcases used_name rfl hb' with h | ⟨j, ej, hj, q1, q2, q3⟩
          · exact .inl (by rw [h]; simp)
          · exact (C.used b' ⟨j, ej, q1, q2, q3⟩).imp (List.mem_cons_of_mem _) id
        · rcases List.mem_append.1 hp with hp | hp
          · have := C.keys p hp; exact ⟨by omega, this.2⟩
          · simp at hp; subst hp; have := C.le; exact ⟨Nat.le_refl _, by show k < k1; omega⟩
        · exact .ptr k _ 0 _ (setEnt_same _ _ _ _) rfl
    | osl esz n cs =>
      simp only [matV, Option.some.injEq, Prod.mk.injEq] at h
      obtain ⟨rfl, rfl, rfl⟩ := h
      cases hB with
      | flat _ _ hn _ => cases hn
      | osl _ _ cap _ ad b bs arr el fz hrow hu hfit hn hc hlen h1 hh =>
        obtain ⟨hnd, hfr⟩ := hfr
        obtain ⟨f1, f2, f3⟩ := hfr b (by simp)
        have hname := hS.name k cs true ⟨b, bs, cs.length, arr.size, false⟩ arr el fz rfl hrow hu (Nat.le_refl _) hfit rfl (fun v hv => (h1 v hv).1) (fun _ v hv => (h1 v hv).2) f2 f1 (fun j ej _ hj hej hcc => f3 ⟨j, ej, hj, hej, hcc⟩) (fun j v c hv hcc => (hh j v c hv hcc).noref (h1 v (List.mem_of_getElem? hv)).2)
        have hx := setEnt_ext ρ k ((σ k).gen + 1) ⟨b, bs, cs.length, arr.size, false⟩ (hS.fresh k)
        rw [hg k (Nat.le_refl _)] at hname hx
        refine ⟨_, ⟨hx, by rw [upds_one]; exact hname, fun b' hb' => ?_, by omega, fun p hp => ?_⟩, ?_, rfl⟩
        · rw [upds_one] at hb'
          rcases used_name rfl hb' with h | ⟨j, ej, hj, q1, q2, q3⟩
          · exact .inl (by rw [h]; simp)
          · exact .inr ⟨j, ej, q1, q2, q3⟩
        · simp at hp; subst hp; exact ⟨Nat.le_refl _, by simp⟩
        · exact .sli k _ 0 n esz cap _ ad (setEnt_same _ _ _ _) rfl hn (fun h0 => ⟨(hc h0).1, by have := (hc h0).2; show bs + 0 + cap * esz ≤ arr.size; omega⟩) (by show cs.length ≤ 0 + cap * esz; omega)
end Go.Vm
