/- Values told by value to be read alone, and blocks that become such. -/
import Derived.Test.YtmcbceppgaljnaaVmOps4
set_option linter.unusedSectionVars false
set_option linter.unusedSimpArgs false
set_option linter.unusedVariables false
namespace Go.Vm
variable {P : Program} {w0 w : World} {S0 : Terr} {ρ : Ren} {pin : Pin} {σ : Store} {a : Act} {t : Nat → V}

theorem mapQ_spec {f : V → Option (V × List Nat)} : ∀ {l : List V} {ys : List V} {js : List Nat}, mapQ f l = some (ys, js) →
    ys.length = l.length ∧ (∀ (j : Nat) (x y : V), l[j]? = some x → ys[j]? = some y → ∃ is, f x = some (y, is) ∧ ∀ i ∈ is, i ∈ js)
  | [], ys, js, h => by cases h; exact ⟨rfl, fun j x y hx => by simp at hx⟩
  | x :: l, ys, js, h => by
    simp only [mapQ, Option.bind_eq_some_iff] at h
    obtain ⟨⟨y, is⟩, hy, ⟨ys', js'⟩, hys, h⟩ := h
    simp only [Option.some.injEq, Prod.mk.injEq] at h
    obtain ⟨rfl, rfl⟩ := h
    obtain ⟨h1, h2⟩ := mapQ_spec hys
    refine ⟨by simp [h1], fun j u v hu hv => ?_⟩
    cases j with
    | zero =>
      simp at hu hv
      subst hu; subst hv
      exact ⟨is, hy, fun i hi => List.mem_append_left _ hi⟩
    | succ j =>
      obtain ⟨is', k1, k2⟩ := h2 j u v (by simpa using hu) (by simpa using hv)
      exact ⟨is', k1, fun i hi => List.mem_append_right _ (k2 i hi)⟩

/-- The blocks of some numbers are pinned. -/
def PinsAll (ρ : Ren) (σ : Store) (w : World) (pin : Pin) (ids : List Nat) : Prop := ∀ i ∈ ids, ∀ e, ρ i (σ i).gen = some e → ∃ o, w.heap[e.b]? = some o ∧ pin e.b = some o

theorem getElem?_of_lt_len {α β : Type} {l : List α} {m : List β} (h : l.length = m.length) {j : Nat} {y : β} (hy : m[j]? = some y) : ∃ x, l[j]? = some x := by
  have hlt : j < m.length := by
    rcases Nat.lt_or_ge j m.length with h' | h'
    · exact h'
    · rw [List.getElem?_eq_none h'] at hy; cases hy
  exact ⟨l[j], List.getElem?_eq_getElem (by omega)⟩

theorem roV_one (σ : Store) : ∀ (d : Nat) {v x : V} {is : List Nat}, roV σ d v = some (x, is) → x.one = v.one
  | 0, v, x, is, h => by simp [roV] at h
  | d + 1, v, x, is, h => by
    cases v <;> (try simp only [roV] at h)
    case sli id g off n esz =>
      split at h
      · split at h
        · cases h; rfl
        · simp only [Option.map_eq_some_iff] at h; obtain ⟨_, _, h⟩ := h; cases h; rfl
      · cases h
    case ptr id g off =>
      split at h
      · split at h
        · cases h; rfl
        · simp only [Option.map_eq_some_iff] at h; obtain ⟨_, _, h⟩ := h; cases h; rfl
      · cases h
    case mp id g =>
      split at h
      · split at h
        · cases h; rfl
        · cases h
      · cases h
    all_goals first
      | (cases h; rfl)
      | (simp [roV] at h; done)
      | (simp only [Option.map_eq_some_iff] at h; obtain ⟨_, _, h⟩ := h; cases h; rfl)

theorem roV_sound (hS : Sim w0 S0 ρ pin σ w) {pin2 : Pin} (hp : PExt pin pin2) : ∀ (d : Nat) {v x : V} {is : List Nat} {c : Value}, roV σ d v = some (x, is) → PinsAll ρ σ w pin2 is → R ρ pin v c →
    R ρ pin2 x c ∧ NoRef x ∧ ∀ i ∈ is, (σ i).st ≠ .dead
  | 0, v, x, is, c, h, _, _ => by simp [roV] at h
  | d + 1, v, x, is, c, h, hpi, hR => by
    have list : ∀ {cs : List V} {vs : List Value} {ys : List V} {js : List Nat}, mapQ (roV σ d) cs = some (ys, js) → (∀ i ∈ js, i ∈ is) → RL ρ pin cs vs → RL ρ pin2 ys vs ∧ (∀ y ∈ ys, NoRef y) ∧ (∀ y ∈ ys, (∀ v ∈ cs, v.one = true) → y.one = true) ∧ ys.length = cs.length := by
      intro cs vs ys js hm hsub hl
      obtain ⟨q1, q2⟩ := mapQ_spec hm
      have key : ∀ (j : Nat) (y : V) (c : Value), ys[j]? = some y → vs[j]? = some c → R ρ pin2 y c ∧ NoRef y := fun j y c hy hc => by
        obtain ⟨v, hv⟩ := getElem?_of_lt_len q1.symm hy
        obtain ⟨is', k1, k2⟩ := q2 j v y hv hy
        obtain ⟨m1, m2, _⟩ := roV_sound hS hp d k1 (fun i hi e he => hpi i (hsub i (k2 i hi)) e he) (hl.at_ j v c hv hc)
        exact ⟨m1, m2⟩
      refine ⟨⟨q1.trans hl.len, fun j y c hy hc => (key j y c hy hc).1⟩, fun y hy => ?_, fun y hy h1 => ?_, q1⟩
      · obtain ⟨j, hj⟩ := List.getElem?_of_mem hy
        obtain ⟨c, hc⟩ := getElem?_of_lt_len (q1.trans hl.len).symm hj
        exact (key j y c hj hc).2
      · obtain ⟨j, hj⟩ := List.getElem?_of_mem hy
        obtain ⟨v, hv⟩ := getElem?_of_lt_len q1.symm hj
        obtain ⟨is', k1, _⟩ := q2 j v y hv hj
        rw [roV_one σ d k1]
        exact h1 v (List.mem_of_getElem? hv)
    have mem : ∀ {cs : List V} {vs : List Value} {ys : List V} {js : List Nat}, mapQ (roV σ d) cs = some (ys, js) → (∀ i ∈ js, i ∈ is) → RL ρ pin cs vs → ∀ i ∈ js, (σ i).st ≠ .dead := by
      intro cs
      induction cs with
      | nil => intro vs ys js hm _ _; simp only [mapQ, Option.some.injEq, Prod.mk.injEq] at hm; obtain ⟨_, rfl⟩ := hm; simp
      | cons v cs ih =>
        intro vs ys js hm hsub hl
        simp only [mapQ, Option.bind_eq_some_iff] at hm
        obtain ⟨⟨y, i1⟩, hy, ⟨ys', j1⟩, hys, hm⟩ := hm
        simp only [Option.some.injEq, Prod.mk.injEq] at hm
        obtain ⟨_, rfl⟩ := hm
        cases vs with
        | nil => have := hl.len; simp at this
        | cons c vs =>
          obtain ⟨l1, l2⟩ := hl.inv
          obtain ⟨_, _, m3⟩ := roV_sound hS hp d hy (fun i hi e he => hpi i (hsub i (List.mem_append_left _ hi)) e he) l1
          intro i hi
          rcases List.mem_append.1 hi with hi | hi
          · exact m3 i hi
          · exact ih hys (fun i hi => hsub i (List.mem_append_right _ hi)) l2 i hi
    cases v with
    | int k n => simp only [roV, Option.some.injEq, Prod.mk.injEq] at h; obtain ⟨rfl, rfl⟩ := h; exact ⟨hR.mono (RExt.refl _) hp, .int _ _, by simp⟩
    | bool b => simp only [roV, Option.some.injEq, Prod.mk.injEq] at h; obtain ⟨rfl, rfl⟩ := h; exact ⟨hR.mono (RExt.refl _) hp, .bool _, by simp⟩
    | str s => simp only [roV, Option.some.injEq, Prod.mk.injEq] at h; obtain ⟨rfl, rfl⟩ := h; exact ⟨hR.mono (RExt.refl _) hp, .str _, by simp⟩
    | nilp => simp only [roV, Option.some.injEq, Prod.mk.injEq] at h; obtain ⟨rfl, rfl⟩ := h; exact ⟨hR.mono (RExt.refl _) hp, .nilp, by simp⟩
    | nilfn => simp only [roV, Option.some.injEq, Prod.mk.injEq] at h; obtain ⟨rfl, rfl⟩ := h; exact ⟨hR.mono (RExt.refl _) hp, .nilfn, by simp⟩
    | sl k n cs => simp only [roV, Option.some.injEq, Prod.mk.injEq] at h; obtain ⟨rfl, rfl⟩ := h; exact ⟨hR.mono (RExt.refl _) hp, .sl _ _ _, by simp⟩
    | pt cs o => simp only [roV, Option.some.injEq, Prod.mk.injEq] at h; obtain ⟨rfl, rfl⟩ := h; exact ⟨hR.mono (RExt.refl _) hp, .pt _ _, by simp⟩
    | opt cs => simp [roV] at h
    | osl e n cs => simp [roV] at h
    | omp es => simp [roV] at h
    | mcell es => simp [roV] at h
    | nilm => simp only [roV, Option.some.injEq, Prod.mk.injEq] at h; obtain ⟨rfl, rfl⟩ := h; exact ⟨hR.mono (RExt.refl _) hp, .nilm, by simp⟩
    | itm => simp [roV] at h
    | mth => simp [roV] at h
    | junk => simp only [roV, Option.some.injEq, Prod.mk.injEq] at h; obtain ⟨rfl, rfl⟩ := h; exact ⟨hR.mono (RExt.refl _) hp, .junk, by simp⟩
    | rmp es => simp only [roV, Option.some.injEq, Prod.mk.injEq] at h; obtain ⟨rfl, rfl⟩ := h; exact ⟨hR.mono (RExt.refl _) hp, .rmp _, by simp⟩
    | mp id g =>
      simp only [roV] at h
      split at h
      case isFalse => cases h
      rename_i hc
      cases hR with
      | mp _ _ e he hm =>
        obtain ⟨e', he', L⟩ := hS.live id hc.2
        rw [hc.1, he] at he'
        cases he'
        obtain ⟨es, arr, clock, k1, k2, k3, k4⟩ := L.ents hm
        rw [k1] at h
        simp only [Option.some.injEq, Prod.mk.injEq] at h
        obtain ⟨rfl, rfl⟩ := h
        obtain ⟨o, po, pp⟩ := hpi id (by simp) e (by rw [hc.1]; exact he)
        rw [k2] at po
        cases po
        exact ⟨.rmp es e.b arr clock pp k3, .rmp _, fun i hi => by simp at hi; subst hi; exact hc.2⟩
    | agg cs =>
      simp only [roV, Option.map_eq_some_iff] at h
      obtain ⟨⟨ys, js⟩, hm, h⟩ := h
      simp only [Prod.mk.injEq] at h
      obtain ⟨rfl, rfl⟩ := h
      cases hR with
      | agg _ arr hl h1 hh =>
        have hl' := RL.ofArr hl hh
        obtain ⟨k1, k2, k3, k4⟩ := list hm (fun i hi => hi) hl'
        exact ⟨.agg ys arr (by simpa using k1.len) (fun y hy => k3 y hy h1) (fun j y c hy hc => k1.at_ j y c hy (by simpa using hc)), .agg ys k2, mem hm (fun i hi => hi) hl'⟩
    | tup cs =>
      simp only [roV, Option.map_eq_some_iff] at h
      obtain ⟨⟨ys, js⟩, hm, h⟩ := h
      simp only [Prod.mk.injEq] at h
      obtain ⟨rfl, rfl⟩ := h
      cases hR with
      | tup _ arr hl hh =>
        have hl' := RL.ofArr hl hh
        obtain ⟨k1, k2, k3, k4⟩ := list hm (fun i hi => hi) hl'
        exact ⟨.tup ys arr (by simpa using k1.len) (fun j y c hy hc => k1.at_ j y c hy (by simpa using hc)), .tup ys k2, mem hm (fun i hi => hi) hl'⟩
    | fn f cs =>
      simp only [roV, Option.map_eq_some_iff] at h
      obtain ⟨⟨ys, js⟩, hm, h⟩ := h
      simp only [Prod.mk.injEq] at h
      obtain ⟨rfl, rfl⟩ := h
      cases hR with
      | fn _ _ arr hl hh =>
        have hl' := RL.ofArr hl hh
        obtain ⟨k1, k2, k3, k4⟩ := list hm (fun i hi => hi) hl'
        exact ⟨.fn f ys arr (by simpa using k1.len) (fun j y c hy hc => k1.at_ j y c hy (by simpa using hc)), .fn f ys k2, mem hm (fun i hi => hi) hl'⟩
    | sli id g off n esz =>
      simp only [roV] at h
      split at h
      case isFalse => cases h
      rename_i hc
      cases hR with
      | sli _ _ _ _ _ cap e adr he hm hn hcap hlen =>
        obtain ⟨arr, el, fz, r1, r2, r3, r4, r5, r6, r7, r8, r9⟩ := hS.rowOf hc.1 hc.2.1 he hm
        have hrow := RL.ofRow (cs := (σ id).cells) r5 r6
        have hcut := (hrow.drop off).take (n * esz)
        rw [drop_take_drop _ _ _ _ _ (by omega)] at hcut
        have one' : ∀ v ∈ ((σ id).cells.drop off).take (n * esz), v.one = true := fun v hv => r7 v (List.mem_of_mem_drop (List.mem_of_mem_take hv))
        have fin : ∀ (ys : List V), ys.length = (((σ id).cells.drop off).take (n * esz)).length → RL ρ pin2 ys ((arr.toList.drop (e.base + off)).take (n * esz)) → (∀ y ∈ ys, NoRef y) → (∀ y ∈ ys, y.one = true) → id ∈ is → R ρ pin2 (.sl .ro n ys) (.slice (some adr) n cap) := by
          intro ys hlen' hl hno hone hid
          obtain ⟨o, po, pp⟩ := hpi id hid e (by rw [hc.1]; exact he)
          rw [r1] at po
          cases po
          refine .slro n ys adr cap arr el fz hn (fun h0 => ?_) (fun h0 => ?_) (fun y hy => ⟨hone y hy, hno y hy⟩) ?_
          · subst h0; simp at hlen'; exact hlen'
          · obtain ⟨rfl, q⟩ := hcap (by omega)
            refine ⟨rfl, pp, ?_⟩
            show e.base + off + ys.length ≤ arr.size
            rw [hlen']
            simp
            omega
          · intro j y cc hy hcc
            by_cases h0 : cap = 0
            · obtain rfl : n = 0 := by omega
              simp at hlen'
              rw [hlen'] at hy
              simp at hy
            · obtain ⟨rfl, q⟩ := hcap h0
              refine hl.at_ j y cc hy ?_
              have hj : j < n * esz := by
                have : j < ys.length := by
                  rcases Nat.lt_or_ge j ys.length with h' | h'
                  · exact h'
                  · rw [List.getElem?_eq_none h'] at hy; cases hy
                rw [hlen'] at this
                simp at this
                omega
              rw [List.getElem?_take, if_pos hj, List.getElem?_drop]
              simpa using hcc
        split at h
        · rename_i harr
          simp only [Option.some.injEq, Prod.mk.injEq] at h
          obtain ⟨rfl, rfl⟩ := h
          refine ⟨fin _ rfl (hcut.mono (RExt.refl _) hp) (fun y hy => r8 harr y (List.mem_of_mem_drop (List.mem_of_mem_take hy))) one' (by simp), .sl _ _ _, fun i hi => ?_⟩
          simp at hi; subst hi; exact hc.2.1
        · simp only [Option.map_eq_some_iff] at h
          obtain ⟨⟨ys, js⟩, hm, h⟩ := h
          simp only [Prod.mk.injEq] at h
          obtain ⟨rfl, rfl⟩ := h
          obtain ⟨k1, k2, k3, k4⟩ := list hm (fun i hi => List.mem_cons_of_mem _ hi) hcut
          refine ⟨fin ys k4 k1 k2 (fun y hy => k3 y hy one') (by simp), .sl _ _ _, fun i hi => ?_⟩
          rcases List.mem_cons.1 hi with rfl | hi
          · exact hc.2.1
          · exact mem hm (fun i hi => List.mem_cons_of_mem _ hi) hcut i hi
    | ptr id g off =>
      simp only [roV] at h
      split at h
      case isFalse => cases h
      rename_i hc
      cases hR with
      | ptr _ _ _ e he hm =>
        obtain ⟨arr, el, fz, r1, r2, r3, r4, r5, r6, r7, r8, r9⟩ := hS.rowOf hc.1 hc.2 he hm
        have hrow := RL.ofRow (cs := (σ id).cells) r5 r6
        have fin : ∀ (ys : List V), ys.length = (σ id).cells.length → RL ρ pin2 ys ((arr.toList.drop e.base).take (σ id).cells.length) → (∀ y ∈ ys, NoRef y) → (∀ y ∈ ys, y.one = true) → id ∈ is → R ρ pin2 (.pt ys off) (.pointer (some ⟨e.b, e.base + off, none⟩)) := by
          intro ys hlen' hl hno hone hid
          obtain ⟨o, po, pp⟩ := hpi id hid e (by rw [hc.1]; exact he)
          rw [r1] at po
          cases po
          refine .pt ys off e.b e.base arr el fz pp (by omega) (fun y hy => ⟨hone y hy, hno y hy⟩) fun j y cc hy hcc => hl.at_ j y cc hy ?_
          have hj : j < (σ id).cells.length := by
            rw [← hlen']
            rcases Nat.lt_or_ge j ys.length with h' | h'
            · exact h'
            · rw [List.getElem?_eq_none h'] at hy; cases hy
          rw [List.getElem?_take, if_pos hj, List.getElem?_drop]
          simpa using hcc
        split at h
        · rename_i harr
          simp only [Option.some.injEq, Prod.mk.injEq] at h
          obtain ⟨rfl, rfl⟩ := h
          refine ⟨fin _ rfl (hrow.mono (RExt.refl _) hp) (r8 harr) r7 (by simp), .pt _ _, fun i hi => ?_⟩
          simp at hi; subst hi; exact hc.2
        · simp only [Option.map_eq_some_iff] at h
          obtain ⟨⟨ys, js⟩, hm, h⟩ := h
          simp only [Prod.mk.injEq] at h
          obtain ⟨rfl, rfl⟩ := h
          obtain ⟨k1, k2, k3, k4⟩ := list hm (fun i hi => List.mem_cons_of_mem _ hi) hrow
          refine ⟨fin ys k4 k1 k2 (fun y hy => k3 y hy r7) (by simp), .pt _ _, fun i hi => ?_⟩
          rcases List.mem_cons.1 hi with rfl | hi
          · exact hc.2
          · exact mem hm (fun i hi => List.mem_cons_of_mem _ hi) hrow i hi

/-- Several values at once. -/
theorem roL_sound (hS : Sim w0 S0 ρ pin σ w) {pin2 : Pin} (hp : PExt pin pin2) (d : Nat) {cs ys : List V} {vs : List Value} {js : List Nat} (hm : mapQ (roV σ d) cs = some (ys, js)) (hpi : PinsAll ρ σ w pin2 js) (hl : RL ρ pin cs vs) :
    RL ρ pin2 ys vs ∧ (∀ y ∈ ys, NoRef y) ∧ ((∀ v ∈ cs, v.one = true) → ∀ y ∈ ys, y.one = true) ∧ ys.length = cs.length := by
  obtain ⟨q1, q2⟩ := mapQ_spec hm
  have key : ∀ (j : Nat) (y : V) (c : Value), ys[j]? = some y → vs[j]? = some c → R ρ pin2 y c ∧ NoRef y := fun j y c hy hc => by
    obtain ⟨v, hv⟩ := getElem?_of_lt_len q1.symm hy
    obtain ⟨is', k1, k2⟩ := q2 j v y hv hy
    obtain ⟨m1, m2, _⟩ := roV_sound hS hp d k1 (fun i hi e he => hpi i (k2 i hi) e he) (hl.at_ j v c hv hc)
    exact ⟨m1, m2⟩
  refine ⟨⟨q1.trans hl.len, fun j y c hy hc => (key j y c hy hc).1⟩, fun y hy => ?_, fun h1 y hy => ?_, q1⟩
  · obtain ⟨j, hj⟩ := List.getElem?_of_mem hy
    obtain ⟨c, hc⟩ := getElem?_of_lt_len (q1.trans hl.len).symm hj
    exact (key j y c hj hc).2
  · obtain ⟨j, hj⟩ := List.getElem?_of_mem hy
    obtain ⟨v, hv⟩ := getElem?_of_lt_len q1.symm hj
    obtain ⟨is', k1, _⟩ := q2 j v y hv hj
    rw [roV_one σ d k1]
    exact h1 v (List.mem_of_getElem? hv)

/-! ### Blocks met are alive -/
theorem roV_alive (σ : Store) : ∀ (d : Nat) {v x : V} {is : List Nat}, roV σ d v = some (x, is) → ∀ i ∈ is, (σ i).st ≠ .dead
  | 0, v, x, is, h => by simp [roV] at h
  | d + 1, v, x, is, h => by
    have mem : ∀ {cs ys : List V} {js : List Nat}, mapQ (roV σ d) cs = some (ys, js) → ∀ i ∈ js, (σ i).st ≠ .dead := by
      intro cs
      induction cs with
      | nil => intro ys js hm; simp only [mapQ, Option.some.injEq, Prod.mk.injEq] at hm; obtain ⟨_, rfl⟩ := hm; simp
      | cons v cs ih =>
        intro ys js hm
        simp only [mapQ, Option.bind_eq_some_iff] at hm
        obtain ⟨⟨y, i1⟩, hy, ⟨ys', j1⟩, hys, hm⟩ := hm
        simp only [Option.some.injEq, Prod.mk.injEq] at hm
        obtain ⟨_, rfl⟩ := hm
        intro i hi
        rcases List.mem_append.1 hi with hi | hi
        · exact roV_alive σ d hy i hi
        · exact ih hys i hi
    cases v <;> (try simp only [roV] at h)
    case sli id g off n esz =>
      split at h
      case isFalse => cases h
      rename_i hc
      split at h
      · cases h; intro i hi; simp at hi; subst hi; exact hc.2.1
      · simp only [Option.map_eq_some_iff] at h
        obtain ⟨⟨ys, js⟩, hm, h⟩ := h
        cases h
        intro i hi
        rcases List.mem_cons.1 hi with rfl | hi
        · exact hc.2.1
        · exact mem hm i hi
    case ptr id g off =>
      split at h
      case isFalse => cases h
      rename_i hc
      split at h
      · cases h; intro i hi; simp at hi; subst hi; exact hc.2
      · simp only [Option.map_eq_some_iff] at h
        obtain ⟨⟨ys, js⟩, hm, h⟩ := h
        cases h
        intro i hi
        rcases List.mem_cons.1 hi with rfl | hi
        · exact hc.2
        · exact mem hm i hi
    case mp id g =>
      split at h
      case isFalse => cases h
      rename_i hc
      split at h
      · cases h; intro i hi; simp at hi; subst hi; exact hc.2
      · cases h
    all_goals first
      | (cases h; intro i hi; simp at hi; done)
      | (simp [roV] at h; done)
      | (simp only [Option.map_eq_some_iff] at h; obtain ⟨⟨ys, js⟩, hm, h⟩ := h; cases h; exact mem hm)
theorem roL_alive (σ : Store) (d : Nat) : ∀ {cs ys : List V} {js : List Nat}, mapQ (roV σ d) cs = some (ys, js) → ∀ i ∈ js, (σ i).st ≠ .dead := by
  intro cs
  induction cs with
  | nil => intro ys js hm; simp only [mapQ, Option.some.injEq, Prod.mk.injEq] at hm; obtain ⟨_, rfl⟩ := hm; simp
  | cons v cs ih =>
    intro ys js hm
    simp only [mapQ, Option.bind_eq_some_iff] at hm
    obtain ⟨⟨y, i1⟩, hy, ⟨ys', j1⟩, hys, hm⟩ := hm
    simp only [Option.some.injEq, Prod.mk.injEq] at hm
    obtain ⟨_, rfl⟩ := hm
    intro i hi
    rcases List.mem_append.1 hi with hi | hi
    · exact roV_alive σ d hy i hi
    · exact ih hys i hi

/-- Freezing leaves all but what may be done. -/
theorem upds_fzs (σ : Store) : ∀ (is : List Nat) (k : Nat), upds σ (fzs σ is) k = if k ∈ is then { σ k with st := .fz } else σ k := by
  intro is
  have gen : ∀ (is : List Nat) (τ : Store), (∀ k, τ k = σ k ∨ τ k = { σ k with st := .fz }) → ∀ k, upds τ (fzs σ is) k = if k ∈ is then { σ k with st := .fz } else τ k := by
    intro is
    induction is with
    | nil => intro τ _ k; simp [fzs, upds]
    | cons i is ih =>
      intro τ hτ k
      have e : upds τ (fzs σ (i :: is)) = upds (upd τ i { σ i with st := .fz }) (fzs σ is) := rfl
      rw [e, ih _ (fun k => by
        by_cases hk : k = i
        · subst hk; rw [upd_same]; exact .inr rfl
        · rw [upd_ne _ _ hk]; exact hτ k)]
      by_cases h1 : k ∈ is
      · rw [if_pos h1, if_pos (List.mem_cons_of_mem _ h1)]
      · rw [if_neg h1]
        by_cases h2 : k = i
        · subst h2; rw [upd_same, if_pos (by simp)]
        · rw [upd_ne _ _ h2, if_neg (by simp [h1, h2])]
  exact gen is σ (fun _ => .inl rfl)
theorem Sim.congr {σ' : Store} (h : Sim w0 S0 ρ pin σ w) (e : ∀ k, σ' k = σ k) : Sim w0 S0 ρ pin σ' w := by
  have : σ' = σ := funext e
  rw [this]; exact h
theorem Sim.freeze (is : List Nat) : ∀ {pin : Pin} {σ : Store}, Sim w0 S0 ρ pin σ w → (∀ i ∈ is, (σ i).st ≠ .dead) → ∃ pin', PExt pin pin' ∧ Sim w0 S0 ρ pin' (upds σ (fzs σ is)) w ∧ PinsAll ρ σ w pin' is ∧ (∀ b o, pin' b = some o → pin b = some o ∨ Used ρ σ b) := by
  induction is with
  | nil => intro pin σ h _; exact ⟨pin, PExt.refl _, h, fun i hi => by simp at hi, fun b o hb => .inl hb⟩
  | cons i is ih =>
    intro pin σ h ha
    obtain ⟨p1, x1, h1, n1⟩ := h.freeze1 i (ha i (by simp))
    have al : ∀ j ∈ is, (upd σ i { σ i with st := .fz } j).st ≠ .dead := fun j hj => by
      by_cases hji : j = i
      · subst hji; rw [upd_same]; simp
      · rw [upd_ne _ _ hji]; exact ha j (List.mem_cons_of_mem _ hj)
    obtain ⟨p2, x2, h2, h3, n2⟩ := ih h1 al
    have kg : ∀ k, (upd σ i { σ i with st := .fz } k).gen = (σ k).gen := fun k => by
      by_cases hk : k = i
      · subst hk; rw [upd_same]
      · rw [upd_ne _ _ hk]
    refine ⟨p2, x1.trans x2, h2.congr fun k => ?_, fun j hj e he => ?_, fun b o hb => ?_⟩
    rotate_right
    · rcases n2 b o hb with hb | ⟨j, e, q1, q2, q3⟩
      · exact n1 b o hb
      · refine .inr ⟨j, e, ?_, ?_, q3⟩
        · by_cases hji : j = i
          · subst hji; rw [upd_same] at q1; cases q1
          · rw [upd_ne _ _ hji] at q1; exact q1
        · rw [kg] at q2; exact q2
    · rw [upds_fzs, upds_fzs]
      by_cases hk : k = i
      · subst hk
        rw [if_pos (by simp), upd_same]
        split <;> rfl
      · rw [upd_ne _ _ hk]
        simp [hk]
    · rcases List.mem_cons.1 hj with rfl | hj
      · have : (upd σ j { σ j with st := .fz } j).st = .fz := by rw [upd_same]
        obtain ⟨e', he', L⟩ := h1.live j (by rw [this]; decide)
        rw [kg, he] at he'
        cases he'
        obtain ⟨ob, r1, r6⟩ := L.obj
        exact ⟨_, r1, x2 _ _ (r6 this)⟩
      · exact h3 j hj e (by rw [kg]; exact he)
end Go.Vm
