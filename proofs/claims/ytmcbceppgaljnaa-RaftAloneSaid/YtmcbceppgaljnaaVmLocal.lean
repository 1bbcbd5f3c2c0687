/- An operation hangs on the slots that it looks at, and on the blocks that it reads and writes, alone. -/
import Derived.Test.YtmcbceppgaljnaaVmFn
set_option linter.unusedSectionVars false
set_option linter.unusedSimpArgs false
set_option linter.unusedVariables false
namespace Go.Vm
variable {σ σ' : Store} {t t' : Nat → V}

theorem flatMap_congr' {α β : Type} {f g : α → List β} : ∀ {l : List α}, (∀ x ∈ l, f x = g x) → l.flatMap f = l.flatMap g
  | [], _ => rfl
  | x :: l, h => by
    rw [List.flatMap_cons, List.flatMap_cons, h x (by simp), flatMap_congr' fun y hy => h y (List.mem_cons_of_mem _ hy)]
/-! ### Slots -/
theorem ev_congr {x : Opd} (h : ∀ k ∈ x.slots, t' k = t k) : x.ev t' = x.ev t := by
  cases x with
  | t i => exact h i (by simp [Opd.slots])
  | c v => rfl
theorem evO_congr {x : Option Opd} (h : ∀ k ∈ Opd.slotsO x, t' k = t k) : x.map (·.ev t') = x.map (·.ev t) := by
  cases x with
  | none => rfl
  | some x => exact congrArg some (ev_congr h)
theorem evL_congr {xs : List Opd} (h : ∀ k ∈ xs.flatMap Opd.slots, t' k = t k) : xs.map (·.ev t') = xs.map (·.ev t) := by
  apply List.map_congr_left
  intro x hx
  exact ev_congr fun k hk => h k (List.mem_flatMap.2 ⟨x, hx, hk⟩)
theorem evP_congr {ps : List (Nat × Nat × Opd)} (h : ∀ k ∈ ps.flatMap (fun p => p.2.2.slots), t' k = t k) : ps.map (fun p => (p.1, p.2.1, p.2.2.ev t')) = ps.map (fun p => (p.1, p.2.1, p.2.2.ev t)) := by
  apply List.map_congr_left
  intro x hx
  rw [ev_congr fun k hk => h k (List.mem_flatMap.2 ⟨x, hx, hk⟩)]

theorem insV_slots (tbl : Tbl) (base : Nat) (σ : Store) (i : Ins) (h : ∀ k ∈ i.slots, t' k = t k) : insV tbl base t' σ i = insV tbl base t σ i := by
  cases i
  case new z => rfl
  case mkm => rfl
  case mset kk x y z =>
    simp only [Ins.slots, List.mem_append] at h
    simp only [insV]
    rw [ev_congr (x := x) (fun k hk => h k (.inl (.inl hk))), ev_congr (x := y) (fun k hk => h k (.inl (.inr hk))), ev_congr (x := z) (fun k hk => h k (.inr hk))]
  case mk z ps => simp only [insV]; rw [evP_congr h]
  case mksl e l z ps => simp only [insV]; rw [evP_congr h]
  case clo f xs => simp only [insV]; rw [evL_congr h]
  case call f xs => simp only [insV]; rw [evL_congr h]
  case callv x xs =>
    simp only [Ins.slots, List.mem_append] at h
    simp only [insV]
    rw [evL_congr (fun k hk => h k (.inr hk)), ev_congr (fun k hk => h k (.inl hk))]
  case pick a b c =>
    simp only [Ins.slots, List.mem_append] at h
    simp only [insV]
    rw [ev_congr (x := a) (fun k hk => h k (.inl (.inl hk))), ev_congr (x := b) (fun k hk => h k (.inl (.inr hk))), ev_congr (x := c) (fun k hk => h k (.inr hk))]
  case slS x a b =>
    simp only [Ins.slots, List.mem_append] at h
    simp only [insV]
    rw [ev_congr (x := x) (fun k hk => h k (.inl (.inl hk))), evO_congr (x := a) (fun k hk => h k (.inl (.inr hk))), evO_congr (x := b) (fun k hk => h k (.inr hk))]
  case slA n e x a b =>
    simp only [Ins.slots, List.mem_append] at h
    simp only [insV]
    rw [ev_congr (x := x) (fun k hk => h k (.inl (.inl hk))), evO_congr (x := a) (fun k hk => h k (.inl (.inr hk))), evO_congr (x := b) (fun k hk => h k (.inr hk))]
  case slL e x a b c =>
    simp only [Ins.slots, List.mem_append] at h
    have e1 := ev_congr (x := x) (fun k hk => h k (.inl (.inl (.inl hk))))
    have e2 := evO_congr (x := a) (fun k hk => h k (.inl (.inl (.inr hk))))
    have e3 := evO_congr (x := b) (fun k hk => h k (.inl (.inr hk)))
    have e4 : ∀ m, c = some m → m.ev t' = m.ev t := fun m hm => ev_congr (fun k hk => h k (.inr (by rw [hm]; exact hk)))
    simp only [insV]
    rw [e1, e2, e3]
    cases c with
    | none => generalize x.ev t = v; cases v <;> rfl
    | some m =>
      have e5 := e4 m rfl
      generalize x.ev t = v
      cases v <;> first | rfl | (simp only [e5])
  all_goals first
    | (simp only [insV]; done)
    | (simp only [insV]; rw [ev_congr h]; done)
    | (simp only [Ins.slots, List.mem_append] at h
       rename_i x y
       simp only [insV]
       rw [ev_congr (x := x) (fun k hk => h k (.inl hk)), ev_congr (x := y) (fun k hk => h k (.inr hk))])

theorem rdV_slots (σ : Store) (i : Ins) (h : ∀ k ∈ i.slots, t' k = t k) : rdV t' σ i = rdV t σ i := by
  cases i
  case mksl e l z ps =>
    simp only [rdV]
    congr 1
    apply flatMap_congr'
    intro p hp
    rw [ev_congr fun k hk => h k (List.mem_flatMap.2 ⟨p, hp, hk⟩)]
  case call f xs =>
    simp only [rdV]
    apply flatMap_congr'
    intro x hx
    rw [ev_congr fun k hk => h k (List.mem_flatMap.2 ⟨x, hx, hk⟩)]
  case callv x xs =>
    simp only [Ins.slots, List.mem_append] at h
    simp only [rdV]
    rw [ev_congr (fun k hk => h k (.inl hk))]
    congr 1
    apply flatMap_congr'
    intro y hy
    rw [ev_congr fun k hk => h k (.inr (List.mem_flatMap.2 ⟨y, hy, hk⟩))]
  case mset kk x y z =>
    simp only [Ins.slots, List.mem_append] at h
    simp only [rdV]
    rw [ev_congr (x := x) (fun k hk => h k (.inl (.inl hk)))]
  case slA n e x a b =>
    simp only [Ins.slots, List.mem_append] at h
    simp only [rdV]
    rw [ev_congr (x := x) (fun k hk => h k (.inl (.inl hk)))]
  case slL e x a b c =>
    simp only [Ins.slots, List.mem_append] at h
    simp only [rdV]
    rw [ev_congr (x := x) (fun k hk => h k (.inl (.inl (.inl hk))))]
  all_goals first
    | rfl
    | (simp only [Ins.slots, List.mem_append] at h
       rename_i x y
       simp only [rdV]
       rw [ev_congr (x := x) (fun k hk => h k (.inl hk))]
       done)
    | (simp only [rdV]; rw [ev_congr h]; done)
    | (simp only [Ins.slots, List.mem_append] at h
       rename_i x y
       simp only [rdV]
       rw [ev_congr (x := x) (fun k hk => h k (.inl hk)), ev_congr (x := y) (fun k hk => h k (.inr hk))])

/-! ### Blocks -/
theorem vis_local : ∀ (d : Nat) {v : V}, (∀ k ∈ visV σ d v, σ' k = σ k) → visV σ' d v = visV σ d v
  | 0, _, _ => rfl
  | d + 1, v, h => by
    have list : ∀ {cs : List V}, (∀ k ∈ cs.flatMap (visV σ d), σ' k = σ k) → cs.flatMap (visV σ' d) = cs.flatMap (visV σ d) := fun {cs} hc => by
      apply flatMap_congr'
      intro x hx
      exact vis_local d fun k hk => hc k (List.mem_flatMap.2 ⟨x, hx, hk⟩)
    cases v <;> simp only [visV] at h ⊢
    case agg cs => exact list h
    case tup cs => exact list h
    case fn f cs => exact list h
    case sli id g off n e =>
      have h1 := h id (by simp)
      rw [h1]
      split
      · rfl
      · rename_i hn
        rw [if_neg hn] at h
        rw [list fun k hk => h k (List.mem_cons_of_mem _ hk)]
    case ptr id g off =>
      have h1 := h id (by simp)
      rw [h1]
      split
      · rfl
      · rename_i hn
        rw [if_neg hn] at h
        rw [list fun k hk => h k (List.mem_cons_of_mem _ hk)]
    case mth f id g off =>
      have h1 := h id (by simp)
      rw [h1]
      split
      · rfl
      · rename_i hn
        rw [if_neg hn] at h
        rw [list fun k hk => h k (List.mem_cons_of_mem _ hk)]

theorem mapQ_congr {f g : V → Option (V × List Nat)} : ∀ {l : List V}, (∀ x ∈ l, g x = f x) → mapQ g l = mapQ f l
  | [], _ => rfl
  | x :: l, h => by
    simp only [mapQ]
    rw [h x (by simp), mapQ_congr (l := l) fun y hy => h y (List.mem_cons_of_mem _ hy)]

theorem roV_local : ∀ (d : Nat) {v : V}, (∀ k ∈ visV σ d v, σ' k = σ k) → roV σ' d v = roV σ d v
  | 0, _, _ => rfl
  | d + 1, v, h => by
    have list : ∀ {cs : List V}, (∀ k ∈ cs.flatMap (visV σ d), σ' k = σ k) → mapQ (roV σ' d) cs = mapQ (roV σ d) cs := fun {cs} hc =>
      mapQ_congr fun x hx => roV_local d fun k hk => hc k (List.mem_flatMap.2 ⟨x, hx, hk⟩)
    cases v <;> simp only [visV] at h <;> simp only [roV]
    case agg cs => rw [list h]
    case tup cs => rw [list h]
    case fn f cs => rw [list h]
    case mp id g =>
      have h1 := h id (by simp)
      rw [h1]
    case sli id g off n e =>
      have h1 := h id (by simp)
      rw [h1]
      by_cases harr : (σ id).arr = true
      · simp [harr]
      · rw [if_neg harr] at h
        rw [mapQ_congr fun x hx => roV_local d fun k hk => h k (List.mem_cons_of_mem _ (List.mem_flatMap.2 ⟨x, List.mem_of_mem_drop (List.mem_of_mem_take hx), hk⟩))]
    case ptr id g off =>
      have h1 := h id (by simp)
      rw [h1]
      by_cases harr : (σ id).arr = true
      · simp [harr]
      · rw [if_neg harr] at h
        rw [list fun k hk => h k (List.mem_cons_of_mem _ hk)]

theorem mapQ_sub {f : V → Option (V × List Nat)} {g : V → List Nat} : ∀ {l ys : List V} {js : List Nat}, (∀ x ∈ l, ∀ y is, f x = some (y, is) → ∀ i ∈ is, i ∈ g x) → mapQ f l = some (ys, js) → ∀ i ∈ js, i ∈ l.flatMap g
  | [], ys, js, _, h, i, hi => by
    simp only [mapQ, Option.some.injEq, Prod.mk.injEq] at h
    obtain ⟨rfl, rfl⟩ := h
    simp at hi
  | x :: l, ys, js, hf, h, i, hi => by
    simp only [mapQ, Option.bind_eq_some_iff] at h
    obtain ⟨⟨y, i1⟩, hy, ⟨ys', j1⟩, hys, h⟩ := h
    simp only [Option.some.injEq, Prod.mk.injEq] at h
    obtain ⟨rfl, rfl⟩ := h
    rw [List.flatMap_cons]
    rcases List.mem_append.1 hi with h1 | h1
    · exact List.mem_append_left _ (hf x (by simp) _ _ hy i h1)
    · exact List.mem_append_right _ (mapQ_sub (fun z hz => hf z (List.mem_cons_of_mem _ hz)) hys i h1)
theorem ro_vis (σ : Store) : ∀ (d : Nat) {v x : V} {is : List Nat}, roV σ d v = some (x, is) → ∀ i ∈ is, i ∈ visV σ d v
  | 0, v, x, is, h => by simp [roV] at h
  | d + 1, v, x, is, h => by
    intro i hi
    cases v <;> simp only [roV] at h <;> simp only [visV]
    case agg cs =>
      obtain ⟨⟨ys, js⟩, hm, h⟩ := Option.map_eq_some_iff.1 h
      cases h
      exact mapQ_sub (fun x _ y is h => ro_vis σ d h) hm i hi
    case tup cs =>
      obtain ⟨⟨ys, js⟩, hm, h⟩ := Option.map_eq_some_iff.1 h
      cases h
      exact mapQ_sub (fun x _ y is h => ro_vis σ d h) hm i hi
    case fn f cs =>
      obtain ⟨⟨ys, js⟩, hm, h⟩ := Option.map_eq_some_iff.1 h
      cases h
      exact mapQ_sub (fun x _ y is h => ro_vis σ d h) hm i hi
    case sli id g off n e =>
      rw [Option.ite_none_right_eq_some] at h
      obtain ⟨_, h⟩ := h
      split at h
      · cases h; simp at hi; simp [hi]
      · rename_i harr
        rw [if_neg harr]
        obtain ⟨⟨ys, js⟩, hm, h⟩ := Option.map_eq_some_iff.1 h
        cases h
        rcases List.mem_cons.1 hi with h1 | h1
        · rw [h1]; exact List.mem_cons_self
        · refine List.mem_cons_of_mem _ ?_
          obtain ⟨y, h2, h3⟩ := List.mem_flatMap.1 (mapQ_sub (fun x _ y is h => ro_vis σ d h) hm i h1)
          exact List.mem_flatMap.2 ⟨y, List.mem_of_mem_drop (List.mem_of_mem_take h2), h3⟩
    case ptr id g off =>
      rw [Option.ite_none_right_eq_some] at h
      obtain ⟨_, h⟩ := h
      split at h
      · cases h; simp at hi; simp [hi]
      · rename_i harr
        rw [if_neg harr]
        obtain ⟨⟨ys, js⟩, hm, h⟩ := Option.map_eq_some_iff.1 h
        cases h
        rcases List.mem_cons.1 hi with h1 | h1
        · rw [h1]; exact List.mem_cons_self
        · exact List.mem_cons_of_mem _ (mapQ_sub (fun x _ y is h => ro_vis σ d h) hm i h1)
    case mp id g =>
      split at h
      · split at h
        · cases h; simp at hi; simp [hi]
        · cases h
      · cases h
    all_goals first
      | (cases h; simp at hi; done)
      | (simp at h; done)

theorem ownV_local : ∀ (d : Nat) {v : V}, (∀ k ∈ visV σ d v, σ' k = σ k) → ownV σ' d v = ownV σ d v
  | 0, _, _ => rfl
  | d + 1, v, h => by
    have list : ∀ {cs : List V}, (∀ k ∈ cs.flatMap (visV σ d), σ' k = σ k) → mapQ (ownV σ' d) cs = mapQ (ownV σ d) cs := fun {cs} hc =>
      mapQ_congr fun x hx => ownV_local d fun k hk => hc k (List.mem_flatMap.2 ⟨x, hx, hk⟩)
    have listR : ∀ {cs : List V}, (∀ k ∈ cs.flatMap (visV σ d), σ' k = σ k) → mapQ (roV σ' d) cs = mapQ (roV σ d) cs := fun {cs} hc =>
      mapQ_congr fun x hx => roV_local d fun k hk => hc k (List.mem_flatMap.2 ⟨x, hx, hk⟩)
    cases v <;> simp only [visV] at h <;> simp only [ownV]
    case agg cs => rw [list h]
    case tup cs => rw [list h]
    case fn f cs => rw [list h]
    case mp id g =>
      have h1 := h id (by simp)
      rw [h1]
    case sli id g off n e =>
      have h1 := h id (by simp)
      rw [h1]
    case ptr id g off =>
      have h1 := h id (by simp)
      rw [h1]
      by_cases harr : (σ id).arr = true
      · have hb : ¬ ((σ id).arr = false) := by simp [harr]
        simp only [hb, harr, Bool.true_eq_false, and_false, false_and, if_false]
      · rw [if_neg harr] at h
        have hl := list fun k hk => h k (List.mem_cons_of_mem _ hk)
        have hr := listR fun k hk => h k (List.mem_cons_of_mem _ hk)
        rw [hl, hr]
        cases hq : mapQ (roV σ d) (σ id).cells with
        | none => rfl
        | some p =>
          obtain ⟨cs, is⟩ := p
          have key : (is.all fun i => decide ((σ' i).st = .fz)) = (is.all fun i => decide ((σ i).st = .fz)) := by
            rw [Bool.eq_iff_iff, List.all_eq_true, List.all_eq_true]
            have hs : ∀ i ∈ is, σ' i = σ i := fun i hi => h i (List.mem_cons_of_mem _ (mapQ_sub (fun x _ y is h => ro_vis σ d h) hq i hi))
            exact ⟨fun a i hi => by rw [← hs i hi]; exact a i hi, fun a i hi => by rw [hs i hi]; exact a i hi⟩
          simp only [Option.bind_some, key]

/-! ### Borders and calls -/
theorem fzs_congr {is : List Nat} (h : ∀ i ∈ is, σ' i = σ i) : fzs σ' is = fzs σ is := by
  apply List.map_congr_left
  intro i hi
  rw [h i hi]
theorem roL_local {d : Nat} {cs : List V} (h : ∀ k ∈ cs.flatMap (visV σ d), σ' k = σ k) : mapQ (roV σ' d) cs = mapQ (roV σ d) cs :=
  mapQ_congr fun x hx => roV_local d fun k hk => h k (List.mem_flatMap.2 ⟨x, hx, hk⟩)

theorem cellsOf_local {v : V} (h : ∀ k ∈ visV σ dep v, σ' k = σ k) : cellsOfV σ' v = cellsOfV σ v := by
  cases v <;> try rfl
  case sli id g off n e =>
    have := h id (by simp [dep, visV])
    simp only [cellsOfV]
    rw [this]
theorem cellsOf_sub {v : V} {cs : List V} {ids : List Nat} (h : cellsOfV σ v = some (cs, ids)) : ∀ i ∈ ids, i ∈ visV σ dep v := by
  intro i hi
  cases v <;> simp only [cellsOfV] at h
  case sli id g off n e =>
    rw [Option.ite_none_right_eq_some] at h
    obtain ⟨_, h⟩ := h
    cases h
    simp at hi
    simp [dep, visV, hi]
  all_goals first
    | (cases h; simp at hi; done)
    | (simp at h; done)

theorem mapM_local {f f' : Nat → V → Option (V × List (Nat × Blk) × Nat)} : ∀ {l ys : List V} {k k' : Nat} {w : List (Nat × Blk)}, (∀ x ∈ l, ∀ k y w k', f k x = some (y, w, k') → (∀ p ∈ w, σ' p.1 = σ p.1) → f' k x = some (y, w, k')) →
    mapM' f k l = some (ys, w, k') → (∀ p ∈ w, σ' p.1 = σ p.1) → mapM' f' k l = some (ys, w, k')
  | [], ys, k, k', w, _, h, _ => h
  | x :: l, ys, k, k', w, hf, h, hw => by
    simp only [mapM', Option.bind_eq_some_iff] at h
    obtain ⟨⟨y, w1, k1⟩, hy, ⟨ys', w2, k2⟩, hys, h⟩ := h
    cases h
    have a1 := hf x (by simp) _ _ _ _ hy fun p hp => hw p (List.mem_append_left _ hp)
    have a2 := mapM_local (fun z hz => hf z (List.mem_cons_of_mem _ hz)) hys fun p hp => hw p (List.mem_append_right _ hp)
    simp only [mapM', a1, a2, Option.bind_some]
theorem matV_local : ∀ (d : Nat) {k : Nat} {v y : V} {w : List (Nat × Blk)} {k' : Nat}, matV σ d k v = some (y, w, k') → (∀ p ∈ w, σ' p.1 = σ p.1) → matV σ' d k v = some (y, w, k')
  | 0, _, _, _, _, _, h, _ => by simp [matV] at h
  | d + 1, k, v, y, w, k', h, hw => by
    cases v <;> simp only [matV] at h ⊢ <;> try exact h
    case agg cs =>
      obtain ⟨⟨ys, w1, k1⟩, hm, h⟩ := Option.map_eq_some_iff.1 h
      cases h
      rw [mapM_local (fun x _ k y w k' h => matV_local d h) hm hw]; rfl
    case tup cs =>
      obtain ⟨⟨ys, w1, k1⟩, hm, h⟩ := Option.map_eq_some_iff.1 h
      cases h
      rw [mapM_local (fun x _ k y w k' h => matV_local d h) hm hw]; rfl
    case fn f cs =>
      obtain ⟨⟨ys, w1, k1⟩, hm, h⟩ := Option.map_eq_some_iff.1 h
      cases h
      rw [mapM_local (fun x _ k y w k' h => matV_local d h) hm hw]; rfl
    case opt cs =>
      obtain ⟨⟨ys, w1, k1⟩, hm, h⟩ := Option.map_eq_some_iff.1 h
      cases h
      rw [mapM_local (fun x _ k y w k' h => matV_local d h) hm fun p hp => hw p (List.mem_append_left _ hp), Option.map_some]
      have hk : σ' k = σ k := hw (k, ⟨(σ k).gen + 1, .rw, false, ys⟩) (List.mem_append_right _ (by simp))
      rw [hk]
    case osl e n cs =>
      cases h
      have hk : σ' k = σ k := hw (k, ⟨(σ k).gen + 1, .rw, true, cs⟩) (by simp)
      rw [hk]
    case omp es =>
      cases h
      have hk : σ' k = σ k := hw (k, ⟨(σ k).gen + 1, .rw, false, [.mcell es]⟩) (by simp)
      rw [hk]
theorem back_local : ∀ {ms : List Mode} {vs xs : List V} {k : Nat} {w : List (Nat × Blk)}, backV σ k ms vs xs = some w → (∀ p ∈ w, σ' p.1 = σ p.1) → backV σ' k ms vs xs = some w
  | [], vs, xs, k, w, h, _ => by
    cases vs <;> cases xs <;> simp only [backV] at h ⊢ <;> exact h
  | m :: ms, [], xs, k, w, h, _ => by cases m <;> cases xs <;> simp [backV] at h
  | .bor :: ms, v :: vs, xs, k, w, h, hw => by
    simp only [backV] at h ⊢
    exact back_local h hw
  | .mov :: ms, v :: vs, xs, k, w, h, hw => by
    simp only [backV] at h ⊢
    exact back_local h hw
  | .io :: ms, v :: vs, [], k, w, h, hw => by simp [backV] at h
  | .io :: ms, v :: vs, x :: xs, k, w, h, hw => by
    rcases back_io h with ⟨id, g, cs, cs', w1, k1, w3, rfl, rfl, e1, e2, e3, e4, e5, rfl⟩ | ⟨rfl, rfl, e1⟩
    · have hid := hw (id, ⟨g, .rw, false, cs'⟩) (by simp)
      simp only at hid
      simp only [backV]
      rw [hid, if_pos ⟨e1, e2, e3⟩, mapM_local (fun x _ k y w k' h => matV_local dep h) e4 fun p hp => hw p (by simp [hp]), Option.bind_some]
      simp only
      rw [back_local e5 fun p hp => hw p (by simp [hp])]
      rfl
    · simp only [backV]
      exact back_local e1 hw

theorem pass_local : ∀ {ms : List Mode} {vs : List V}, (∀ k ∈ vs.flatMap (visV σ dep), σ' k = σ k) → passV σ' ms vs = passV σ ms vs
  | [], vs, h => by cases vs <;> rfl
  | m :: ms, [], h => by cases m <;> rfl
  | m :: ms, v :: vs, h => by
    have h1 : ∀ k ∈ visV σ dep v, σ' k = σ k := fun k hk => h k (by rw [List.flatMap_cons]; exact List.mem_append_left _ hk)
    have h2 : ∀ k ∈ vs.flatMap (visV σ dep), σ' k = σ k := fun k hk => h k (by rw [List.flatMap_cons]; exact List.mem_append_right _ hk)
    cases m <;> simp only [passV, roV_local dep h1, ownV_local dep h1, pass_local h2]

theorem call_local {tbl : Tbl} {base f : Nat} {vs : List V} {r : Res} (h : callV tbl σ base f vs = some r) (hr : ∀ k ∈ vs.flatMap (visV σ dep), σ' k = σ k) (hw : ∀ p ∈ r.wr, σ' p.1 = σ p.1) : callV tbl σ' base f vs = some r := by
  unfold callV at h ⊢
  simp only [Option.bind_eq_some_iff] at h
  obtain ⟨e, he, ⟨xs, mv, bo⟩, hp, h⟩ := h
  simp only at h
  rw [Option.ite_none_right_eq_some] at h
  obtain ⟨hc, h⟩ := h
  simp only [Option.bind_eq_some_iff] at h
  obtain ⟨⟨rr, ios⟩, hG, ⟨rv, w1, k1⟩, hmat, w2, hb, h⟩ := h
  simp only at h
  rw [Option.ite_none_right_eq_some] at h
  obtain ⟨hn, h⟩ := h
  cases h
  simp only at hw hmat hb
  rw [he, Option.bind_some, pass_local hr, hp, Option.bind_some]
  simp only
  rw [if_pos hc, hG, Option.bind_some]
  simp only
  rw [matV_local dep hmat fun p hp => hw p (by simp [hp]), Option.bind_some]
  simp only
  rw [back_local hb fun p hp => hw p (by simp [hp]), Option.bind_some, if_pos hn]
  have e1 : (mv.map fun i => (i, ({ σ' i with st := .dead } : Blk))) = mv.map fun i => (i, ({ σ i with st := .dead } : Blk)) := by
    apply List.map_congr_left
    intro i hi
    have := hw (i, { σ i with st := .dead }) (by simp only [List.mem_append, List.mem_map]; exact .inl (.inl (.inl ⟨i, hi, rfl⟩)))
    simp only at this
    rw [this]
  rw [e1]
  by_cases hro : (hasRo dep rr || ios.any (hasRo dep)) = true
  · rw [if_pos hro] at hw ⊢
    rw [fzs_congr fun i hi => hw (i, { σ i with st := .fz }) (by simp only [List.mem_append, fzs, List.mem_map]; exact .inl (.inl (.inr ⟨i, hi, rfl⟩)))]
    rw [if_pos hro]
  · rw [if_neg hro, if_neg hro]

theorem mem_fillV : ∀ {ps : List (Nat × Nat × V)} {z cs : List V}, fillV ps z = some cs → ∀ v ∈ cs, v ∈ z ∨ ∃ p ∈ ps, v ∈ p.2.2.cells
  | [], z, cs, h, v, hv => by
    cases h
    exact .inl hv
  | (off, size, x) :: ps, z, cs, h, v, hv => by
    simp only [fillV] at h
    rw [Option.ite_none_right_eq_some] at h
    rcases mem_fillV h.2 v hv with h1 | ⟨p, h1, h2⟩
    · rcases List.mem_append.1 h1 with h1 | h1
      · rcases List.mem_append.1 h1 with h1 | h1
        · exact .inl (List.mem_of_mem_take h1)
        · exact .inr ⟨_, List.mem_cons_self, h1⟩
      · exact .inl (List.mem_of_mem_drop h1)
    · exact .inr ⟨p, List.mem_cons_of_mem _ h1, h2⟩

theorem app_local {base esz bytes : Nat} {x y : V} {r : Res} (h : appV σ base esz bytes x y = some r) (hr : ∀ k ∈ visV σ dep x ++ visV σ dep y, σ' k = σ k) (hw : ∀ p ∈ r.wr, σ' p.1 = σ p.1) : appV σ' base esz bytes x y = some r := by
  unfold appV at h ⊢
  rw [cellsOf_local fun k hk => hr k (List.mem_append_right _ hk)]
  simp only [Option.bind_eq_some_iff] at h
  obtain ⟨⟨yc, ids⟩, hy, m, hm, h⟩ := h
  rw [hy, Option.bind_some]
  simp only at h ⊢
  rw [hm, Option.bind_some]
  by_cases h0 : m = 0
  · rw [if_pos h0] at h ⊢
    exact h
  · rw [if_neg h0] at h ⊢
    cases x <;> simp only at h ⊢ <;> try exact h
    case sl k n cs =>
      rw [Option.ite_none_right_eq_some] at h
      obtain ⟨hc, h⟩ := h
      rw [if_pos hc]
      cases h
      have hk : σ' base = σ base := hw (base, ⟨(σ base).gen + 1, .rw, true, yc⟩) (by simp)
      rw [hk]
    case sli id g off n e =>
      have hid : σ' id = σ id := hr id (by simp [dep, visV])
      rw [hid]
      rw [Option.ite_none_right_eq_some] at h
      obtain ⟨hc, h⟩ := h
      rw [if_pos hc]
      split at h
      · rename_i h2
        rw [if_pos h2]
        exact h
      · rename_i h2
        rw [if_neg h2]
        cases h
        have hk : σ' base = σ base := hw (base, ⟨(σ base).gen + 1, .rw, true, ((σ id).cells.drop off).take (n * esz) ++ yc⟩) (by simp)
        rw [hk]

theorem appP_local {base esz bytes : Nat} {x y : V} {r : Res} (h : appPV σ base esz bytes x y = some r) (hr : ∀ k ∈ visV σ dep x ++ visV σ dep y, σ' k = σ k) (hw : ∀ p ∈ r.wr, σ' p.1 = σ p.1) : appPV σ' base esz bytes x y = some r := by
  cases y
  case sli id g off m e =>
    have hy : σ' id = σ id := hr id (List.mem_append_right _ (by simp [dep, visV]))
    simp only [appPV] at h ⊢
    rw [hy]
    split at h
    · rename_i hc
      rw [if_pos hc]
      exact app_local h hr hw
    · rename_i hc
      rw [if_neg hc]
      rw [Option.ite_none_right_eq_some] at h
      obtain ⟨h1, h⟩ := h
      rw [if_pos h1]
      unfold appQ at h ⊢
      cases x <;> simp only at h ⊢ <;> try exact h
      case sl k n cs =>
        rw [Option.ite_none_right_eq_some] at h
        obtain ⟨hc, h⟩ := h
        rw [if_pos hc]
        cases h
        have hk : σ' base = σ base := hw (base, _) (List.mem_singleton.2 rfl)
        rw [hk]
      case sli id' g' off' n e' =>
        have hid : σ' id' = σ id' := hr id' (List.mem_append_left _ (by simp [dep, visV]))
        rw [hid]
        rw [Option.ite_none_right_eq_some] at h
        obtain ⟨hc, h⟩ := h
        rw [if_pos hc]
        cases h
        have hk : σ' base = σ base := hw (base, _) (List.mem_cons_of_mem _ (List.mem_singleton.2 rfl))
        rw [hk]
  all_goals exact app_local h hr hw

theorem entsV_local {v : V} (h : ∀ k ∈ visV σ dep v, σ' k = σ k) : entsV σ' v = entsV σ v := by
  cases v <;> try rfl
  case mp id g =>
    have := h id (by simp [dep, visV])
    simp only [entsV]
    rw [this]
theorem mwrV_local {v : V} {f : List (V × V) → Option (List (V × V))} (h : ∀ k ∈ visV σ dep v, σ' k = σ k) : mwrV σ' v f = mwrV σ v f := by
  cases v <;> try rfl
  case mp id g =>
    have := h id (by simp [dep, visV])
    simp only [mwrV]
    rw [this]
/-- An operation answers the same wherever the blocks that it reads and writes are the same. -/
theorem insV_local {tbl : Tbl} {base : Nat} {i : Ins} {r : Res} (h : insV tbl base t σ i = some r) (hr : ∀ k ∈ rdV t σ i, σ' k = σ k) (hw : ∀ p ∈ r.wr, σ' p.1 = σ p.1) : insV tbl base t σ' i = some r := by
  cases i
  case new z =>
    simp only [insV] at h ⊢
    cases h
    have hk : σ' base = σ base := hw (base, _) (List.mem_singleton.2 rfl)
    rw [hk]
  case box n x =>
    simp only [insV] at h ⊢
    rw [Option.ite_none_right_eq_some] at h
    obtain ⟨hc, h⟩ := h
    cases h
    have hk : σ' base = σ base := hw (base, _) (List.mem_singleton.2 rfl)
    rw [if_pos hc, hk]
  case mksl e l z ps =>
    simp only [insV] at h ⊢
    obtain ⟨cs, hf, h⟩ := Option.bind_eq_some_iff.1 h
    rw [hf, Option.bind_some]
    split at h
    · rename_i hpt
      cases h
      have hk : σ' base = σ base := hw (base, _) (List.mem_singleton.2 rfl)
      rw [if_pos hpt, hk]
    · rename_i hpt
      rw [if_neg hpt]
      obtain ⟨⟨ys, js⟩, hq, h⟩ := Option.bind_eq_some_iff.1 h
      simp only at h
      rw [Option.ite_none_right_eq_some] at h
      obtain ⟨hc, h⟩ := h
      cases h
      simp only [rdV] at hr
      have hcs : ∀ k ∈ cs.flatMap (visV σ dep), σ' k = σ k := fun k hk => by
        obtain ⟨v, h1, h2⟩ := List.mem_flatMap.1 hk
        rcases mem_fillV hf v h1 with h3 | ⟨p, h3, h4⟩
        · exact hr k (List.mem_append_left _ (List.mem_flatMap.2 ⟨v, h3, h2⟩))
        · obtain ⟨q, h5, rfl⟩ := List.mem_map.1 h3
          exact hr k (List.mem_append_right _ (List.mem_flatMap.2 ⟨q, h5, List.mem_flatMap.2 ⟨v, h4, h2⟩⟩))
      have hk : σ' base = σ base := hw (base, _) (List.mem_append_right _ (List.mem_singleton.2 rfl))
      rw [roL_local hcs, hq, Option.bind_some]
      simp only
      rw [if_pos hc, hk, fzs_congr fun i hi => hw (i, { σ i with st := .fz }) (List.mem_append_left _ (List.mem_map.2 ⟨i, hi, rfl⟩))]
  case ld g n x =>
    simp only [insV] at h ⊢
    simp only [rdV] at hr
    generalize x.ev t = v at *
    cases v <;> simp only at h hr ⊢ <;> try exact h
    rename_i id gn off
    have hk : σ' id = σ id := hr id (by simp)
    rw [hk]
    exact h
  case st g n a x =>
    simp only [insV] at h ⊢
    simp only [rdV] at hr
    generalize a.ev t = va at *
    generalize x.ev t = v at *
    cases va <;> simp only at h ⊢ <;> try exact h
    rename_i id gn off
    have hk : σ' id = σ id := hr id (List.mem_append_left _ (by simp [dep, visV]))
    rw [hk]
    rw [Option.ite_none_right_eq_some] at h
    obtain ⟨hc, h⟩ := h
    rw [if_pos hc]
    split at h
    · rename_i ha
      rw [if_pos ha]
      simp only [Option.bind_eq_some_iff] at h
      obtain ⟨⟨ys, js⟩, hq, h⟩ := h
      simp only at h
      rw [Option.ite_none_right_eq_some] at h
      obtain ⟨hj, h⟩ := h
      cases h
      rw [roL_local fun k hk => hr k (List.mem_append_right _ hk), hq, Option.bind_some]
      simp only
      rw [if_pos hj, fzs_congr fun i hi => hw (i, { σ i with st := .fz }) (List.mem_append_left _ (List.mem_map.2 ⟨i, hi, rfl⟩))]
    · rename_i ha
      rw [if_neg ha]
      exact h
  case mkm =>
    simp only [insV] at h ⊢
    cases h
    have hk : σ' base = σ base := hw (base, _) (List.mem_singleton.2 rfl)
    rw [hk]
  case mget kk ok z x y =>
    simp only [insV] at h ⊢
    simp only [rdV] at hr
    rw [entsV_local hr]
    exact h
  case mset kk x y z =>
    simp only [insV] at h ⊢
    simp only [rdV] at hr
    rw [mwrV_local hr]
    exact h
  case mdel kk x y =>
    simp only [insV] at h ⊢
    simp only [rdV] at hr
    rw [mwrV_local hr]
    exact h
  case mlen x =>
    simp only [insV] at h ⊢
    simp only [rdV] at hr
    rw [entsV_local hr]
    exact h
  case rng x =>
    simp only [insV] at h ⊢
    simp only [rdV] at hr
    generalize x.ev t = v at *
    cases v <;> simp only at h hr ⊢ <;> try exact h
    rw [entsV_local hr]
    exact h
  case nxt x =>
    simp only [insV] at h ⊢
    simp only [rdV] at hr
    generalize x.ev t = v at *
    cases v <;> simp only at h hr ⊢ <;> try exact h
    rename_i id g
    rw [entsV_local (v := .mp id g) hr]
    exact h
  case clr e z x =>
    simp only [insV] at h ⊢
    simp only [rdV] at hr
    generalize x.ev t = v at *
    cases v <;> simp only at h hr ⊢ <;> try exact h
    rename_i id gn off n e'
    have hk : σ' id = σ id := hr id (by simp [dep, visV])
    rw [hk]
    exact h
  case toBytes x =>
    simp only [insV] at h ⊢
    generalize x.ev t = v at *
    cases v <;> simp only at h ⊢ <;> first
      | exact h
      | (rw [Option.ite_none_right_eq_some] at h
         obtain ⟨hc, h⟩ := h
         by_cases hs : strsB = true
         · rw [if_pos hs] at h
           cases h
           have hk : σ' base = σ base := hw (base, _) (List.mem_singleton.2 rfl)
           rw [if_pos hc, if_pos hs, hk]
         · rw [if_neg hs] at h
           cases h
           rw [if_pos hc, if_neg hs])
  case toStr x =>
    simp only [insV] at h ⊢
    simp only [rdV] at hr
    generalize x.ev t = v at *
    have e := cellsOf_local hr
    cases v <;> simp only at h ⊢ <;> first | (rw [e]; exact h) | exact h
  case mkSlice e b z l c =>
    simp only [insV] at h ⊢
    generalize l.ev t = lv at *
    generalize c.ev t = cv at *
    split at h
    case h_2 => cases h
    rw [Option.ite_none_right_eq_some] at h
    obtain ⟨hc, h⟩ := h
    cases h
    have hk : σ' base = σ base := hw (base, _) (List.mem_singleton.2 rfl)
    rw [if_pos hc, hk]
  case slL e x a b c =>
    simp only [insV] at h ⊢
    simp only [rdV] at hr
    generalize x.ev t = v at *
    cases v <;> cases c <;> try exact h
    all_goals try exact h
    · simp only at h hr ⊢
      rename_i id gn off n e'
      have hk : σ' id = σ id := hr id (by simp)
      rw [hk]
      exact h
    · simp only at h hr ⊢
      rename_i id gn off n e' mx
      have hk : σ' id = σ id := hr id (by simp)
      rw [hk]
      exact h
  case slA n e x a b =>
    simp only [insV] at h ⊢
    simp only [rdV] at hr
    generalize x.ev t = v at *
    cases v <;> simp only at h hr ⊢ <;> try exact h
    rename_i id gn off
    have hk : σ' id = σ id := hr id (by simp)
    rw [hk]
    exact h
  case app e b x y =>
    exact app_local h hr hw
  case appP e b x y =>
    exact appP_local h hr hw
  case copy e x y =>
    simp only [insV] at h ⊢
    simp only [rdV] at hr
    generalize x.ev t = v at *
    generalize y.ev t = u at *
    cases v <;> simp only at h ⊢ <;> try exact h
    rename_i id gn off n e'
    have hk : σ' id = σ id := hr id (List.mem_append_left _ (by simp [dep, visV]))
    rw [cellsOf_local fun k hk => hr k (List.mem_append_right _ hk), hk]
    exact h
  case call f xs =>
    exact call_local h (fun k hk => hr k (by simpa [rdV, List.flatMap_map] using hk)) hw
  case callv x xs =>
    simp only [insV] at h ⊢
    simp only [rdV] at hr
    generalize x.ev t = v at *
    cases v <;> simp only at h hr ⊢ <;> try exact h
    · refine call_local h (fun k hk => hr k ?_) hw
      rw [List.flatMap_append] at hk
      rcases List.mem_append.1 hk with h1 | h1
      · exact List.mem_append_right _ (by simpa [List.flatMap_map] using h1)
      · exact List.mem_append_left _ h1
    · refine call_local h (fun k hk => hr k ?_) hw
      rw [List.flatMap_cons] at hk
      rcases List.mem_append.1 hk with h1 | h1
      · exact List.mem_append_left _ h1
      · exact List.mem_append_right _ (by simpa [List.flatMap_map] using h1)
  all_goals exact h

theorem visL_local {cs : List V} (h : ∀ k ∈ cs.flatMap (visV σ dep), σ' k = σ k) : cs.flatMap (visV σ' dep) = cs.flatMap (visV σ dep) := by
  apply flatMap_congr'
  intro p hp
  exact vis_local dep fun k hk => h k (List.mem_flatMap.2 ⟨p, hp, hk⟩)
theorem rdV_local {i : Ins} (h : ∀ k ∈ rdV t σ i, σ' k = σ k) : rdV t σ' i = rdV t σ i := by
  cases i <;> simp only [rdV] at h ⊢
  case mksl e l z ps =>
    rw [visL_local fun k hk => h k (List.mem_append_left _ hk)]
    congr 1
    apply flatMap_congr'
    intro p hp
    exact visL_local fun k hk => h k (List.mem_append_right _ (List.mem_flatMap.2 ⟨p, hp, hk⟩))
  case st g n a x => rw [vis_local dep fun k hk => h k (List.mem_append_left _ hk), visL_local fun k hk => h k (List.mem_append_right _ hk)]
  case app e b x y => rw [vis_local dep fun k hk => h k (List.mem_append_left _ hk), vis_local dep fun k hk => h k (List.mem_append_right _ hk)]
  case appP e b x y => rw [vis_local dep fun k hk => h k (List.mem_append_left _ hk), vis_local dep fun k hk => h k (List.mem_append_right _ hk)]
  case copy e x y => rw [vis_local dep fun k hk => h k (List.mem_append_left _ hk), vis_local dep fun k hk => h k (List.mem_append_right _ hk)]
  case toStr x => exact vis_local dep h
  case mget kk ok z x y => exact vis_local dep h
  case mset kk x y z => exact vis_local dep h
  case mdel kk x y => exact vis_local dep h
  case mlen x => exact vis_local dep h
  case rng x => exact vis_local dep h
  case nxt x => exact vis_local dep h
  case clr e z x => exact vis_local dep h
  case call f xs =>
    apply flatMap_congr'
    intro p hp
    exact vis_local dep fun k hk => h k (List.mem_flatMap.2 ⟨p, hp, hk⟩)
  case callv x xs =>
    refine congr (congrArg HAppend.hAppend ?_) ?_
    · generalize x.ev t = v at *
      cases v <;> try rfl
      · exact visL_local fun k hk => h k (List.mem_append_left _ hk)
      · exact vis_local dep fun k hk => h k (List.mem_append_left _ hk)
    · apply flatMap_congr'
      intro p hp
      exact vis_local dep fun k hk => h k (List.mem_append_right _ (List.mem_flatMap.2 ⟨p, hp, hk⟩))
end Go.Vm
