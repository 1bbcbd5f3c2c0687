/- A call, from end to end. -/
import Derived.Test.YtmcbceppgaljnaaVmCall
set_option linter.unusedSectionVars false
set_option linter.unusedSimpArgs false
set_option linter.unusedVariables false
namespace Go.Vm
variable {P : Program} {w0 w : World} {S0 : Terr} {ρ : Ren} {pin : Pin} {σ : Store} {a : Act} {t : Nat → V}

theorem free_rest {os ps : List Nat} (h : Free w0 S0 ρ pin σ (os ++ ps)) {ρ' : Ren} {σ' : Store} (hu : ∀ b, Used ρ' σ' b → b ∈ os ∨ Used ρ σ b) : Free w0 S0 ρ' pin σ' ps := by
  obtain ⟨hn, hf⟩ := h
  rw [List.nodup_append] at hn
  refine ⟨hn.2.1, fun b hb => ?_⟩
  obtain ⟨f1, f2, f3⟩ := hf b (List.mem_append_right _ hb)
  exact ⟨f1, f2, fun h => (hu b h).elim (fun ho => hn.2.2 b ho b hb rfl) f3⟩
theorem free_first {os ps : List Nat} (h : Free w0 S0 ρ pin σ (os ++ ps)) : Free w0 S0 ρ pin σ os := by
  obtain ⟨hn, hf⟩ := h
  rw [List.nodup_append] at hn
  exact ⟨hn.1, fun b hb => hf b (List.mem_append_left _ hb)⟩

theorem back_io {τ : Store} {k : Nat} {ms : List Mode} {v x : V} {vs xs : List V} {w2 : List (Nat × Blk)} (h : backV τ k (.io :: ms) (v :: vs) (x :: xs) = some w2) :
    (∃ id g cs cs' w1 k1 w3, v = .ptr id g 0 ∧ x = .opt cs ∧ (τ id).gen = g ∧ (τ id).st ≠ .dead ∧ cs.length = (τ id).cells.length ∧ mapM' (matV τ dep) k cs = some (cs', w1, k1) ∧ backV τ k1 ms vs xs = some w3 ∧ w2 = w1 ++ (id, ⟨g, .rw, false, cs'⟩) :: w3) ∨
    (v = .nilp ∧ x = .nilp ∧ backV τ k ms vs xs = some w2) := by
  unfold backV at h
  cases v <;> cases x <;> simp only [reduceCtorEq] at h
  case nilp.nilp => exact .inr ⟨rfl, rfl, h⟩
  case ptr.opt id g off cs =>
    cases off with
    | succ n => simp at h
    | zero =>
      simp only at h
      by_cases hc : (τ id).gen = g ∧ (τ id).st ≠ .dead ∧ cs.length = (τ id).cells.length
      · rw [if_pos hc] at h
        simp only [Option.bind_eq_some_iff, Option.map_eq_some_iff] at h
        obtain ⟨⟨ys, w1, k1⟩, hm, w3, hw3, h⟩ := h
        exact .inl ⟨id, g, cs, ys, w1, k1, w3, rfl, rfl, hc.1, hc.2.1, hc.2.2, hm, hw3, h.symm⟩
      · rw [if_neg hc] at h
        cases h
  all_goals (split at h <;> simp_all)

theorem back_sound {τ : Store} {pinA : Pin} {ρo : Ren} : ∀ {ms : List Mode} {vs ios : List V} {vals : List Value} {k : Nat} {w2 : List (Nat × Blk)} {oss : List (List Nat)} {ρ : Ren} {σ : Store}, backV τ k ms vs ios = some w2 → Sim w0 S0 ρ pin σ w → RL ρo pinA vs vals → BL pin w ios (ioVals ms vals) oss →
    Free w0 S0 ρ pin σ oss.flatten → (∀ j, k ≤ j → (σ j).gen = (τ j).gen) → (∀ p ∈ w2, (σ p.1).gen = (τ p.1).gen) → (w2.map (·.1)).Nodup →
    RExt ρo ρ → (∀ id e, (τ id).st ≠ .dead → ρo id (τ id).gen = some e → e.mp = false → e.len = (τ id).cells.length ∧ e.base + e.len ≤ e.size ∧ ∀ arr el fz, w.heap[e.b]? = some (.cells arr el fz) → e.size ≤ arr.size) →
    ∃ ρ', RExt ρ ρ' ∧ Sim w0 S0 ρ' pin (upds σ w2) w
  | [], [], [], vals, k, w2, oss, ρ, σ, h, hS, _, _, _, _, _, _, _, _ => by
    simp only [backV, Option.some.injEq] at h
    subst h
    exact ⟨ρ, RExt.refl _, hS⟩
  | [], [], _ :: _, _, _, _, _, _, _, h, _, _, _, _, _, _, _, _, _ => by simp [backV] at h
  | [], _ :: _, _, _, _, _, _, _, _, h, _, _, _, _, _, _, _, _, _ => by simp [backV] at h
  | m :: _, [], _, _, _, _, _, _, _, h, _, _, _, _, _, _, _, _, _ => by cases m <;> simp [backV] at h
  | .bor :: ms, v :: vs, ios, vals, k, w2, oss, ρ, σ, h, hS, hl, hb, hf, hg, hk, hn, hx, hr => by
    simp only [backV] at h
    have := hl.len
    cases vals with
    | nil => simp at this
    | cons c vals => exact back_sound h hS hl.inv.2 hb hf hg hk hn hx hr
  | .mov :: ms, v :: vs, ios, vals, k, w2, oss, ρ, σ, h, hS, hl, hb, hf, hg, hk, hn, hx, hr => by
    simp only [backV] at h
    have := hl.len
    cases vals with
    | nil => simp at this
    | cons c vals => exact back_sound h hS hl.inv.2 hb hf hg hk hn hx hr
  | .io :: ms, v :: vs, [], vals, k, w2, oss, ρ, σ, h, _, _, _, _, _, _, _, _, _ => by simp [backV] at h
  | .io :: ms, v :: vs, x :: ios, vals, k, w2, oss, ρ, σ, h, hS, hl, hb, hf, hg, hk, hn, hx, hr => by
    have hl0 := hl.len
    cases vals with
    | nil => simp at hl0
    | cons c vals =>
      obtain ⟨l1, l2⟩ := hl.inv
      simp only [ioVals] at hb
      obtain ⟨c', vs', o, oss', e1, rfl, b1, b2⟩ := hb.inv
      cases e1
      simp only [List.flatten_cons] at hf
      rcases back_io h with ⟨id, g, cs, ys, w1, k1, w3, rfl, rfl, q1, q2, q3, hm, hw3, rfl⟩ | ⟨rfl, rfl, h4⟩
      · -- a pointer comes back
        obtain ⟨e, he0, hmp, hce⟩ := l1.ptr_inv
        obtain ⟨rl, rb, rs⟩ := hr id e q2 (by rw [q1]; exact he0) hmp
        have he := hx _ _ _ he0
        cases b1 with
        | flat _ _ hnr _ => cases hnr
        | opt _ b bs arr el fz os' hrow hu hfit ho h1 hh =>
          have eb : b = e.b ∧ bs = e.base := by
            have := hce
            simp at this
            exact this
          obtain ⟨rfl, rfl⟩ := eb
          have hl3 : BL pin w cs ((arr.toList.drop e.base).take cs.length) os' := ⟨by simp; omega, ho, fun j v c o hv hc hoo => hh j v c o hv (by
            rw [List.getElem?_take] at hc
            split at hc
            · rw [List.getElem?_drop] at hc; simpa using hc
            · cases hc) hoo⟩
          have hf1 := free_first hf
          have hfc : Free w0 S0 ρ pin σ os'.flatten := by
            obtain ⟨n1, n2⟩ := hf1
            exact ⟨(List.nodup_cons.1 n1).2, fun b hb => n2 b (List.mem_cons_of_mem _ hb)⟩
          obtain ⟨ρ1, C, r, one, len⟩ := mat_list (mat_sound τ dep) hm hS hl3 hfc hg
          obtain ⟨n1, n2⟩ := hf1
          rw [List.nodup_cons] at n1
          obtain ⟨f1, f2, f3⟩ := n2 e.b (by simp)
          simp only [List.map_append, List.map_cons] at hn
          rw [List.nodup_append] at hn
          obtain ⟨hn1, hn2, hn3⟩ := hn
          rw [List.nodup_cons] at hn2
          have hid : ∀ p ∈ w1, p.1 ≠ id := fun p hp => hn3 p.1 (List.mem_map.2 ⟨p, hp, rfl⟩) id (by simp)
          have hσid : upds σ w1 id = σ id := upds_out _ _ _ hid
          have hgid : (upds σ w1 id).gen = g := by
            rw [hσid, hk (id, ⟨g, .rw, false, ys⟩) (by simp)]
            exact q1
          have hnu : ¬ Used ρ1 (upds σ w1) e.b := fun hu => (C.used e.b hu).elim n1.1 f3
          have hrev := C.sim.revive id ys false e arr el fz (by rw [hgid]; exact C.ext _ _ _ he) hmp hrow hu (rs arr el fz hrow) rb (by rw [rl, ← q3, len]) (one h1) (by simp) f2 f1 (fun j ej _ hj hej hcc => hnu ⟨j, ej, hj, hej, hcc⟩) (fun j v c hv hc => r.at_ j v c hv (by
            have hj : j < ys.length := by
              rcases Nat.lt_or_ge j ys.length with h' | h'
              · exact h'
              · rw [List.getElem?_eq_none h'] at hv; cases hv
            rw [List.getElem?_take, if_pos (by omega), List.getElem?_drop]
            simpa using hc))
          rw [hgid] at hrev
          have hstep : upds σ (w1 ++ [(id, ⟨g, .rw, false, ys⟩)]) = upd (upds σ w1) id ⟨g, .rw, false, ys⟩ := by rw [upds_append, upds_one]
          have hother : ∀ j, j ≠ id → (∀ p ∈ w1, p.1 ≠ j) → upd (upds σ w1) id ⟨g, .rw, false, ys⟩ j = σ j := fun j h1 h2 => by rw [upd_ne _ _ h1, upds_out _ _ _ h2]
          obtain ⟨ρ2, x2, S2⟩ := back_sound (ρ := ρ1) (σ := upd (upds σ w1) id ⟨g, .rw, false, ys⟩) hw3 hrev l2 b2
            (free_rest hf (fun b hb => by
              obtain ⟨j, ej, h1, h2, h3⟩ := hb
              by_cases hj : j = id
              · subst hj
                rw [upd_same] at h1 h2
                rw [C.ext _ _ _ he] at h2
                cases h2
                exact .inl (by rw [← h3]; simp)
              · rw [upd_ne _ _ hj] at h1 h2
                exact (C.used b ⟨j, ej, h1, h2, h3⟩).imp (List.mem_cons_of_mem _) (fun x => x)))
            (fun j hj => by
              by_cases hji : j = id
              · subst hji; rw [upd_same]; exact q1.symm
              · rw [hother j hji (fun p hp c => by have := (C.keys p hp).2; omega)]
                exact hg j (Nat.le_trans C.le hj))
            (fun p hp => by
              have hpk : p.1 ∈ w3.map (·.1) := List.mem_map.2 ⟨p, hp, rfl⟩
              rw [hother p.1 (fun c => hn2.1 (c ▸ hpk)) (fun q hq c => hn3 q.1 (List.mem_map.2 ⟨q, hq, rfl⟩) p.1 (List.mem_cons_of_mem _ hpk) c)]
              exact hk p (by simp [hp])) hn2.2
            (hx.trans C.ext) hr
          refine ⟨ρ2, C.ext.trans x2, ?_⟩
          have : w1 ++ (id, (⟨g, .rw, false, ys⟩ : Blk)) :: w3 = (w1 ++ [(id, ⟨g, .rw, false, ys⟩)]) ++ w3 := by simp
          rw [this, upds_append, hstep]
          exact S2
      · have hc := l1.nilp_inv
        subst hc
        cases b1 with
        | flat _ _ _ _ =>
          simp only [List.nil_append] at hf
          exact back_sound h4 hS l2 b2 hf hg hk hn hx hr

theorem upds_map (g : Nat → Blk) : ∀ (is : List Nat) (τ : Store) (k : Nat), upds τ (is.map fun i => (i, g i)) k = if k ∈ is then g k else τ k := by
  intro is
  induction is with
  | nil => intro τ k; rfl
  | cons i is ih =>
    intro τ k
    have e : upds τ ((i :: is).map fun i => (i, g i)) = upds (upd τ i (g i)) (is.map fun i => (i, g i)) := rfl
    rw [e, ih]
    by_cases h1 : k ∈ is
    · rw [if_pos h1, if_pos (List.mem_cons_of_mem _ h1)]
    · rw [if_neg h1]
      by_cases h2 : k = i
      · subst h2; rw [upd_same, if_pos (by simp)]
      · rw [upd_ne _ _ h2, if_neg (by simp [h1, h2])]
theorem Sim.kills (h : Sim w0 S0 ρ pin σ w) : ∀ (is : List Nat), Sim w0 S0 ρ pin (fun k => if k ∈ is then { σ k with st := .dead } else σ k) w
  | [] => h.congr fun k => by simp
  | i :: is => by
    have h1 := Sim.kills h is
    refine (h1.kill i).congr fun k => ?_
    by_cases hk : k = i
    · subst hk
      rw [upd_same, if_pos (by simp)]
      by_cases h2 : k ∈ is
      · rw [if_pos h2]
      · rw [if_neg h2]
    · rw [upd_ne _ _ hk]
      simp [hk]

/-- The call, as an operation. -/
theorem call_sound {tbl : Tbl} (hT : TblOk P tbl) (hS : Sim w0 S0 ρ pin σ w) {base f : Nat} {vs : List V} {vals : List Value} (hl : RL ρ pin vs vals) {r : Res} (hr : callV tbl σ base f vs = some r) :
    (∀ args w, (callFunc f args).run P w = .ok (.enter f args) w) ∧
    Calls P f vals.toArray w fun e w' => ∃ c ρ' pin', e = .returned c ∧ RExt ρ ρ' ∧ PExt pin pin' ∧ Sim w0 S0 ρ' pin' (upds σ r.wr) w' ∧ R ρ' pin' r.val c := by
  unfold callV at hr
  simp only [Option.bind_eq_some_iff] at hr
  obtain ⟨E, hE, ⟨xs, mv, bo⟩, hpass, hr⟩ := hr
  simp only at hr
  split at hr
  case isFalse => cases hr
  rename_i hc
  obtain ⟨hmv, hbo⟩ := hc
  simp only [Option.bind_eq_some_iff] at hr
  obtain ⟨⟨rv0, ios⟩, hG, ⟨rv, w1, k1⟩, hmat, w2, hback, hr⟩ := hr
  simp only at hr hmat hback
  split at hr
  case isFalse => cases hr
  rename_i hnd
  cases hr
  obtain ⟨hent, hgood⟩ := (hT f E hE).1
  refine ⟨hent, ?_⟩
  -- the blocks that are lent are pinned
  obtain ⟨pin2, x2, SF, hpins, hold⟩ := hS.freeze bo (pass_alive hpass)
  obtain ⟨os, hB, hRows, hxl, hvl⟩ := pass_sound hS x2 hpass hl hpins
  have hosn := hRows.nodup hS hmv
  have hospin : ∀ b ∈ os.flatten, pin2 b = none := fun b hb => by
    obtain ⟨i, hi, q1, e, q2, rfl⟩ := hRows.mem hb
    have hib : i ∉ bo := fun c => hbo i c hi
    have hst : (upds σ (fzs σ bo) i).st = .rw := by rw [upds_fzs, if_neg hib]; exact q1
    obtain ⟨e', he', L⟩ := SF.live i (by rw [hst]; decide)
    have : upds σ (fzs σ bo) i = σ i := by rw [upds_fzs, if_neg hib]
    rw [this, q2] at he'
    cases he'
    exact (L.rw hst).1
  refine (hgood w pin2 xs vals os rv0 ios hG hB hosn hospin SF.pinned hxl).mono ?_
  rintro e w' ⟨c, pin', o, oss, rfl, x3, hp', hn', hf', hBr, hBio, hond, hofree⟩
  -- what was handed over
  have hown : ∀ b ∈ os.flatten, (S0 b ∨ w0.heap.size ≤ b) := fun b hb => by
    obtain ⟨i, hi, q1, e, q2, rfl⟩ := hRows.mem hb
    obtain ⟨e', he', L⟩ := hS.live i (by rw [q1]; decide)
    rw [q2] at he'
    cases he'
    exact (L.rw q1).2
  have hused : ∀ (σ1 : Store), (∀ j, (σ1 j).st = .rw → j ∉ mv ∧ σ1 j = σ j) → ∀ b, Used ρ σ1 b → b < w.heap.size ∧ b ∉ os.flatten ∧ pin b = none := by
    rintro σ1 h1 b ⟨j, e, q1, q2, rfl⟩
    obtain ⟨j1, j2⟩ := h1 j q1
    rw [j2] at q1 q2
    obtain ⟨e', he', L⟩ := hS.live j (by rw [q1]; decide)
    rw [q2] at he'
    cases he'
    obtain ⟨ob, r1, _⟩ := L.obj
    refine ⟨lt_of_heap r1, fun hb => ?_, (L.rw q1).1⟩
    obtain ⟨i, hi, p1, e1, p2, p3⟩ := hRows.mem hb
    exact hS.inj j i e e1 q1 p1 (fun c => j1 (c ▸ hi)) q2 p2 p3.symm
  have key : ∃ pinX σ1, (∀ k, upds σ ((mv.map fun i => (i, { σ i with st := .dead })) ++ (if hasRo dep rv0 || ios.any (hasRo dep) then fzs σ bo else [])) k = σ1 k) ∧ PExt pin pinX ∧ Sim w0 S0 ρ pinX σ1 w' ∧ B pinX w' rv0 c o ∧ BL pinX w' ios (ioVals E.modes vals) oss ∧
      (∀ b, pin' b = none → pinX b = none) ∧ (∀ b, Used ρ σ1 b → b < w.heap.size ∧ b ∉ os.flatten ∧ pin b = none) ∧ (∀ j, (σ1 j).gen = (σ j).gen) := by
    by_cases hro : (hasRo dep rv0 || ios.any (hasRo dep)) = true
    · -- some of what came is read alone: what was lent stays as it is
      let σ1 : Store := fun k => if k ∈ mv then { upds σ (fzs σ bo) k with st := .dead } else upds σ (fzs σ bo) k
      have hst : ∀ j, (σ1 j).st = .rw → j ∉ mv ∧ σ1 j = σ j := fun j hj => by
        show j ∉ mv ∧ (if j ∈ mv then { upds σ (fzs σ bo) j with st := .dead } else upds σ (fzs σ bo) j) = σ j
        have hj' : (if j ∈ mv then { upds σ (fzs σ bo) j with st := .dead } else upds σ (fzs σ bo) j).st = .rw := hj
        by_cases h1 : j ∈ mv
        · rw [if_pos h1] at hj'; cases hj'
        · rw [if_neg h1] at hj' ⊢
          rw [upds_fzs] at hj' ⊢
          by_cases h2 : j ∈ bo
          · rw [if_pos h2] at hj'; cases hj'
          · rw [if_neg h2]; exact ⟨h1, rfl⟩
      have hu := hused σ1 hst
      refine ⟨pin', σ1, fun k => ?_, x2.trans x3, ?_, hBr, hBio, fun _ h => h, hu, fun j => ?_⟩
      · rw [if_pos hro, upds_append]
        show upds (upds σ (mv.map fun i => (i, { σ i with st := .dead }))) (bo.map fun i => (i, { σ i with st := .fz })) k = (if k ∈ mv then { upds σ (fzs σ bo) k with st := .dead } else upds σ (fzs σ bo) k)
        rw [upds_map (fun i => { σ i with st := .fz }), upds_map (fun i => { σ i with st := .dead }), upds_fzs]
        by_cases h1 : k ∈ bo
        · rw [if_pos h1, if_neg (hbo k h1), if_pos h1]
        · rw [if_neg h1]
          by_cases h2 : k ∈ mv
          · rw [if_pos h2, if_pos h2, if_neg h1]
          · rw [if_neg h2, if_neg h2, if_neg h1]
      · exact (SF.kills mv).after hf' x3 hp' hn' (fun b hb => ⟨hown b hb, fun h => (hu b h).2.1 hb, hospin b hb⟩)
      · show (if j ∈ mv then { upds σ (fzs σ bo) j with st := .dead } else upds σ (fzs σ bo) j).gen = _
        rw [upds_fzs]
        split <;> split <;> rfl
    · have hro2 : hasRo dep rv0 = false ∧ ∀ v ∈ ios, hasRo dep v = false := by
        simp only [Bool.or_eq_true, not_or, Bool.not_eq_true] at hro
        refine ⟨hro.1, fun v hv => ?_⟩
        have := List.any_eq_false.1 hro.2 v hv
        simpa using this
      let σ1 : Store := fun k => if k ∈ mv then { σ k with st := .dead } else σ k
      have hst : ∀ j, (σ1 j).st = .rw → j ∉ mv ∧ σ1 j = σ j := fun j hj => by
        show j ∉ mv ∧ (if j ∈ mv then { σ j with st := .dead } else σ j) = σ j
        have hj' : (if j ∈ mv then { σ j with st := .dead } else σ j).st = .rw := hj
        by_cases h1 : j ∈ mv
        · rw [if_pos h1] at hj'; cases hj'
        · rw [if_neg h1]; exact ⟨h1, rfl⟩
      have hu := hused σ1 hst
      classical
      let pinX : Pin := fun b => if Used ρ σ1 b then none else pin' b
      have hX : ∀ b x, pinX b = some x → pin' b = some x ∧ ¬ Used ρ σ1 b := fun b x h => by
        have h' : (if Used ρ σ1 b then none else pin' b) = some x := h
        by_cases hq : Used ρ σ1 b
        · rw [if_pos hq] at h'; cases h'
        · rw [if_neg hq] at h'; exact ⟨h', hq⟩
      have hXP : PExt pin pinX := fun b x h => by
        show (if Used ρ σ1 b then none else pin' b) = some x
        rw [if_neg (fun hq => by rw [(hu b hq).2.2] at h; cases h)]
        exact x3 _ _ (x2 _ _ h)
      refine ⟨pinX, σ1, fun k => ?_, hXP, ?_, hBr.noRo dep hro2.1, ⟨hBio.len, hBio.olen, fun j v c o hv hc ho => (hBio.at_ j v c o hv hc ho).noRo dep (hro2.2 v (List.mem_of_getElem? hv))⟩, fun b h => ?_, hu, fun j => ?_⟩
      · rw [if_neg hro, List.append_nil]
        exact upds_map (fun i => { σ i with st := .dead }) mv σ k
      · refine (hS.kills mv).after hf' hXP (fun b x h => hp' b x (hX b x h).1) (fun b x h => ?_) (fun b hb => ⟨hown b hb, fun h => (hu b h).2.1 hb, ?_⟩)
        · obtain ⟨h1, h2⟩ := hX b x h
          rcases hn' b x h1 with h3 | h3
          · rcases hold b x h3 with h4 | ⟨j, e, q1, q2, rfl⟩
            · exact .inl h4
            · by_cases hj : j ∈ mv
              · obtain ⟨_, e', p1, p2⟩ := hRows.mem' hj
                rw [q2] at p1
                cases p1
                exact .inr (.inl p2)
              · refine absurd ⟨j, e, ?_, ?_, rfl⟩ h2
                · show (if j ∈ mv then { σ j with st := .dead } else σ j).st = .rw
                  rw [if_neg hj]; exact q1
                · show ρ j (if j ∈ mv then { σ j with st := .dead } else σ j).gen = some e
                  rw [if_neg hj]; exact q2
          · exact .inr h3
        · cases hq : pin b with
          | none => rfl
          | some x => have := x2 _ _ hq; rw [hospin b hb] at this; cases this
      · show (if Used ρ σ1 b then none else pin' b) = none
        rw [h]
        split <;> rfl
      · show (if j ∈ mv then { σ j with st := .dead } else σ j).gen = _
        split <;> rfl
  obtain ⟨pinX, σ1, k1e, k2, k3, k4, k5, k6, k7, k8⟩ := key
  have hfree : Free w0 S0 ρ pinX σ1 (o ++ oss.flatten) := ⟨hond, fun b hb => by
    obtain ⟨f1, f2⟩ := hofree b hb
    refine ⟨k6 b f1, f2.elim (hown b) (fun h => .inr (Nat.le_trans hS.fr.size h)), fun hu => ?_⟩
    obtain ⟨u1, u2, _⟩ := k7 b hu
    rcases f2 with h | h
    · exact u2 h
    · omega⟩
  obtain ⟨ρ1, C, hRr, _⟩ := mat_sound σ dep hmat k3 k4 (free_first hfree) (fun j _ => k8 j)
  simp only [List.map_append] at hnd
  rw [List.nodup_append] at hnd
  obtain ⟨nd1, nd2, nd3⟩ := hnd
  obtain ⟨ρ2, x4, S2⟩ := back_sound (τ := σ) (pinA := pin) (ρo := ρ) hback C.sim hl k5 (free_rest hfree C.used)
    (fun j hj => by rw [upds_out _ _ _ (fun p hp c => by have := (C.keys p hp).2; omega)]; exact k8 j)
    (fun p hp => by rw [upds_out _ _ _ (fun q hq c => nd3 q.1 (List.mem_map.2 ⟨q, hq, rfl⟩) p.1 (List.mem_map.2 ⟨p, hp, rfl⟩) c)]; exact k8 p.1) nd2 C.ext
    (fun i e h1 h2 hmp => by
      obtain ⟨arr, el, fz, r1, r2, r3, r4, _⟩ := hS.rowOf rfl h1 h2 hmp
      refine ⟨r4, hS.fits rfl h1 h2 hmp, fun arr2 el2 fz2 h3 => ?_⟩
      obtain ⟨a', e', f', h4, h5⟩ := hf'.rows _ _ _ _ r1
      rw [h3] at h4
      cases h4
      omega)
  refine ⟨c, ρ2, pinX, rfl, C.ext.trans x4, k2, ?_, hRr.mono x4 (PExt.refl _)⟩
  have e1 : upds σ ((mv.map fun i => (i, { σ i with st := .dead })) ++ (if hasRo dep rv0 || ios.any (hasRo dep) then fzs σ bo else [])) = σ1 := funext k1e
  rw [upds_append, upds_append, e1]
  exact S2
end Go.Vm
