/- Regions of open order: every order that the model may draw does what the order of the text does. -/
import Derived.Test.YtmcbceppgaljnaaVmLocal
import Derived.Orders
set_option linter.unusedSectionVars false
set_option linter.unusedSimpArgs false
set_option linter.unusedVariables false
namespace Go.Vm
variable {P : Program} {w0 w : World} {S0 : Terr} {ρ0 : Ren} {pin0 : Pin} {tbl : Tbl}

theorem upds_other : ∀ (l : List (Nat × Blk)) (σ : Store) {k : Nat}, k ∉ l.map (·.1) → upds σ l k = σ k
  | [], _, _, _ => rfl
  | (i, b) :: l, σ, k, h => by
    simp only [List.map_cons, List.mem_cons, not_or] at h
    show upds (upd σ i b) l k = _
    rw [upds_other l _ h.2, upd_ne _ _ h.1]
theorem upds_cong : ∀ (l : List (Nat × Blk)) (σ σ' : Store) (k : Nat), σ k = σ' k → upds σ l k = upds σ' l k
  | [], _, _, _, h => h
  | (i, b) :: l, σ, σ', k, h => by
    refine upds_cong l (upd σ i b) (upd σ' i b) k ?_
    simp only [upd]
    split
    · rfl
    · exact h
theorem upds_swap {a b : List (Nat × Blk)} (σ : Store) (h : ∀ k ∈ a.map (·.1), k ∉ b.map (·.1)) : upds (upds σ a) b = upds (upds σ b) a := by
  funext k
  by_cases ha : k ∈ a.map (·.1)
  · rw [upds_other b _ (h k ha)]
    exact upds_cong a _ _ _ (upds_other b _ (h k ha)).symm
  · rw [upds_other a (upds σ b) ha]
    exact upds_cong b _ _ _ (upds_other a _ ha)

/-- Nothing of the one in the other's way. -/
theorem clash_false {a b : List Nat × List Nat} (h : clash a b = false) : (∀ i ∈ a.2, i ∉ b.1 ∧ i ∉ b.2) ∧ (∀ i ∈ b.2, i ∉ a.1) := by
  unfold clash at h
  rw [Bool.or_eq_false_iff, List.any_eq_false, List.any_eq_false] at h
  refine ⟨fun i hi => ?_, fun i hi hc => ?_⟩
  · have := h.1 i hi
    simpa using this
  · have := h.2 i hi
    simp [hc] at this

theorem apart_spec {x y : IOp} (h : x.apart y = true) : (∀ d, x.dst = some d → d ∉ y.looks ∧ y.dst ≠ some d) ∧ (∀ d, y.dst = some d → d ∉ x.looks) := by
  unfold IOp.apart at h
  rw [Bool.and_eq_true] at h
  refine ⟨fun d hd => ?_, fun d hd => ?_⟩
  · have := h.1
    rw [hd] at this
    simp only [Bool.and_eq_true] at this
    refine ⟨fun hc => ?_, fun hc => ?_⟩
    · have := this.1.1
      simp [hc] at this
    · have := this.1.2
      simp [hc] at this
  · have := h.2
    rw [hd] at this
    intro hc
    simp [hc] at this

theorem putT_other {t : Nat → V} {d : Option Nat} {v : V} {k : Nat} (h : d ≠ some k) : putT t d v k = t k := by
  cases d with
  | none => rfl
  | some d => exact upd_ne _ _ (fun e => h (by rw [e]))
theorem putT_swap {t : Nat → V} {d e : Option Nat} {v u : V} (h : ∀ k, d = some k → e ≠ some k) : putT (putT t d v) e u = putT (putT t e u) d v := by
  funext k
  by_cases hd : d = some k
  · rw [putT_other (h k hd), hd]; simp [putT, upd]
  · rw [putT_other hd]
    by_cases he : e = some k
    · rw [he]; simp [putT, upd]
    · rw [putT_other he, putT_other he, putT_other hd]

theorem wants_congr {o : IOp} {t t' : Nat → V} (h : ∀ k ∈ o.looks, t' k = t k) : o.wants t' = o.wants t := by
  unfold IOp.wants
  cases hg : o.grd with
  | none => rfl
  | some p =>
    obtain ⟨j, w⟩ := p
    simp only
    rw [h j (by unfold IOp.looks; rw [hg]; simp)]

/-- A step that is told with what it read and wrote. -/
structure Did (tbl : Tbl) (o : IOp) (s s' : St) (tr : List Nat × List Nat) : Prop where
  step : o.step tbl s = some (s', tr.2)
  reads : o.reads s = tr.1

/-- A step elsewhere: what it looks at, reads and writes is the same. -/
theorem Did.move {o : IOp} {s s' : St} {tr : List Nat × List Nat} (h : Did tbl o s s' tr) {t' : Nat → V} {σ' : Store} (ht : ∀ k ∈ o.looks, t' k = s.t k) (hr : ∀ k ∈ tr.1, σ' k = s.σ k) (hw : ∀ k ∈ tr.2, σ' k = s.σ k) :
    ∃ v wr, Did tbl o ⟨t', σ'⟩ ⟨putT t' o.dst v, upds σ' wr⟩ tr ∧ tr.2 = wr.map (·.1) ∧ s' = ⟨putT s.t o.dst v, upds s.σ wr⟩ := by
  obtain ⟨h1, h2⟩ := h
  unfold IOp.step at h1
  unfold IOp.reads at h2
  have hwn : o.wants t' = o.wants s.t := wants_congr ht
  have hsl : ∀ k ∈ o.ins.slots, t' k = s.t k := fun k hk => ht k (by unfold IOp.looks; exact List.mem_append_left _ hk)
  by_cases hc : o.wants s.t = true
  · rw [if_pos hc] at h1 h2
    obtain ⟨r, hr1, he⟩ := Option.map_eq_some_iff.1 h1
    rw [Prod.mk.injEq] at he
    have he1 : s' = ⟨putT s.t o.dst r.val, upds s.σ r.wr⟩ := he.1.symm
    have he2 : tr.2 = r.wr.map (·.1) := he.2.symm
    have hrd : ∀ k ∈ rdV s.t s.σ o.ins, σ' k = s.σ k := by rw [h2]; exact hr
    have hins := insV_local hr1 hrd fun p hp => hw p.1 (by rw [he2]; exact List.mem_map.2 ⟨p, hp, rfl⟩)
    refine ⟨r.val, r.wr, ⟨?_, ?_⟩, he2, he1⟩
    · unfold IOp.step
      simp only
      rw [if_pos (hwn.trans hc), insV_slots tbl o.base σ' o.ins hsl, hins, Option.map_some, he2]
    · unfold IOp.reads
      simp only
      rw [if_pos (hwn.trans hc), rdV_slots σ' o.ins hsl, rdV_local hrd, h2]
  · rw [if_neg hc] at h1 h2
    have hc' : ¬ o.wants t' = true := by rw [hwn]; exact hc
    simp only [Option.some.injEq, Prod.mk.injEq] at h1
    refine ⟨.tup [], [], ⟨?_, ?_⟩, h1.2.symm, h1.1.symm⟩
    · unfold IOp.step
      simp only
      rw [if_neg hc', ← h1.2]
      rfl
    · unfold IOp.reads
      simp only
      rw [if_neg hc', h2]

/-- Two steps in the other order. -/
theorem Did.swap {x y : IOp} {s s1 s2 : St} {rx ry : List Nat × List Nat} (hx : Did tbl x s s1 rx) (hy : Did tbl y s1 s2 ry) (ha : x.apart y = true) (hc : clash rx ry = false) :
    ∃ s1', Did tbl y s s1' ry ∧ Did tbl x s1' s2 rx := by
  obtain ⟨a1, a2⟩ := apart_spec ha
  obtain ⟨c1, c2⟩ := clash_false hc
  obtain ⟨vx, wx, _, ex, hs1⟩ := hx.move (t' := s.t) (σ' := s.σ) (fun _ _ => rfl) (fun _ _ => rfl) (fun _ _ => rfl)
  subst hs1
  have hσ1 : ∀ k, k ∉ rx.2 → s.σ k = upds s.σ wx k := fun k hk => (upds_other wx s.σ (by rw [← ex]; exact hk)).symm
  obtain ⟨vy, wy, hy', ey, hs2⟩ := hy.move (t' := s.t) (σ' := s.σ) (fun k hk => (putT_other fun hd => (a1 k hd).1 hk).symm) (fun k hk => hσ1 k fun h => (c1 k h).1 hk) (fun k hk => hσ1 k fun h => (c1 k h).2 hk)
  refine ⟨_, hy', ?_⟩
  obtain ⟨vx', wx', hx', ex', hs1'⟩ := hx.move (t' := putT s.t y.dst vy) (σ' := upds s.σ wy) (fun k hk => putT_other fun hd => a2 k hd hk) (fun k hk => upds_other wy s.σ (by rw [← ey]; exact fun h => c2 k h hk)) (fun k hk => upds_other wy s.σ (by rw [← ey]; exact fun h => (c1 k hk).2 h))
  have hfin : (⟨putT (putT s.t y.dst vy) x.dst vx', upds (upds s.σ wy) wx'⟩ : St) = s2 := by
    rw [hs2]
    simp only [St.mk.injEq] at hs1' ⊢
    refine ⟨?_, ?_⟩
    · rw [hs1'.1]
      exact putT_swap fun k hk hk' => (a1 k hk').2 hk
    · rw [hs1'.2]
      exact upds_swap s.σ fun k hk hk' => (c1 k (by rw [ex']; exact hk')).2 (by rw [ey]; exact hk)
  rw [← hfin]
  exact hx'

/-- Steps one behind another, each with what it read and wrote. -/
inductive Runs (tbl : Tbl) (ios : List IOp) (T : Nat → List Nat × List Nat) (K : St → Prop) : List Nat → St → Prop
  | nil {s} (h : K s) : Runs tbl ios T K [] s
  | cons {j o s s' L} (ho : ios[j]? = some o) (hd : Did tbl o s s' (T j)) (h : Runs tbl ios T K L s') : Runs tbl ios T K (j :: L) s

/-- What does not stand in the way may go first. -/
theorem Runs.front {ios : List IOp} {T : Nat → List Nat × List Nat} {K : St → Prop} {i : Nat} {oi : IOp} (hi : ios[i]? = some oi) :
    ∀ {L1 L2 : List Nat} {s : St}, (∀ j ∈ L1, ∀ oj, ios[j]? = some oj → oj.apart oi = true ∧ clash (T j) (T i) = false) → Runs tbl ios T K (L1 ++ i :: L2) s → Runs tbl ios T K (i :: (L1 ++ L2)) s
  | [], _, _, _, h => h
  | j :: L1, L2, s, hf, h => by
    cases h with
    | cons ho hd h =>
      rename_i oj s1
      have h' := Runs.front hi (fun k hk => hf k (List.mem_cons_of_mem _ hk)) h
      cases h' with
      | cons ho' hd' h' =>
        rename_i oi' s2
        rw [hi] at ho'
        cases ho'
        obtain ⟨f1, f2⟩ := hf j (by simp) _ ho
        obtain ⟨s1', g1, g2⟩ := hd.swap hd' f1 f2
        exact .cons hi g1 (.cons ho g2 h')

/-- The order of the text, with what was read and written. -/
theorem regD_runs {K : St → Prop} {ios : List IOp} : ∀ (n : Nat) (ops : List IOp) (acc : List (List Nat × List Nat)) (s : St), acc.length = n → ios.drop n = ops → regD tbl n ops acc K s →
    ∃ T : Nat → List Nat × List Nat, (∀ i < n, T i = acc.getD i ([], [])) ∧ Runs tbl ios T K (List.range' n ops.length) s ∧ (∀ i j oj, n ≤ j → i < j → ios[j]? = some oj → oj.anc.contains i = true ∨ clash (T i) (T j) = false)
  | n, [], acc, s, ha, hd, h => by
    refine ⟨fun i => acc.getD i ([], []), fun _ _ => rfl, .nil h, fun i j oj hj hij ho => ?_⟩
    have : ios.length ≤ n := List.drop_eq_nil_iff.1 hd
    rw [List.getElem?_eq_none (by omega)] at ho
    cases ho
  | n, o :: r, acc, s, ha, hd, h => by
    simp only [regD] at h
    unfold okP at h
    split at h
    case h_2 => exact h.elim
    rename_i p hst
    obtain ⟨s', wr⟩ := p
    obtain ⟨h1, h2⟩ := h
    have hlt : n < ios.length := by
      rcases Nat.lt_or_ge n ios.length with h' | h'
      · exact h'
      · rw [List.drop_of_length_le h'] at hd; cases hd
    have hn : ios[n]? = some o := by
      rw [List.drop_eq_getElem_cons hlt] at hd
      cases hd
      exact List.getElem?_eq_getElem hlt
    have hdr : ios.drop (n + 1) = r := by
      rw [List.drop_eq_getElem_cons hlt] at hd
      cases hd
      rfl
    obtain ⟨T, t1, t2, t3⟩ := regD_runs (n + 1) r (acc ++ [(o.reads s, wr)]) s' (by simp [ha]) hdr h2
    have hTn : T n = (o.reads s, wr) := by
      rw [t1 n (by omega)]
      simp [List.getD_eq_getElem?_getD, List.getElem?_append_right, ha]
    have hTi : ∀ i < n, T i = acc.getD i ([], []) := fun i hi => by
      rw [t1 i (by omega)]
      simp only [List.getD_eq_getElem?_getD]
      rw [List.getElem?_append_left (by omega)]
    refine ⟨T, hTi, ?_, fun i j oj hj hij ho => ?_⟩
    · rw [List.length_cons, List.range'_succ]
      exact .cons hn ⟨by rw [hTn]; exact hst, by rw [hTn]⟩ t2
    · rcases Nat.lt_or_ge n j with h' | h'
      · exact t3 i j oj h' hij ho
      · obtain rfl : j = n := by omega
        rw [hn] at ho
        cases ho
        have := List.all_eq_true.1 h1 i (List.mem_range.2 hij)
        rw [Bool.or_eq_true, Bool.not_eq_true'] at this
        rw [hTi i hij, hTn]
        exact this

/-- All orders. -/
theorem any_sound (hT : TblOk P tbl) {N : Nat} {ops : Array Oper} {ios : List IOp} (hlen : ios.length = ops.size) (hc : ∀ (j : Nat) (o : Oper) (i : IOp), ops[j]? = some o → ios[j]? = some i → Comp1 P N ops o i)
    {deps an : List (List Nat)} (hok : ancOk an deps = true) (hdl : deps.length = ops.size) (hda : ∀ (j : Nat) (o : Oper) (i : IOp), ops[j]? = some o → ios[j]? = some i → i.anc = an.getD j [] ∧ deps.getD j [] = (o.after.toList.filter fun e => Region.binds .any e).map (·.on))
    (hap : apartOk ios = true) {T : Nat → List Nat × List Nat} (hcl : ∀ i j oj, i < j → ios[j]? = some oj → oj.anc.contains i = true ∨ clash (T i) (T j) = false)
    {K : St → Prop} {Q : Exit → Act → World → Prop} (hK : ∀ s a w, K s → Rel N w0 S0 ρ0 pin0 s a w → Q .normal a w) :
    ∀ (fuel : Nat) (listed : Array Bool) (L : List Nat) {s : St} {a : Act} {w : World}, listed.size = ops.size → L.Pairwise (· < ·) → (∀ i, i ∈ L ↔ i < ops.size ∧ listed.getD i true = false) → L.length ≤ fuel →
      (∀ j, j < ops.size → listed.getD j true = true → ∀ y ∈ an.getD j [], listed.getD y true = true) →
      Runs tbl ios T K L s → Rel N w0 S0 ρ0 pin0 s a w → wpAny P .any ops Q fuel listed a w := by
  have hready : ∀ (listed : Array Bool) (i : Nat), listed.size = ops.size → (i ∈ Region.ready .any ops listed ↔ i < ops.size ∧ listed.getD i true = false ∧ ∀ d ∈ deps.getD i [], listed.getD d false = true) := by
    intro listed i hs
    unfold Region.ready
    rw [List.mem_filter, List.mem_range]
    refine and_congr_right fun hi => ?_
    have hi' : ops[i]? = some ops[i] := Array.getElem?_eq_getElem hi
    obtain ⟨_, hd⟩ := hda i ops[i] (ios[i]'(by omega)) hi' (List.getElem?_eq_getElem (by omega))
    rw [hi', hd]
    simp only [Option.map_some, Option.getD_some, Bool.and_eq_true, Bool.not_eq_true', Array.all_eq_true', Bool.or_eq_true, List.mem_map, List.mem_filter, Array.mem_toList_iff]
    refine and_congr_right fun _ => ⟨fun h d hd => ?_, fun h e he => ?_⟩
    · obtain ⟨e, ⟨h1, h2⟩, rfl⟩ := hd
      rcases h e h1 with h3 | h3
      · rw [h2] at h3; cases h3
      · exact h3
    · cases hb : Region.binds .any e with
      | false => exact .inl rfl
      | true => exact .inr (h _ ⟨e, ⟨he, hb⟩, rfl⟩)
  have hokj : ∀ j, j < ops.size → (∀ d ∈ deps.getD j [], d < j) ∧ ∀ y ∈ an.getD j [], y ∈ deps.getD j [] ∨ ∃ d ∈ deps.getD j [], y ∈ an.getD d [] := by
    intro j hj
    have := List.all_eq_true.1 hok j (List.mem_range.2 (by omega))
    rw [Bool.and_eq_true, List.all_eq_true, List.all_eq_true] at this
    refine ⟨fun d hd => by simpa using this.1 d hd, fun y hy => ?_⟩
    have h2 := this.2 y hy
    rw [Bool.or_eq_true, List.any_eq_true] at h2
    rcases h2 with h2 | ⟨d, h2, h3⟩
    · exact .inl (by simpa using h2)
    · exact .inr ⟨d, h2, by simpa using h3⟩
  have hsame : ∀ (listed : Array Bool) (d : Nat), d < ops.size → listed.size = ops.size → listed.getD d true = listed.getD d false := by
    intro listed d hd hs
    simp only [Array.getD_eq_getD_getElem?]
    rw [Array.getElem?_eq_getElem (by omega)]
    rfl
  intro fuel
  induction fuel with
  | zero =>
    intro listed L s a w hs hp hL hf hcl' hr hrel
    obtain rfl : L = [] := List.length_eq_zero_iff.1 (by omega)
    refine ⟨?_, ?_⟩
    · apply List.eq_nil_iff_forall_not_mem.2
      intro i hi
      obtain ⟨h1, h2, _⟩ := (hready listed i hs).1 hi
      exact absurd ((hL i).2 ⟨h1, h2⟩) (by simp)
    · cases hr with
      | nil h => exact hK s a w h hrel
  | succ fuel ih =>
    intro listed L s a w hs hp hL hf hcl' hr hrel
    refine ⟨fun hemp => ?_, fun i hi => ?_⟩
    · cases L with
      | nil =>
        cases hr with
        | nil h => exact hK s a w h hrel
      | cons i L =>
        exfalso
        have hiL := (hL i).1 (by simp)
        have : i ∈ Region.ready .any ops listed := (hready listed i hs).2 ⟨hiL.1, hiL.2, fun d hd => by
          have hdi := (hokj i hiL.1).1 d hd
          rw [← hsame listed d (by omega) hs]
          cases hq : listed.getD d true with
          | true => rfl
          | false =>
            have hdL := (hL d).2 ⟨by omega, hq⟩
            rcases List.mem_cons.1 hdL with rfl | h
            · omega
            · have := (List.pairwise_cons.1 hp).1 d h; omega⟩
        rw [hemp] at this
        cases this
    · obtain ⟨h1, h2, h3⟩ := (hready listed i hs).1 hi
      have hiL := (hL i).2 ⟨h1, h2⟩
      obtain ⟨L1, L2, rfl⟩ := List.append_of_mem hiL
      have hi' : ops[i]? = some ops[i] := Array.getElem?_eq_getElem h1
      have hio : ios[i]? = some (ios[i]'(by omega)) := List.getElem?_eq_getElem (by omega)
      have hanc : (ios[i]'(by omega)).anc = an.getD i [] := (hda i _ _ hi' hio).1
      have hyl : ∀ y ∈ an.getD i [], listed.getD y true = true := fun y hy => by
        rcases (hokj i h1).2 y hy with h | ⟨d, hd, h⟩
        · have := (hokj i h1).1 y h
          rw [hsame listed y (by omega) hs]; exact h3 y h
        · have hdi := (hokj i h1).1 d hd
          exact hcl' d (by omega) (by rw [hsame listed d (by omega) hs]; exact h3 d hd) y h
      have hp' := List.pairwise_append.1 hp
      have hfr := Runs.front hio (fun j hj oj hoj => by
        have hji : j < i := hp'.2.2 j hj i (by simp)
        have hna : (ios[i]'(by omega)).anc.contains j = false := by
          rw [hanc]
          cases hq : (an.getD i []).contains j with
          | false => rfl
          | true =>
            have := hyl j (by simpa using hq)
            rw [((hL j).1 (List.mem_append_left _ hj)).2] at this
            cases this
        refine ⟨?_, ?_⟩
        · have h4 := List.all_eq_true.1 hap i (List.mem_range.2 (by omega))
          have h5 := List.all_eq_true.1 h4 j (List.mem_range.2 hji)
          rw [Bool.or_eq_true] at h5
          simp only [List.getD_eq_getElem?_getD, hio, hoj, Option.getD_some] at h5
          rcases h5 with h5 | h5
          · rw [hna] at h5; cases h5
          · exact h5
        · rcases hcl j i _ hji hio with h5 | h5
          · rw [hna] at h5; cases h5
          · exact h5) hr
      cases hfr with
      | cons ho hd hrest =>
        rename_i o1 s1
        rw [hio] at ho
        cases ho
        have hset : ∀ k, (listed.setIfInBounds i true).getD k true = if k = i then true else listed.getD k true := fun k => by
          simp only [Array.getD_eq_getD_getElem?, Array.getElem?_setIfInBounds]
          by_cases hk : k = i
          · subst hk
            rw [if_pos rfl, if_pos rfl, if_pos (by omega)]
            rfl
          · rw [if_neg (fun c => hk c.symm), if_neg hk]
        have key := step_sound (Q := Q) hT (hc i _ _ hi' hio) hd.step hrel (K := wpAny P .any ops Q fuel (listed.setIfInBounds i true)) (fun a' w' hr' => by
          refine ih (listed.setIfInBounds i true) (L1 ++ L2) (by simpa using hs) ?_ (fun k => ?_) (by simp at hf ⊢; omega) (fun j hj hjl y hy => ?_) hrest hr'
          · exact List.pairwise_append.2 ⟨hp'.1, (List.pairwise_cons.1 hp'.2.1).2, fun x hx y hy => hp'.2.2 x hx y (List.mem_cons_of_mem _ hy)⟩
          · rw [hset]
            have hki := hL k
            simp only [List.mem_append, List.mem_cons] at hki ⊢
            by_cases hk : k = i
            · subst hk
              rw [if_pos rfl]
              refine ⟨fun h => ?_, fun h => by cases h.2⟩
              exfalso
              rcases h with h | h
              · have := hp'.2.2 k h k (by simp); omega
              · have := (List.pairwise_cons.1 hp'.2.1).1 k h; omega
            · rw [if_neg hk, ← hki]
              simp [hk]
          · rw [hset] at hjl ⊢
            by_cases hyi : y = i
            · rw [if_pos hyi]
            · rw [if_neg hyi]
              by_cases hji : j = i
              · subst hji; exact hyl y hy
              · rw [if_neg hji] at hjl; exact hcl' j hj hjl y hy)
        unfold wpOp
        rw [hi']
        simp only
        split at key
        · rename_i hw; rw [if_pos hw]; exact .inl key
        · rename_i hw; rw [if_neg hw]; exact key

theorem draw_ok (hT : TblOk P tbl) (hm : P.follows .mixedOrders = true) : DrawOk P tbl := by
  intro β N w0 S0 ρ0 pin0 ops ios id Q s a w hc h hr
  obtain ⟨ios', he, h1, h2, h3⟩ := comp1_of hc
  cases he
  obtain ⟨k1, deps, an, k2, k3, k4⟩ := h3 rfl
  obtain ⟨T, t1, t2, t3⟩ := regD_runs (ios := ios) 0 ios [] s rfl rfl h
  refine wp_region_any hm ?_
  obtain ⟨ρ, pin, y1, y2, hF, hS⟩ := hr
  have hrel : Rel N w0 S0 ρ0 pin0 s a w.drew := ⟨ρ, pin, y1, y2, hF, hS.drew⟩
  refine any_sound hT h1 h2 k2 k3 k4 k1 (fun i j oj hij ho => t3 i j oj (Nat.zero_le _) hij ho) (K := Q .normal) (fun s a w hq hr => ⟨.normal, s, rfl, hq, hr⟩) ops.size _ (List.range' 0 ios.length) (by simp) ?_ (fun i => ?_) (by simp [h1]) (fun j hj hl => ?_) t2 hrel
  · rw [← List.range_eq_range']; exact List.pairwise_lt_range
  · rw [← List.range_eq_range', List.mem_range]
    simp only [Array.getD_eq_getD_getElem?, Array.getElem?_replicate, h1]
    refine ⟨fun h => ⟨h, by rw [if_pos h]; rfl⟩, fun h => h.1⟩
  · simp only [Array.getD_eq_getD_getElem?, Array.getElem?_replicate, if_pos hj] at hl
    cases hl
end Go.Vm
