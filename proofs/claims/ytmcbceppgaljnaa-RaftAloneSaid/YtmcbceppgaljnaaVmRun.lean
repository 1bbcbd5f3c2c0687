/- Runs of the machine over values are the model's. -/
import Derived.Test.YtmcbceppgaljnaaVmStep
import Derived.Scope
set_option linter.unusedSectionVars false
set_option linter.unusedSimpArgs false
set_option linter.unusedVariables false
namespace Go.Vm
variable {P : Program} {w0 w : World} {S0 : Terr} {ρ ρ0 : Ren} {pin pin0 : Pin} {σ : Store} {a : Act} {t : Nat → V} {N : Nat}

/-- Ends of a piece of code. -/
def exOf : Exit → Option Ex
  | .normal => some .normal
  | .exit id => some (.exit id)
  | .ret => some .ret
  | _ => none
/-- What stands behind a piece, on the model's side. -/
def Post (N : Nat) (w0 : World) (S0 : Terr) (ρ0 : Ren) (pin0 : Pin) (Q : Ex → St → Prop) (e : Exit) (a : Act) (w : World) : Prop :=
  ∃ x s, exOf e = some x ∧ Q x s ∧ Rel N w0 S0 ρ0 pin0 s a w

theorem comp1_of {β : Nat} {ops : Array Oper} {draw : Bool} {c : IC} (h : compReg P β N ops draw = some c) : ∃ ios : List IOp, c = .reg draw ios ∧ ios.length = ops.size ∧ (∀ (j : Nat) (o : Oper) (i : IOp), ops[j]? = some o → ios[j]? = some i → Comp1 P N ops o i) ∧
    (draw = true → apartOk ios = true ∧ ∃ deps an : List (List Nat), ancOk an deps = true ∧ deps.length = ops.size ∧ ∀ (j : Nat) (o : Oper) (i : IOp), ops[j]? = some o → ios[j]? = some i → i.anc = an.getD j [] ∧ deps.getD j [] = (o.after.toList.filter fun e => Region.binds .any e).map (·.on)) := by
  unfold compReg at h
  simp only [Option.bind_eq_some_iff] at h
  obtain ⟨l, hl, ios, hios, h⟩ := h
  rw [Option.ite_none_right_eq_some] at h
  obtain ⟨hd, h⟩ := h
  cases h
  obtain ⟨l1, l2⟩ := mapO_spec hl
  obtain ⟨i1, i2⟩ := mapO_spec hios
  have hdl : ∀ (d : Bool), (if d = true then l.map fun (p : Oper × Ins) => ((p.1.after.toList.filter fun e => Region.binds .any e).map (·.on)) else l.map fun _ => []).length = l.length := fun d => by cases d <;> simp
  have hal : ∀ dl : List (List Nat), (ancs dl).length = dl.length := by
    have gen : ∀ (dl acc : List (List Nat)), (dl.foldl (fun acc d => acc ++ [(d ++ (d.map fun i => acc.getD i []).flatten).eraseDups]) acc).length = acc.length + dl.length := by
      intro dl
      induction dl with
      | nil => intro acc; simp
      | cons d dl ih => intro acc; rw [List.foldl_cons, ih]; simp; omega
    intro dl
    simpa [ancs] using gen dl []
  have han : ∀ (d : Bool) (dl : List (List Nat)), dl.length = l.length → (if d = true then ancs dl else dl).length = l.length := fun d dl h => by cases d <;> simp [hal, h]
  have hzl : ios.length = ops.size := by
    rw [i1]
    simp only [List.length_zip, hdl, han draw _ (hdl draw), Nat.min_self]
    rw [l1]
    simp
  refine ⟨ios, rfl, hzl, fun j o i ho hi => ?_, fun hdraw => ?_⟩
  · obtain ⟨q, hq⟩ := getElem?_of_lt_len i1.symm hi
    have hqi := i2 j q i hq hi
    rw [List.getElem?_zip_eq_some] at hq
    obtain ⟨hq1, hq2⟩ := hq
    rw [List.getElem?_zip_eq_some] at hq1
    obtain ⟨hq1, hq3⟩ := hq1
    have hlo := l2 j o q.1.1 (by simpa using ho) hq1
    obtain ⟨ins, hins, hlo⟩ := Option.map_eq_some_iff.1 hlo
    have e1 : q.1.1.1 = o := by rw [← hlo]
    have e2 : q.1.1.2 = ins := by rw [← hlo]
    rw [e1, e2] at hqi
    split at hqi
    case isFalse => cases hqi
    rename_i hdst
    split at hqi
    · rename_i hg
      cases hqi
      exact ⟨hins, rfl, hdst, by rw [hg]⟩
    · rename_i jj ww hg
      obtain ⟨s, hs, rfl⟩ := Option.map_eq_some_iff.1 hqi
      exact ⟨hins, rfl, hdst, by rw [hg]; exact ⟨s, hs, rfl⟩⟩
  · subst hdraw
    have hd' := hd.resolve_left (by simp)
    refine ⟨hd'.2, _, _, hd'.1, by simp [l1], fun j o i ho hi => ?_⟩
    obtain ⟨q, hq⟩ := getElem?_of_lt_len i1.symm hi
    have hqi := i2 j q i hq hi
    rw [List.getElem?_zip_eq_some] at hq
    obtain ⟨hq1, hq2⟩ := hq
    rw [List.getElem?_zip_eq_some] at hq1
    obtain ⟨hq1, hq3⟩ := hq1
    have hlo := l2 j o q.1.1 (by simpa using ho) hq1
    obtain ⟨ins, hins, hlo⟩ := Option.map_eq_some_iff.1 hlo
    have e1 : q.1.1.1 = o := by rw [← hlo]
    constructor
    · have : i.anc = q.2 := by
        split at hqi
        case isFalse => cases hqi
        split at hqi
        · cases hqi; rfl
        · obtain ⟨s, hs, rfl⟩ := Option.map_eq_some_iff.1 hqi; rfl
      rw [this, List.getD_eq_getElem?_getD, hq2]
      rfl
    · simp only [if_true] at hq3
      rw [List.getD_eq_getElem?_getD]
      simp only [if_true]
      rw [hq3]
      rw [List.getElem?_map] at hq3
      obtain ⟨p, hp, hp2⟩ := Option.map_eq_some_iff.1 hq3
      rw [hq1] at hp
      cases hp
      rw [e1] at hp2
      simpa using hp2.symm

theorem least {p : Nat → Prop} (h : ∃ n, p n) : ∃ n, p n ∧ ∀ m, p m → n ≤ m := by
  obtain ⟨n, hn⟩ := h
  induction n using Nat.strongRecOn with
  | _ n ih =>
    by_cases hm : ∃ m, m < n ∧ p m
    · obtain ⟨m, h1, h2⟩ := hm
      exact ih m h1 h2
    · exact ⟨n, hn, fun m hp => Nat.le_of_not_lt fun hlt => hm ⟨m, hlt, hp⟩⟩

theorem Post.mono {Q Q' : Ex → St → Prop} (h : ∀ e s, Q e s → Q' e s) {e : Exit} {a : Act} {w : World} (hp : Post N w0 S0 ρ0 pin0 Q e a w) : Post N w0 S0 ρ0 pin0 Q' e a w := by
  obtain ⟨x, s, h1, h2, h3⟩ := hp
  exact ⟨x, s, h1, h _ _ h2, h3⟩

theorem stuck_no {tbl : Tbl} {Q : Ex → St → Prop} {s : St} (h : wpA tbl stuckC Q s) : False := by
  simp [stuckC, wpA, regA, IOp.stepR, rawOf, Ins.tgt, IOp.step, IOp.wants, insV, okP] at h
section
variable {tbl : Tbl} (hT : TblOk P tbl) (hm : P.follows .mixedOrders = true)
  (hD : ∀ {β : Nat} {ops : Array Oper} {ios : List IOp} {id : Nat} {Q : Ex → St → Prop} {s : St} {a : Act} {w : World}, compReg P β N ops true = some (.reg true ios) → regD tbl 0 ios [] (Q .normal) s → Rel N w0 S0 ρ0 pin0 s a w → (Code.region id ops true).wp P (Post N w0 S0 ρ0 pin0 Q) a w)
include hT hD

theorem run_sound {β : Nat} : ∀ (c : Code) {ic : IC} {Q : Ex → St → Prop} {s : St} {a : Act} {w : World}, compC P β N c = some ic → wpA tbl ic Q s → Rel N w0 S0 ρ0 pin0 s a w → c.wp P (Post N w0 S0 ρ0 pin0 Q) a w
  | .skip, ic, Q, s, a, w, hc, h, hr => by
    cases hc
    exact wp_skip ⟨.normal, s, rfl, h, hr⟩
  | .region id ops draw, ic, Q, s, a, w, hc, h, hr => by
    simp only [compC] at hc
    obtain ⟨ios, rfl, h1, h2, h3⟩ := comp1_of hc
    cases draw with
    | false =>
      refine wp_region ?_
      have := regA_sound (Q := Post N w0 S0 ρ0 pin0 Q) hT h1 h2 (K := Q .normal) (fun s a w hq hr => ⟨.normal, s, rfl, hq, hr⟩) ops.size 0 (by omega) h hr
      rw [List.range_eq_range']
      exact this
    | true => exact hD hc h hr
  | .seq x y, ic, Q, s, a, w, hc, h, hr => by
    simp only [compC, Option.bind_eq_some_iff, Option.map_eq_some_iff] at hc
    obtain ⟨ix, hx, iy, hy, rfl⟩ := hc
    simp only [wpA] at h
    refine wp_seq (wp_mono (run_sound x hx h hr) fun e a' w' hp => ?_)
    obtain ⟨xe, s', h1, h2, h3⟩ := hp
    cases e with
    | normal => cases h1; exact run_sound y hy h2 h3
    | exit id => cases h1; exact ⟨_, s', rfl, h2, h3⟩
    | ret => cases h1; exact ⟨_, s', rfl, h2, h3⟩
    | goto l => cases h1
    | panic c => cases h1
    | outgrown => cases h1
  | .cond x c1 c2, ic, Q, s, a, w, hc, h, hr => by
    simp only [compC, Option.bind_eq_some_iff, Option.map_eq_some_iff] at hc
    obtain ⟨x', hx, i1, h1, i2, h2, rfl⟩ := hc
    simp only [wpA] at h
    split at h
    case h_2 => exact h.elim
    rename_i b hev
    obtain ⟨ρ, pin, y1, y2, hF, hS⟩ := hr
    have hR := opd_sound hF.slots hx
    rw [hev] at hR
    have hb := hR.bool_inv
    cases b with
    | true => exact wp_cond_true hb (run_sound c1 h1 (h.1 rfl) ⟨ρ, pin, y1, y2, hF, hS⟩)
    | false => exact wp_cond_false hb (run_sound c2 h2 (h.2 rfl) ⟨ρ, pin, y1, y2, hF, hS⟩)
  | .block id c, ic, Q, s, a, w, hc, h, hr => by
    simp only [compC, Option.map_eq_some_iff] at hc
    obtain ⟨i1, h1, rfl⟩ := hc
    simp only [wpA] at h
    refine wp_block (wp_mono (run_sound c h1 h hr) fun e a' w' hp => ?_)
    obtain ⟨xe, s', k1, k2, k3⟩ := hp
    cases e with
    | normal => cases k1; exact ⟨_, s', rfl, k2, k3⟩
    | exit id' =>
      cases k1
      simp only at k2
      show if id' = id then _ else _
      by_cases hid : id' = id
      · rw [if_pos hid] at k2 ⊢; exact ⟨_, s', rfl, k2, k3⟩
      · rw [if_neg hid] at k2 ⊢; exact ⟨_, s', rfl, k2, k3⟩
    | ret => cases k1; exact ⟨_, s', rfl, k2, k3⟩
    | goto l => cases k1
    | panic c => cases k1
    | outgrown => cases k1
  | .loop c, ic, Q, s, a, w, hc, h, hr => by
    simp only [compC, Option.map_eq_some_iff] at hc
    obtain ⟨i1, h1, rfl⟩ := hc
    simp only [wpA] at h
    obtain ⟨n, hn⟩ := h
    -- the measure: how many rounds are left
    classical
    let p : Act → World → Nat → Prop := fun a w n => ∃ s, loopA (wpA tbl i1) n Q s ∧ Rel N w0 S0 ρ0 pin0 s a w
    let μ : Act → World → Nat := fun a w => if h : ∃ n, p a w n then Classical.choose (least h) else 0
    refine wp_loop (fun a w => ∃ n, p a w n) μ ⟨n, s, hn, hr⟩ fun a w hI => ?_
    have hμ : ∀ {a w} (h : ∃ n, p a w n), μ a w = Classical.choose (least h) := fun h => by show (if h : _ then Classical.choose (least h) else 0) = _; rw [dif_pos h]
    obtain ⟨hs1, hmin⟩ := Classical.choose_spec (least hI)
    rw [← hμ hI] at hs1 hmin
    obtain ⟨s1, q1, q2⟩ := hs1
    cases hk : μ a w with
    | zero => rw [hk] at q1; exact q1.elim
    | succ k =>
      rw [hk] at q1
      simp only [loopA] at q1
      refine wp_mono (run_sound c h1 q1 q2) fun e a' w' hp => ?_
      obtain ⟨xe, s', k1, k2, k3⟩ := hp
      cases e with
      | normal =>
        cases k1
        have hI' : ∃ n, p a' w' n := ⟨k, s', k2, k3⟩
        refine ⟨hI', ?_⟩
        have h3 := (Classical.choose_spec (least hI')).2 k ⟨s', k2, k3⟩
        rw [← hμ hI'] at h3
        omega
      | exit id' => cases k1; exact ⟨_, s', rfl, k2, k3⟩
      | ret => cases k1; exact ⟨_, s', rfl, k2, k3⟩
      | goto l => cases k1
      | panic c => cases k1
      | outgrown => cases k1
  | .exit id, ic, Q, s, a, w, hc, h, hr => by
    cases hc
    exact wp_exit ⟨_, s, rfl, h, hr⟩
  | .scope c, ic, Q, s, a, w, hc, h, hr => by
    simp only [compC, Option.map_eq_some_iff] at hc
    obtain ⟨i1, h1, rfl⟩ := hc
    refine wp_scope_straight (wp_mono (run_sound c h1 h hr) fun e a' w' hp => ?_)
    obtain ⟨xe, s', k1, k2, k3⟩ := hp
    cases e with
    | goto l => cases k1
    | _ => exact ⟨xe, s', k1, k2, k3⟩
  | .ret, ic, Q, s, a, w, hc, h, hr => by
    cases hc
    exact wp_ret ⟨_, s, rfl, h, hr⟩
  | .rangeFunc _ _ _ _, ic, Q, s, a, w, hc, h, hr => by cases hc; exact (stuck_no h).elim
  | .label _, ic, Q, s, a, w, hc, h, hr => by cases hc; exact (stuck_no h).elim
  | .goto _, ic, Q, s, a, w, hc, h, hr => by cases hc; exact (stuck_no h).elim
  | .refuse _, ic, Q, s, a, w, hc, h, hr => by cases hc; exact (stuck_no h).elim
end
end Go.Vm
