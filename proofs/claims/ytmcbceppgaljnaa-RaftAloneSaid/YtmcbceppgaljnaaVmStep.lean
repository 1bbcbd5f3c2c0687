/- One operation in its frame; regions of one order. -/
import Derived.Test.YtmcbceppgaljnaaVmCall2
set_option linter.unusedSectionVars false
set_option linter.unusedSimpArgs false
set_option linter.unusedVariables false
namespace Go.Vm
variable {P : Program} {w0 w : World} {S0 : Terr} {ρ ρ0 : Ren} {pin pin0 : Pin} {σ : Store} {a : Act} {t : Nat → V} {N : Nat}

/-- The frame stands for the slots. -/
structure FS (N : Nat) (ρ : Ren) (pin : Pin) (t : Nat → V) (a : Act) : Prop where
  slots : Slots ρ pin t a
  size : N ≤ a.tmps.size
  defers : a.defers = []
theorem FS.mono {ρ' : Ren} {pin' : Pin} (h : FS N ρ pin t a) (hr : RExt ρ ρ') (hp : PExt pin pin') : FS N ρ' pin' t a := ⟨fun k => (h.slots k).mono hr hp, h.size, h.defers⟩
theorem FS.put {v : V} {c : Value} (h : FS N ρ pin t a) (hv : R ρ pin v c) {d : Option Nat} (hd : d.all (· < N) = true) : FS N ρ pin (putT t d v) (a.put d c) := by
  cases d with
  | none => exact h
  | some d =>
    have hlt : d < a.tmps.size := Nat.lt_of_lt_of_le (by simpa using hd) h.size
    refine ⟨fun k => ?_, by simp [Act.put, h.size], h.defers⟩
    simp only [putT, Act.put]
    by_cases hk : k = d
    · subst hk
      rw [upd_same]
      simp only [Array.getD_eq_getD_getElem?, Array.getElem?_setIfInBounds, if_true, hlt, Option.getD_some]
      exact hv
    · rw [upd_ne _ _ hk]
      have := h.slots k
      simp only [Array.getD_eq_getD_getElem?] at this
      simp only [Array.getD_eq_getD_getElem?, Array.getElem?_setIfInBounds, if_neg (fun c => hk (Eq.symm c))]
      exact this

/-- A state of the machine over values, and the model's. -/
def Rel (N : Nat) (w0 : World) (S0 : Terr) (ρ0 : Ren) (pin0 : Pin) (s : St) (a : Act) (w : World) : Prop :=
  ∃ ρ pin, RExt ρ0 ρ ∧ PExt pin0 pin ∧ FS N ρ pin s.t a ∧ Sim w0 S0 ρ pin s.σ w

/-- What the compiler gives for an operation. -/
structure Comp1 (P : Program) (N : Nat) (ops : Array Oper) (o : Oper) (i : IOp) : Prop where
  ins : compOp P o.op = some i.ins
  dst : i.dst = o.dst
  lt : i.dst.all (· < N) = true
  grd : match o.guard with
    | none => i.grd = none
    | some (j, w) => ∃ s, (ops[j]?).bind (·.dst) = some s ∧ i.grd = some (s, w)

theorem wants_eq {ops : Array Oper} {o : Oper} {i : IOp} (hs : Slots ρ pin t a) (hc : Comp1 P N ops o i) (hN : N ≤ a.tmps.size) : i.wants t = Region.wanted o (yielded ops a.tmps) := by
  have hg := hc.grd
  unfold IOp.wants Region.wanted
  cases ho : o.guard with
  | none => rw [ho] at hg; rw [hg]
  | some p =>
    obtain ⟨j, w⟩ := p
    rw [ho] at hg
    obtain ⟨s, h1, h2⟩ := hg
    rw [h2]
    simp only [yielded, h1, Option.bind_some]
    have hR := hs s
    rw [Array.getD_eq_getD_getElem?] at hR
    cases hq : a.tmps[s]? with
    | none =>
      rw [hq] at hR
      simp only [Option.getD_none, undef] at hR
      generalize t s = v at hR
      cases hR
      simp
    | some c =>
      rw [hq] at hR
      simp only [Option.getD_some] at hR
      generalize t s = v at hR
      cases hR <;> simp

theorem undef_R : R ρ pin (.tup []) undef := .tup [] #[] rfl (fun j v c hj => by simp at hj)

theorem bind_calls {α : Type} {x : Option α} {f : α → Option Ins} {i : Ins} (h : x.bind f = some i) (hf : ∀ y, f y = some i → i.calls = false) : i.calls = false := by
  cases x with
  | none => cases h
  | some y => exact hf y h
theorem map_calls {α : Type} {x : Option α} {f : α → Ins} {i : Ins} (h : x.map f = some i) (hf : ∀ y, (f y).calls = false) : i.calls = false := by
  cases x with
  | none => cases h
  | some y => cases h; exact hf y
theorem ite_calls {c : Prop} [Decidable c] {x y : Option Ins} {i : Ins} (h : (if c then x else y) = some i) (hx : x = some i → i.calls = false) (hy : y = some i → i.calls = false) : i.calls = false := by
  split at h
  · exact hx h
  · exact hy h
theorem compOp0_calls {op : Op} {i : Ins} (h : compOp0 P op = some i) (hc : i.calls = true) : ∃ c, op = .call c := by
  cases op
  case call c => exact ⟨c, rfl⟩
  all_goals
    exfalso
    have key : i.calls = false := by
      unfold compOp0 at h
      repeat' first
        | (with_reducible refine bind_calls h fun y h => ?_)
        | (with_reducible refine map_calls h fun y => ?_)
        | (with_reducible refine ite_calls h (fun h => ?_) (fun h => ?_))
        | contradiction
        | rfl
        | (cases h; rfl)
        | (cases h; done)
        | split at h
    rw [key] at hc; cases hc

theorem compOp0_of {op : Op} {i : Ins} (h : compOp P op = some i) (hc : i.calls = true) : compOp0 P op = some i := by
  unfold compOp at h
  cases hq : cmpIns P op with
  | some j =>
    rw [hq] at h
    cases h
    rw [cmpIns_calls hq] at hc
    cases hc
  | none =>
    rw [hq] at h
    cases h0 : compOp0 P op with
    | some j =>
      rw [h0] at h
      exact h
    | none =>
      rw [h0] at h
      cases h
      cases hc
theorem compOp_calls {op : Op} {i : Ins} (h : compOp P op = some i) (hc : i.calls = true) : ∃ c, op = .call c := compOp0_calls (compOp0_of h hc) hc

theorem mapO_RL (hs : Slots ρ pin t a) {xs : List Operand} {ys : List Opd} (h : mapO opd xs = some ys) : RL ρ pin (ys.map (·.ev t)) (xs.map a.eval) := opds_sound hs h
/-- A call's callee and arguments. -/
theorem call_parts (hs : Slots ρ pin t a) {tbl : Tbl} {o : Oper} {i : Ins} (hc : compOp P o.op = some i) (hcall : i.calls = true) {base : Nat} {r : Res} (hr : insV tbl base t σ i = some r) :
    ∃ f vs vals, callV tbl σ base f vs = some r ∧ RL ρ pin vs vals ∧ execOp a.eval o = callFunc f vals.toArray := by
  obtain ⟨c, hop⟩ := compOp_calls hc hcall
  replace hc := compOp0_of hc hcall
  rw [hop] at hc
  simp only [compOp0] at hc
  unfold compCall at hc
  have exec : ∀ x, c.callee = .value x → execOp a.eval o = (do let d ← Deferred.ofValue (a.eval x) (c.args.map a.eval); invoke d.target d.args : Sem Next) := fun x hx => by simp only [execOp, hop, resolve, hx]
  split at hc
  · rename_i f hcal
    obtain ⟨as, has, rfl⟩ := Option.map_eq_some_iff.1 hc
    refine ⟨f, _, _, hr, mapO_RL hs has, ?_⟩
    rw [exec _ hcal]
    simp only [Act.eval, Deferred.ofValue]
    show (invoke (.fn (.func f) #[]) (#[] ++ c.args.map a.eval) : Sem Next) = _
    simp only [invoke]
    congr 1
    apply Array.ext'
    simp
  · rename_i x hnf hcal
    simp only [Option.bind_eq_some_iff, Option.map_eq_some_iff] at hc
    obtain ⟨x', hx, as, has, rfl⟩ := hc
    have hR := opd_sound hs hx
    unfold insV at hr
    simp only at hr
    split at hr
    case h_3 => cases hr
    case h_2 =>
      rename_i f id g off hev
      rw [hev] at hR
      generalize hcx : a.eval x = cx at hR
      cases hR with
      | mth _ _ _ _ e he hm =>
        refine ⟨f, _, _, hr, RL.cons (.ptr id g off e he hm) (mapO_RL hs has), ?_⟩
        rw [exec _ hcal, hcx]
        simp only [Deferred.ofValue]
        show (invoke (.fn (.func f) #[]) (#[.pointer (some ⟨e.b, e.base + off, none⟩)] ++ c.args.map a.eval) : Sem Next) = _
        simp only [invoke]
        congr 1
        apply Array.ext'
        simp
    rename_i f caps hev
    rw [hev] at hR
    generalize hcx : a.eval x = cx at hR
    cases hR with
    | fn _ _ arr hl hh =>
      refine ⟨f, _, _, hr, (mapO_RL hs has).append (RL.ofArr hl hh), ?_⟩
      rw [exec _ hcal, hcx]
      simp only [Deferred.ofValue]
      show (invoke (.fn (.func f) arr) (#[] ++ c.args.map a.eval) : Sem Next) = _
      simp only [invoke]
      congr 1
      apply Array.ext'
      simp
  · split at hc
    · split at hc
      · obtain ⟨_, _, rfl⟩ := Option.map_eq_some_iff.1 hc; simp [Ins.calls] at hcall
      · obtain ⟨_, _, rfl⟩ := Option.map_eq_some_iff.1 hc; simp [Ins.calls] at hcall
      · cases hc; simp [Ins.calls] at hcall
      · obtain ⟨_, _, rfl⟩ := Option.map_eq_some_iff.1 hc; simp [Ins.calls] at hcall
      · cases hc
    · cases hc
  all_goals
    exfalso
    have key : i.calls = false := by
      repeat' first
        | (with_reducible refine bind_calls hc fun y hc => ?_)
        | (with_reducible refine map_calls hc fun y => ?_)
        | (with_reducible refine ite_calls hc (fun hc => ?_) (fun hc => ?_))
        | contradiction
        | rfl
        | (cases hc; rfl)
        | (cases hc; done)
        | split at hc
    rw [key] at hcall; cases hcall

/-- One operation. -/
theorem step_sound {tbl : Tbl} (hT : TblOk P tbl) {ops : Array Oper} {o : Oper} {i : IOp} (hc : Comp1 P N ops o i) {s s' : St} {wr : List Nat} (hst : i.step tbl s = some (s', wr)) (hrel : Rel N w0 S0 ρ0 pin0 s a w) {K : Act → World → Prop} {Q : Exit → Act → World → Prop}
    (hK : ∀ a' w', Rel N w0 S0 ρ0 pin0 s' a' w' → K a' w') : if Region.wanted o (yielded ops a.tmps) then o.wp P a w K Q else K (a.put o.dst undef) w := by
  obtain ⟨ρ, pin, x1, x2, hF, hS⟩ := hrel
  rw [← wants_eq hF.slots hc hF.size]
  unfold IOp.step at hst
  by_cases hw : i.wants s.t = true
  · rw [if_pos hw] at hst ⊢
    obtain ⟨r, hr, he⟩ := Option.map_eq_some_iff.1 hst
    cases he
    unfold Oper.wp
    by_cases hcall : i.ins.calls = false
    · obtain ⟨ρ', pin', w', c, y1, y2, hS', hR', hrun⟩ := ins_sound hF.slots hS hc.ins hcall hr
      have hput : ∀ K' : Act → World → Prop, (∀ a' w', Rel N w0 S0 ρ0 pin0 ⟨putT s.t i.dst r.val, upds s.σ r.wr⟩ a' w' → K' a' w') → K' (a.put o.dst c) w' := fun K' hK' => hK' _ _ ⟨ρ', pin', x1.trans y1, x2.trans y2, by rw [← hc.dst]; exact (hF.mono y1 y2).put hR' hc.lt, hS'⟩
      rcases hrun with hrun | ⟨hrun, rfl⟩
      · rw [hrun]
        exact hput K hK
      · rw [hrun]
        exact hput K hK
    · -- a call
      have hcl := call_parts (a := a) hF.slots hc.ins (by simpa using hcall) hr
      obtain ⟨f, vs, vals, h1, h2, h3⟩ := hcl
      obtain ⟨k1, k2⟩ := call_sound hT hS h2 h1
      rw [h3, k1]
      rw [Oper.upon_enter]
      refine k2.mono fun e w' hh => ?_
      obtain ⟨c, ρ', pin', rfl, y1, y2, hS', hR'⟩ := hh
      exact hK _ _ ⟨ρ', pin', x1.trans y1, x2.trans y2, by rw [← hc.dst]; exact (hF.mono y1 y2).put hR' hc.lt, hS'⟩
  · rw [if_neg hw] at hst ⊢
    cases hst
    exact hK _ _ ⟨ρ, pin, x1, x2, by rw [← hc.dst]; exact hF.put undef_R hc.lt, hS⟩

/-- A call's callee and arguments, whatever it does. -/
theorem raw_parts (hs : Slots ρ pin t a) {o : Oper} {i : Ins} {f : Nat} {vs : List V} (hc : compOp P o.op = some i) (ht : i.tgt t = some (f, vs)) :
    ∃ vals, RL ρ pin vs vals ∧ execOp a.eval o = callFunc f vals.toArray := by
  have hcall : i.calls = true := by cases i <;> first | rfl | cases ht
  obtain ⟨c, hop⟩ := compOp_calls hc hcall
  replace hc := compOp0_of hc hcall
  rw [hop] at hc
  simp only [compOp0] at hc
  unfold compCall at hc
  have exec : ∀ x, c.callee = .value x → execOp a.eval o = (do let d ← Deferred.ofValue (a.eval x) (c.args.map a.eval); invoke d.target d.args : Sem Next) := fun x hx => by simp only [execOp, hop, resolve, hx]
  split at hc
  · rename_i g hcal
    obtain ⟨as, has, rfl⟩ := Option.map_eq_some_iff.1 hc
    cases ht
    refine ⟨_, mapO_RL hs has, ?_⟩
    rw [exec _ hcal]
    simp only [Act.eval, Deferred.ofValue]
    show (invoke (.fn (.func f) #[]) (#[] ++ c.args.map a.eval) : Sem Next) = _
    simp only [invoke]
    congr 1
    apply Array.ext'
    simp
  · rename_i x hnf hcal
    simp only [Option.bind_eq_some_iff, Option.map_eq_some_iff] at hc
    obtain ⟨x', hx, as, has, rfl⟩ := hc
    have hR := opd_sound hs hx
    unfold Ins.tgt at ht
    simp only at ht
    split at ht
    case h_3 => cases ht
    case h_2 =>
      rename_i f' id g off hev
      cases ht
      rw [hev] at hR
      generalize hcx : a.eval x = cx at hR
      cases hR with
      | mth _ _ _ _ e he hm =>
        refine ⟨_, RL.cons (.ptr id g off e he hm) (mapO_RL hs has), ?_⟩
        rw [exec _ hcal, hcx]
        simp only [Deferred.ofValue]
        show (invoke (.fn (.func f) #[]) (#[.pointer (some ⟨e.b, e.base + off, none⟩)] ++ c.args.map a.eval) : Sem Next) = _
        simp only [invoke]
        congr 1
        apply Array.ext'
        simp
    rename_i f' caps hev
    cases ht
    rw [hev] at hR
    generalize hcx : a.eval x = cx at hR
    cases hR with
    | fn _ _ arr hl hh =>
      refine ⟨_, (mapO_RL hs has).append (RL.ofArr hl hh), ?_⟩
      rw [exec _ hcal, hcx]
      simp only [Deferred.ofValue]
      show (invoke (.fn (.func f) arr) (#[] ++ c.args.map a.eval) : Sem Next) = _
      simp only [invoke]
      congr 1
      apply Array.ext'
      simp
  · split at hc
    · split at hc
      · obtain ⟨_, _, rfl⟩ := Option.map_eq_some_iff.1 hc; simp [Ins.calls] at hcall
      · obtain ⟨_, _, rfl⟩ := Option.map_eq_some_iff.1 hc; simp [Ins.calls] at hcall
      · cases hc; simp [Ins.calls] at hcall
      · obtain ⟨_, _, rfl⟩ := Option.map_eq_some_iff.1 hc; simp [Ins.calls] at hcall
      · cases hc
    · cases hc
  all_goals
    exfalso
    have key : i.calls = false := by
      repeat' first
        | (with_reducible refine bind_calls hc fun y hc => ?_)
        | (with_reducible refine map_calls hc fun y => ?_)
        | (with_reducible refine ite_calls hc (fun hc => ?_) (fun hc => ?_))
        | contradiction
        | rfl
        | (cases hc; rfl)
        | (cases hc; done)
        | split at hc
    rw [key] at hcall; cases hcall
theorem rawOf_some {tbl : Tbl} {t : Nat → V} {i : Ins} {xs : List V} {H : List V → Store → Option (V × Store)} (h : rawOf tbl t i = some (xs, H)) : ∃ f, i.tgt t = some (f, xs) ∧ (tbl f).bind (·.raw) = some H := by
  unfold rawOf at h
  obtain ⟨q, h1, h2⟩ := Option.bind_eq_some_iff.1 h
  obtain ⟨f, ys⟩ := q
  unfold rawF at h2
  obtain ⟨H', h3, h4⟩ := Option.map_eq_some_iff.1 h2
  cases h4
  exact ⟨f, h1, h3⟩
theorem stepR_sound {tbl : Tbl} (hT : TblOk P tbl) {ops : Array Oper} {o : Oper} {i : IOp} (hc : Comp1 P N ops o i) {s s' : St} (hst : i.stepR tbl s = some s') (hrel : Rel N w0 S0 ρ0 pin0 s a w) {K : Act → World → Prop} {Q : Exit → Act → World → Prop}
    (hK : ∀ a' w', Rel N w0 S0 ρ0 pin0 s' a' w' → K a' w') : if Region.wanted o (yielded ops a.tmps) then o.wp P a w K Q else K (a.put o.dst undef) w := by
  unfold IOp.stepR at hst
  split at hst
  · rename_i args H hraw
    obtain ⟨f, htg, hH⟩ := rawOf_some hraw
    obtain ⟨E, hE, hH⟩ := Option.bind_eq_some_iff.1 hH
    obtain ⟨ρ, pin, x1, x2, hF, hS⟩ := hrel
    rw [← wants_eq hF.slots hc hF.size]
    by_cases hw : i.wants s.t = true
    · rw [if_pos hw] at hst ⊢
      obtain ⟨p, hp, he⟩ := Option.map_eq_some_iff.1 hst
      cases he
      unfold Oper.wp
      obtain ⟨vals, h2, h3⟩ := raw_parts (o := o) hF.slots hc.ins htg
      obtain ⟨k1, k2⟩ := (hT f E hE).2 H hH
      rw [h3, k1]
      rw [Oper.upon_enter]
      refine (k2 w0 S0 ρ pin s.σ w _ _ p.1 p.2 hp hS h2).mono fun e w' hh => ?_
      obtain ⟨c, ρ', pin', rfl, y1, y2, hS', hR'⟩ := hh
      exact hK _ _ ⟨ρ', pin', x1.trans y1, x2.trans y2, by rw [← hc.dst]; exact (hF.mono y1 y2).put hR' hc.lt, hS'⟩
    · rw [if_neg hw] at hst ⊢
      cases hst
      exact hK _ _ ⟨ρ, pin, x1, x2, by rw [← hc.dst]; exact hF.put undef_R hc.lt, hS⟩
  · obtain ⟨p, hp, rfl⟩ := Option.map_eq_some_iff.1 hst
    obtain ⟨s', wr⟩ := p
    exact step_sound hT hc hp hrel hK

/-- Operations in the order of the text. -/
theorem regA_sound {tbl : Tbl} (hT : TblOk P tbl) {ops : Array Oper} {ios : List IOp} (hlen : ios.length = ops.size) (hc : ∀ (j : Nat) (o : Oper) (i : IOp), ops[j]? = some o → ios[j]? = some i → Comp1 P N ops o i)
    {K : St → Prop} {Q : Exit → Act → World → Prop} (hK : ∀ s a w, K s → Rel N w0 S0 ρ0 pin0 s a w → Q .normal a w) :
    ∀ (n k : Nat) {s : St} {a : Act} {w : World}, k + n = ops.size → regA tbl (ios.drop k) K s → Rel N w0 S0 ρ0 pin0 s a w → wpOps P ops Q (List.range' k n) a w
  | 0, k, s, a, w, hk, h, hrel => by
    rw [List.drop_of_length_le (by omega)] at h
    exact hK s a w h hrel
  | n + 1, k, s, a, w, hk, h, hrel => by
    have hlt : k < ios.length := by omega
    rw [List.drop_eq_getElem_cons hlt] at h
    simp only [regA] at h
    rw [List.range'_succ]
    simp only [wpOps]
    have ho : ops[k]? = some ops[k] := Array.getElem?_eq_getElem (by omega)
    rw [ho]
    simp only
    unfold okP at h
    split at h
    · rename_i p hst
      have := stepR_sound (Q := Q) hT (hc k ops[k] ios[k] ho (List.getElem?_eq_getElem hlt)) hst hrel (K := wpOps P ops Q (List.range' (k + 1) n)) (fun a' w' hr => regA_sound hT hlen hc hK n (k + 1) (by omega) h hr)
      split at this
      · rename_i hw; rw [if_pos hw]; exact .inl this
      · rename_i hw; rw [if_neg hw]; exact this
    · exact h.elim
end Go.Vm
