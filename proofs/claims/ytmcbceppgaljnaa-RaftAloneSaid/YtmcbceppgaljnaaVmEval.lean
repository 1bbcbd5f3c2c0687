/- Reckoning with the machine over values: one lemma a step. -/
import Derived.Test.YtmcbceppgaljnaaVmLaw
set_option linter.unusedSectionVars false
set_option linter.unusedSimpArgs false
set_option linter.unusedVariables false
namespace Go.Vm
variable {tbl : Tbl} {t : Nat → V} {σ : Store}

theorem okP_some {α : Type} {x : α} {K : α → Prop} : okP (some x) K = K x := rfl
theorem okP_none {α : Type} {K : α → Prop} : okP (none : Option α) K = False := rfl
theorem okP_map {α β : Type} {o : Option α} {f : α → β} {K : β → Prop} : okP (o.map f) K = okP o (fun x => K (f x)) := by cases o <;> rfl
theorem okP_bind {α β : Type} {o : Option α} {f : α → Option β} {K : β → Prop} : okP (o.bind f) K = okP o (fun x => okP (f x) K) := by cases o <;> rfl
theorem okP_congr_ {α : Type} {o o' : Option α} {K : α → Prop} (h : o = o') : okP o K = okP o' K := by rw [h]
theorem okP_mono {α : Type} {o : Option α} {K K' : α → Prop} (h : okP o K) (hk : ∀ x, K x → K' x) : okP o K' := by
  cases o with
  | none => exact h
  | some x => exact hk x h

theorem wp_skip_ (Q : Ex → St → Prop) (s : St) : wpA tbl .skip Q s = Q .normal s := rfl
theorem wp_ret_ (Q : Ex → St → Prop) (s : St) : wpA tbl .ret Q s = Q .ret s := rfl
theorem wp_exit_ (id : Nat) (Q : Ex → St → Prop) (s : St) : wpA tbl (.exit id) Q s = Q (.exit id) s := rfl
theorem wp_scope_ (c : IC) (Q : Ex → St → Prop) (s : St) : wpA tbl (.scope c) Q s = wpA tbl c Q s := rfl
/-- What stands behind the first of two. -/
def thenQ (tbl : Tbl) (b : IC) (Q : Ex → St → Prop) : Ex → St → Prop := fun e s => match e with | .normal => wpA tbl b Q s | e => Q e s
theorem thenQ_normal (b : IC) (Q : Ex → St → Prop) (s : St) : thenQ tbl b Q .normal s = wpA tbl b Q s := rfl
theorem thenQ_ret (b : IC) (Q : Ex → St → Prop) (s : St) : thenQ tbl b Q .ret s = Q .ret s := rfl
theorem thenQ_exit (b : IC) (Q : Ex → St → Prop) (i : Nat) (s : St) : thenQ tbl b Q (.exit i) s = Q (.exit i) s := rfl
theorem wp_seq_ (a b : IC) (Q : Ex → St → Prop) (s : St) : wpA tbl (.seq a b) Q s = wpA tbl a (thenQ tbl b Q) s := rfl
def blockQ (id : Nat) (Q : Ex → St → Prop) : Ex → St → Prop := fun e s => match e with | .exit j => if j = id then Q .normal s else Q (.exit j) s | e => Q e s
theorem blockQ_normal (id : Nat) (Q : Ex → St → Prop) (s : St) : blockQ id Q .normal s = Q .normal s := rfl
theorem blockQ_ret (id : Nat) (Q : Ex → St → Prop) (s : St) : blockQ id Q .ret s = Q .ret s := rfl
theorem blockQ_exit (id : Nat) (Q : Ex → St → Prop) (j : Nat) (s : St) : blockQ id Q (.exit j) s = if j = id then Q .normal s else Q (.exit j) s := rfl
theorem wp_block_ (id : Nat) (c : IC) (Q : Ex → St → Prop) (s : St) : wpA tbl (.block id c) Q s = wpA tbl c (blockQ id Q) s := rfl
/-- Two ways on. -/
def condC (tbl : Tbl) (a b : IC) (Q : Ex → St → Prop) (t : Nat → V) (σ : Store) (v : V) : Prop :=
  match v with
  | .bool c => (c = true → wpA tbl a Q ⟨t, σ⟩) ∧ (c = false → wpA tbl b Q ⟨t, σ⟩)
  | _ => False
theorem wp_cond_ (x : Opd) (a b : IC) (Q : Ex → St → Prop) : wpA tbl (.cond x a b) Q ⟨t, σ⟩ = condC tbl a b Q t σ (x.ev t) := rfl
theorem condC_true (a b : IC) (Q : Ex → St → Prop) : condC tbl a b Q t σ (.bool true) = wpA tbl a Q ⟨t, σ⟩ := by simp [condC]
theorem condC_false (a b : IC) (Q : Ex → St → Prop) : condC tbl a b Q t σ (.bool false) = wpA tbl b Q ⟨t, σ⟩ := by simp [condC]
theorem condC_of {a b : IC} {Q : Ex → St → Prop} {c : Bool} (h1 : c = true → wpA tbl a Q ⟨t, σ⟩) (h2 : c = false → wpA tbl b Q ⟨t, σ⟩) : condC tbl a b Q t σ (.bool c) := ⟨h1, h2⟩
theorem condC_dec {a b : IC} {Q : Ex → St → Prop} {c : Prop} [Decidable c] (h1 : c → wpA tbl a Q ⟨t, σ⟩) (h2 : ¬ c → wpA tbl b Q ⟨t, σ⟩) : condC tbl a b Q t σ (.bool (decide c)) := ⟨fun h => h1 (of_decide_eq_true h), fun h => h2 (of_decide_eq_false h)⟩
theorem wp_reg_ (ops : List IOp) (Q : Ex → St → Prop) (s : St) : wpA tbl (.reg false ops) Q s = regA tbl ops (Q .normal) s := rfl
theorem wp_draw_ (ops : List IOp) (Q : Ex → St → Prop) (s : St) : wpA tbl (.reg true ops) Q s = regD tbl 0 ops [] (Q .normal) s := rfl
theorem reg_nil (K : St → Prop) (s : St) : regA tbl [] K s = K s := rfl
/-- Behind one operation. -/
def contA (tbl : Tbl) (r : List IOp) (K : St → Prop) (t : Nat → V) (σ : Store) (d : Nat) (o : Option Res) : Prop := okP o (fun q => regA tbl r K ⟨upd t d q.val, upds σ q.wr⟩)
theorem contA_some (r : List IOp) (K : St → Prop) (d : Nat) (v : V) (wr : List (Nat × Blk)) (rd : List Nat) : contA tbl r K t σ d (some ⟨v, wr, rd⟩) = regA tbl r K ⟨upd t d v, upds σ wr⟩ := rfl
theorem contA_of {r : List IOp} {K : St → Prop} {d : Nat} {v : V} {wr : List (Nat × Blk)} {rd : List Nat} {o : Option Res} (ho : o = some ⟨v, wr, rd⟩) (h : regA tbl r K ⟨upd t d v, upds σ wr⟩) : contA tbl r K t σ d o := by rw [ho]; exact h
/-- Operations that are no calls by number. -/
def Ins.plain : Ins → Bool
  | .call _ _ | .callv _ _ => false
  | _ => true
theorem rawOf_plain {i : Ins} (h : i.plain = true) : rawOf tbl t i = none := by cases i <;> first | rfl | cases h
theorem reg_cons {i : Ins} (h : i.plain = true) (d b : Nat) (ds an : List Nat) (r : List IOp) (K : St → Prop) : regA tbl (⟨some d, none, i, ds, an, b⟩ :: r) K ⟨t, σ⟩ = contA tbl r K t σ d (insV tbl b t σ i) := by
  simp only [contA, regA, IOp.stepR, rawOf_plain h, IOp.step, IOp.wants, if_true, okP_map, putT]
def contN (tbl : Tbl) (r : List IOp) (K : St → Prop) (t : Nat → V) (σ : Store) (o : Option Res) : Prop := okP o (fun q => regA tbl r K ⟨t, upds σ q.wr⟩)
theorem contN_some (r : List IOp) (K : St → Prop) (v : V) (wr : List (Nat × Blk)) (rd : List Nat) : contN tbl r K t σ (some ⟨v, wr, rd⟩) = regA tbl r K ⟨t, upds σ wr⟩ := rfl
theorem contN_of {r : List IOp} {K : St → Prop} {v : V} {wr : List (Nat × Blk)} {rd : List Nat} {o : Option Res} (ho : o = some ⟨v, wr, rd⟩) (h : regA tbl r K ⟨t, upds σ wr⟩) : contN tbl r K t σ o := by rw [ho]; exact h
theorem reg_none {i : Ins} (h : i.plain = true) (b : Nat) (ds an : List Nat) (r : List IOp) (K : St → Prop) : regA tbl (⟨none, none, i, ds, an, b⟩ :: r) K ⟨t, σ⟩ = contN tbl r K t σ (insV tbl b t σ i) := by
  simp only [contN, regA, IOp.stepR, rawOf_plain h, IOp.step, IOp.wants, if_true, okP_map, putT]
/-- A call. -/
def callR (tbl : Tbl) (σ : Store) (b f : Nat) (vs : List V) : Option (V × Store) :=
  match (tbl f).bind (·.raw) with
  | some H => H vs σ
  | none => (callV tbl σ b f vs).map fun r => (r.val, upds σ r.wr)
def contC (tbl : Tbl) (r : List IOp) (K : St → Prop) (t : Nat → V) (d : Nat) (o : Option (V × Store)) : Prop := okP o fun p => regA tbl r K ⟨upd t d p.1, p.2⟩
def contCn (tbl : Tbl) (r : List IOp) (K : St → Prop) (t : Nat → V) (o : Option (V × Store)) : Prop := okP o fun p => regA tbl r K ⟨t, p.2⟩
theorem contC_some (r : List IOp) (K : St → Prop) (d : Nat) (v : V) (σ' : Store) : contC tbl r K t d (some (v, σ')) = regA tbl r K ⟨upd t d v, σ'⟩ := rfl
theorem contCn_some (r : List IOp) (K : St → Prop) (v : V) (σ' : Store) : contCn tbl r K t (some (v, σ')) = regA tbl r K ⟨t, σ'⟩ := rfl
theorem contC_of {r : List IOp} {K : St → Prop} {d : Nat} {v : V} {σ' : Store} {o : Option (V × Store)} (ho : o = some (v, σ')) (h : regA tbl r K ⟨upd t d v, σ'⟩) : contC tbl r K t d o := by rw [ho]; exact h
theorem contCn_of {r : List IOp} {K : St → Prop} {v : V} {σ' : Store} {o : Option (V × Store)} (ho : o = some (v, σ')) (h : regA tbl r K ⟨t, σ'⟩) : contCn tbl r K t o := by rw [ho]; exact h
theorem reg_call (d b f : Nat) (args : List Opd) (ds an : List Nat) (r : List IOp) (K : St → Prop) : regA tbl (⟨some d, none, .call f args, ds, an, b⟩ :: r) K ⟨t, σ⟩ = contC tbl r K t d (callR tbl σ b f (args.map (·.ev t))) := by
  simp only [contC, callR, regA, IOp.stepR, rawOf, Ins.tgt, Option.bind_some, rawF, IOp.step, IOp.wants, if_true]
  cases h : (tbl f).bind (·.raw) with
  | none => simp only [Option.map_none, okP_map, putT]; rfl
  | some H => simp only [Option.map_some, okP_map, putT]
theorem reg_calln (b f : Nat) (args : List Opd) (ds an : List Nat) (r : List IOp) (K : St → Prop) : regA tbl (⟨none, none, .call f args, ds, an, b⟩ :: r) K ⟨t, σ⟩ = contCn tbl r K t (callR tbl σ b f (args.map (·.ev t))) := by
  simp only [contCn, callR, regA, IOp.stepR, rawOf, Ins.tgt, Option.bind_some, rawF, IOp.step, IOp.wants, if_true]
  cases h : (tbl f).bind (·.raw) with
  | none => simp only [Option.map_none, okP_map, putT]; rfl
  | some H => simp only [Option.map_some, okP_map, putT]
/-- A call of what a value names. -/
def callvR (tbl : Tbl) (σ : Store) (b : Nat) (v : V) (args : List V) : Option (V × Store) :=
  match v with
  | .fn f caps => callR tbl σ b f (args ++ caps)
  | .mth f id g off => callR tbl σ b f (.ptr id g off :: args)
  | _ => none
theorem reg_callv (d b : Nat) (x : Opd) (args : List Opd) (ds an : List Nat) (r : List IOp) (K : St → Prop) : regA tbl (⟨some d, none, .callv x args, ds, an, b⟩ :: r) K ⟨t, σ⟩ = contC tbl r K t d (callvR tbl σ b (x.ev t) (args.map (·.ev t))) := by
  simp only [contC, callvR, callR, regA, IOp.stepR, rawOf, Ins.tgt, IOp.step, IOp.wants, if_true, insV]
  cases x.ev t <;> simp only [Option.bind_some, Option.bind_none, Option.map_none, rawF] <;> try rfl
  · rename_i f caps
    cases h : (tbl f).bind (·.raw) with
    | none => simp only [Option.map_none, okP_map, putT]
    | some H => simp only [Option.map_some, okP_map, putT]
  · rename_i f id g off
    cases h : (tbl f).bind (·.raw) with
    | none => simp only [Option.map_none, okP_map, putT]
    | some H => simp only [Option.map_some, okP_map, putT]
theorem reg_callvn (b : Nat) (x : Opd) (args : List Opd) (ds an : List Nat) (r : List IOp) (K : St → Prop) : regA tbl (⟨none, none, .callv x args, ds, an, b⟩ :: r) K ⟨t, σ⟩ = contCn tbl r K t (callvR tbl σ b (x.ev t) (args.map (·.ev t))) := by
  simp only [contCn, callvR, callR, regA, IOp.stepR, rawOf, Ins.tgt, IOp.step, IOp.wants, if_true, insV]
  cases x.ev t <;> simp only [Option.bind_some, Option.bind_none, Option.map_none, rawF] <;> try rfl
  · rename_i f caps
    cases h : (tbl f).bind (·.raw) with
    | none => simp only [Option.map_none, okP_map, putT]
    | some H => simp only [Option.map_some, okP_map, putT]
  · rename_i f id g off
    cases h : (tbl f).bind (·.raw) with
    | none => simp only [Option.map_none, okP_map, putT]
    | some H => simp only [Option.map_some, okP_map, putT]
/-- A guarded operation. -/
def grdC (tbl : Tbl) (o : IOp) (r : List IOp) (K : St → Prop) (t : Nat → V) (σ : Store) (d : Nat) (w : Bool) (v : V) : Prop :=
  match v with
  | .bool b => (b = w → regA tbl (o :: r) K ⟨t, σ⟩) ∧ (b ≠ w → regA tbl r K ⟨upd t d (.tup []), σ⟩)
  | _ => regA tbl r K ⟨upd t d (.tup []), σ⟩
theorem grdC_yes (o : IOp) (r : List IOp) (K : St → Prop) (d : Nat) (w : Bool) : grdC tbl o r K t σ d w (.bool w) = regA tbl (o :: r) K ⟨t, σ⟩ := by simp [grdC]
theorem grdC_tf (o : IOp) (r : List IOp) (K : St → Prop) (d : Nat) : grdC tbl o r K t σ d true (.bool false) = regA tbl r K ⟨upd t d (.tup []), σ⟩ := by simp [grdC]
theorem grdC_ft (o : IOp) (r : List IOp) (K : St → Prop) (d : Nat) : grdC tbl o r K t σ d false (.bool true) = regA tbl r K ⟨upd t d (.tup []), σ⟩ := by simp [grdC]
theorem grdC_no (o : IOp) (r : List IOp) (K : St → Prop) (d : Nat) (w : Bool) : grdC tbl o r K t σ d w (.tup []) = regA tbl r K ⟨upd t d (.tup []), σ⟩ := rfl
theorem stepR_grd {d b : Nat} {g : Option (Nat × Bool)} {i : Ins} {ds an : List Nat} {s : St} (hw : (⟨some d, g, i, ds, an, b⟩ : IOp).wants s.t = true) : (⟨some d, g, i, ds, an, b⟩ : IOp).stepR tbl s = (⟨some d, none, i, ds, an, b⟩ : IOp).stepR tbl s := by
  have h2 : (⟨some d, none, i, ds, an, b⟩ : IOp).wants s.t = true := rfl
  unfold IOp.stepR IOp.step
  simp only [hw, h2, if_true]
theorem stepR_not {d b : Nat} {g : Option (Nat × Bool)} {i : Ins} {ds an : List Nat} {s : St} (hw : ¬ (⟨some d, g, i, ds, an, b⟩ : IOp).wants s.t = true) : (⟨some d, g, i, ds, an, b⟩ : IOp).stepR tbl s = some ⟨upd s.t d (.tup []), s.σ⟩ := by
  unfold IOp.stepR IOp.step
  simp only [if_neg hw, Option.map_some, putT]
  split <;> rfl
theorem reg_grd (d j b : Nat) (w : Bool) (i : Ins) (ds an : List Nat) (r : List IOp) (K : St → Prop) : regA tbl (⟨some d, some (j, w), i, ds, an, b⟩ :: r) K ⟨t, σ⟩ = grdC tbl ⟨some d, none, i, ds, an, b⟩ r K t σ d w (t j) := by
  by_cases hw : (⟨some d, some (j, w), i, ds, an, b⟩ : IOp).wants t = true
  · have : t j = .bool w := by
      unfold IOp.wants at hw
      simp only at hw
      split at hw
      · rename_i b hb; rw [hb]; rw [beq_iff_eq.1 hw]
      · cases hw
    rw [this, grdC_yes]
    simp only [regA]
    rw [stepR_grd (s := ⟨t, σ⟩) hw]
  · have : grdC tbl ⟨some d, none, i, ds, an, b⟩ r K t σ d w (t j) = (regA tbl r K ⟨upd t d (.tup []), σ⟩) := by
      unfold IOp.wants at hw
      simp only at hw
      unfold grdC
      split
      · rename_i b hb
        rw [hb] at hw
        have hne : b ≠ w := fun h => hw (by simp [h])
        simp [hne]
      · rfl
    rw [this]
    simp only [regA]
    rw [stepR_not (s := ⟨t, σ⟩) hw]
    rfl

/-- Regions of open order in which nothing is written. -/
def regR (tbl : Tbl) : List IOp → (St → Prop) → St → Prop
  | [], K, s => K s
  | o :: r, K, s => okP (o.step tbl s) fun p => p.2 = [] ∧ regR tbl r K p.1
theorem clash_reads {a b : List Nat × List Nat} (ha : a.2 = []) (hb : b.2 = []) : clash a b = false := by simp [clash, ha, hb]
theorem regD_of_R : ∀ {ops : List IOp} {n : Nat} {acc : List (List Nat × List Nat)} {K : St → Prop} {s : St}, (∀ i, (acc.getD i ([], [])).2 = []) → regR tbl ops K s → regD tbl n ops acc K s
  | [], _, _, _, _, _, h => h
  | o :: r, n, acc, K, s, ha, h => by
    simp only [regR] at h
    simp only [regD]
    refine okP_mono h fun p hp => ⟨?_, regD_of_R (fun i => ?_) hp.2⟩
    · rw [List.all_eq_true]
      intro i _
      rw [clash_reads (ha i) hp.1]
      simp
    · have := ha i
      simp only [List.getD_eq_getElem?_getD] at this ⊢
      rcases Nat.lt_trichotomy i acc.length with h1 | h1 | h1
      · rw [List.getElem?_append_left h1]; exact this
      · subst h1; rw [List.getElem?_append_right (Nat.le_refl _)]; simpa using hp.1
      · rw [List.getElem?_append_right (by omega), List.getElem?_eq_none (by simp; omega)]; rfl
theorem wp_draw_R {ops : List IOp} {Q : Ex → St → Prop} {s : St} (h : regR tbl ops (Q .normal) s) : wpA tbl (.reg true ops) Q s := regD_of_R (fun i => by simp) h
theorem regR_nil (K : St → Prop) (s : St) : regR tbl [] K s = K s := rfl
def contR (tbl : Tbl) (r : List IOp) (K : St → Prop) (t : Nat → V) (σ : Store) (d : Nat) (o : Option Res) : Prop := okP o (fun q => q.wr = [] ∧ regR tbl r K ⟨upd t d q.val, σ⟩)
theorem contR_some (r : List IOp) (K : St → Prop) (d : Nat) (v : V) (rd : List Nat) : contR tbl r K t σ d (some ⟨v, [], rd⟩) = regR tbl r K ⟨upd t d v, σ⟩ := by simp [contR, okP]
theorem contR_of {r : List IOp} {K : St → Prop} {d : Nat} {v : V} {rd : List Nat} {o : Option Res} (ho : o = some ⟨v, [], rd⟩) (h : regR tbl r K ⟨upd t d v, σ⟩) : contR tbl r K t σ d o := by rw [ho, contR_some]; exact h
theorem regR_cons (d b : Nat) (i : Ins) (ds an : List Nat) (r : List IOp) (K : St → Prop) : regR tbl (⟨some d, none, i, ds, an, b⟩ :: r) K ⟨t, σ⟩ = contR tbl r K t σ d (insV tbl b t σ i) := by
  simp only [contR, regR, IOp.step, IOp.wants, if_true, okP_map, putT]
  cases insV tbl b t σ i with
  | none => rfl
  | some q =>
    simp only [okP_some, List.map_eq_nil_iff]
    refine propext (and_congr_right fun h => ?_)
    rw [h]
    exact Iff.rfl
/-- A function's end. -/
def outR (modes : List Mode) (res : List IRes) (ps : List V) (s : St) : Option (V × List V) :=
  (ressV s res).bind fun vs => (ownV s.σ dep (tupV vs)).bind fun (r, is) => (iosV s.σ modes ps).bind fun (ios, js) => if (is ++ js).Nodup then some (r, ios) else out2V modes ps s.σ is (tupV vs)
def endQ (modes : List Mode) (res : List IRes) (ps : List V) (Q : V × List V → Prop) : Ex → St → Prop := fun e s => (match e with | .exit _ => False | _ => True) ∧ okP (outR modes res ps s) Q
theorem endQ_ret (modes : List Mode) (res : List IRes) (ps : List V) (Q : V × List V → Prop) (s : St) : endQ modes res ps Q .ret s = okP (outR modes res ps s) Q := by simp [endQ]
theorem endQ_normal (modes : List Mode) (res : List IRes) (ps : List V) (Q : V × List V → Prop) (s : St) : endQ modes res ps Q .normal s = okP (outR modes res ps s) Q := by simp [endQ]
theorem fnA_of {modes : List Mode} {np nt : Nat} {res : List IRes} {body : IC} {args ps : List V} {wr : List (Nat × Blk)} {k : Nat} {Q : V × List V → Prop} (hn : args.length = np) (hi : inV args = some (ps, wr, k))
    (h : wpA tbl body (endQ modes res ps Q) ⟨fun i => ps.getD i (.tup []), upds (fun _ => noBlk) wr⟩) : fnA tbl modes ⟨np, nt, res, body, none⟩ args Q := by
  refine ⟨hn, ?_⟩
  rw [hi]
  exact h

theorem upd_eq_self {α : Type} (f : Nat → α) (i : Nat) (x : α) : upd f i x i = x := by simp [upd]
theorem upd_app {α : Type} (f : Nat → α) (i : Nat) (x : α) (j : Nat) : upd f i x j = if j = i then x else f j := rfl
theorem upds_cons_ (p : Nat × Blk) (l : List (Nat × Blk)) : upds σ (p :: l) = upds (upd σ p.1 p.2) l := rfl
theorem eqV_sl_nil (k : SK) (n m : Nat) (cs ds : List V) : eqV .sl (.sl k n cs) (.sl .nil m ds) = some (k == .nil) := by cases k <;> rfl
theorem eqV_sli_nil (i g o n e m : Nat) (ds : List V) : eqV .sl (.sli i g o n e) (.sl .nil m ds) = some false := rfl
theorem eqV_bool (a b : Bool) : eqV .bool (.bool a) (.bool b) = some (a == b) := rfl
theorem eqV_nilp : eqV .ptr .nilp .nilp = some true := rfl
theorem eqV_ptr (i g o : Nat) : eqV .ptr (.ptr i g o) .nilp = some false := rfl
theorem eqV_pt (cs : List V) (o : Nat) : eqV .ptr (.pt cs o) .nilp = some false := rfl
theorem ev_t (i : Nat) : (Opd.t i).ev t = t i := rfl
theorem ev_c (v : V) : (Opd.c v).ev t = v := rfl

section
variable {base : Nat}
theorem in_mov (x : Opd) : insV tbl base t σ (.mov x) = some ⟨x.ev t, [], []⟩ := rfl
theorem in_pick (c a b : Opd) : insV tbl base t σ (.pick c a b) = (match c.ev t with | .bool true => some ⟨a.ev t, [], []⟩ | .bool false => some ⟨b.ev t, [], []⟩ | _ => none) := rfl
theorem in_bin (op : BinOp) (x y : Opd) : insV tbl base t σ (.bin op x y) = (binV op (x.ev t) (y.ev t)).bind fun v => some ⟨v, [], []⟩ := rfl
theorem in_un (op : UnOp) (x : Opd) : insV tbl base t σ (.un op x) = (unV op (x.ev t)).bind fun v => some ⟨v, [], []⟩ := rfl
theorem in_eqn (neg : Bool) (k : EqK) (x y : Opd) : insV tbl base t σ (.eqn neg k x y) = (eqV k (x.ev t) (y.ev t)).bind fun b => some ⟨.bool (if neg then !b else b), [], []⟩ := rfl
theorem in_toInt (k : IntKind) (x : Opd) : insV tbl base t σ (.toInt k x) = (match x.ev t with | .int _ n => some ⟨.int k (k.wrap n), [], []⟩ | _ => none) := rfl
theorem in_ext (i : Nat) (x : Opd) : insV tbl base t σ (.ext i x) = (match x.ev t with | .tup vs => (vs[i]?).bind fun v => some ⟨v, [], []⟩ | _ => none) := rfl
theorem in_call (f : Nat) (xs : List Opd) : insV tbl base t σ (.call f xs) = callV tbl σ base f (xs.map (·.ev t)) := rfl

theorem regA_mono : ∀ {ops : List IOp} {K K' : St → Prop} {s : St}, (∀ s, K s → K' s) → regA tbl ops K s → regA tbl ops K' s
  | [], _, _, _, h, hk => h _ hk
  | _ :: _, _, _, _, h, hk => okP_mono hk fun _ hx => regA_mono h hx
theorem regD_mono : ∀ {ops : List IOp} {n : Nat} {acc : List (List Nat × List Nat)} {K K' : St → Prop} {s : St}, (∀ s, K s → K' s) → regD tbl n ops acc K s → regD tbl n ops acc K' s
  | [], _, _, _, _, _, h, hk => h _ hk
  | _ :: _, _, _, _, _, _, h, hk => okP_mono hk fun _ hx => ⟨hx.1, regD_mono h hx.2⟩
theorem wpA_mono : ∀ {c : IC} {Q Q' : Ex → St → Prop} {s : St}, (∀ e s, Q e s → Q' e s) → wpA tbl c Q s → wpA tbl c Q' s
  | .skip, _, _, _, h, hk => h _ _ hk
  | .reg false _, _, _, _, h, hk => regA_mono (fun s => h .normal s) hk
  | .reg true _, _, _, _, h, hk => regD_mono (fun s => h .normal s) hk
  | .seq a b, _, _, _, h, hk => wpA_mono (c := a) (fun e s hq => by
      cases e with
      | normal => exact wpA_mono (c := b) h hq
      | exit i => exact h _ _ hq
      | ret => exact h _ _ hq) hk
  | .cond x a b, _, _, _, h, hk => by
      simp only [wpA] at hk ⊢
      split at hk
      · exact ⟨fun hc => wpA_mono h (hk.1 hc), fun hc => wpA_mono h (hk.2 hc)⟩
      · exact hk.elim
  | .block id c, _, _, _, h, hk => wpA_mono (c := c) (fun e s hq => by
      cases e with
      | normal => exact h _ _ hq
      | exit i =>
        simp only at hq ⊢
        split at hq
        · rename_i hi; rw [if_pos hi]; exact h _ _ hq
        · rename_i hi; rw [if_neg hi]; exact h _ _ hq
      | ret => exact h _ _ hq) hk
  | .loop c, Q, Q', s, h, hk => by
      obtain ⟨n, hk⟩ := hk
      refine ⟨n, ?_⟩
      induction n generalizing s with
      | zero => exact hk
      | succ n ih =>
        exact wpA_mono (c := c) (fun e s hq => by
          cases e with
          | normal => exact ih _ hq
          | exit i => exact h _ _ hq
          | ret => exact h _ _ hq) hk
  | .exit _, _, _, _, h, hk => h _ _ hk
  | .scope c, _, _, _, h, hk => wpA_mono (c := c) h hk
  | .ret, _, _, _, h, hk => h _ _ hk

theorem loopA_step {c : IC} {Q : Ex → St → Prop} : ∀ {n : Nat} {s : St}, loopA (wpA tbl c) n Q s → loopA (wpA tbl c) (n + 1) Q s
  | 0, _, h => h.elim
  | n + 1, s, h => wpA_mono (c := c) (fun e s hq => by
      cases e with
      | normal => exact loopA_step hq
      | exit i => exact hq
      | ret => exact hq) h
theorem loopA_le {c : IC} {Q : Ex → St → Prop} {n m : Nat} (hm : n ≤ m) {s : St} (h : loopA (wpA tbl c) n Q s) : loopA (wpA tbl c) m Q s := by
  induction hm with
  | refl => exact h
  | step _ ih => exact loopA_step ih

/-- What stands behind a round. -/
def roundQ (I : Nat → St → Prop) (n : Nat) (Q : Ex → St → Prop) : Ex → St → Prop := fun e s => match e with | .normal => ∃ m, m < n ∧ I m s | e => Q e s
theorem roundQ_normal (I : Nat → St → Prop) (n : Nat) (Q : Ex → St → Prop) (s : St) : roundQ I n Q .normal s = ∃ m, m < n ∧ I m s := rfl
theorem roundQ_exit (I : Nat → St → Prop) (n i : Nat) (Q : Ex → St → Prop) (s : St) : roundQ I n Q (.exit i) s = Q (.exit i) s := rfl
theorem roundQ_ret (I : Nat → St → Prop) (n : Nat) (Q : Ex → St → Prop) (s : St) : roundQ I n Q .ret s = Q .ret s := rfl
/-- A loop whose rounds count down. -/
theorem wp_loop_rule {c : IC} {Q : Ex → St → Prop} (I : Nat → St → Prop) {n : Nat} {s : St} (h0 : I n s) (h : ∀ n s, I n s → wpA tbl c (roundQ I n Q) s) : wpA tbl (.loop c) Q s := by
  have key : ∀ n s, I n s → loopA (wpA tbl c) (n + 1) Q s := by
    intro n
    induction n using Nat.strongRecOn with
    | _ n ih =>
      intro s hs
      refine wpA_mono (c := c) (fun e s hq => ?_) (h n s hs)
      cases e with
      | normal =>
        obtain ⟨m, hm, hI⟩ := hq
        exact loopA_le (show m + 1 ≤ n by omega) (ih m hm s hI)
      | exit i => exact hq
      | ret => exact hq
  exact ⟨n + 1, key n s h0⟩

theorem okP_det {α : Type} {o : Option α} {K : α → Prop} (h : okP o K) : ∃ x, o = some x ∧ K x := by
  cases o with
  | none => exact h.elim
  | some x => exact ⟨x, rfl, h⟩
theorem regA_det : ∀ {ops : List IOp} {K : St → Prop} {s : St}, regA tbl ops K s → ∃ s', K s' ∧ ∀ K' : St → Prop, K' s' → regA tbl ops K' s
  | [], _, s, h => ⟨s, h, fun _ h => h⟩
  | o :: r, K, s, h => by
    obtain ⟨x, hx, h1⟩ := okP_det h
    obtain ⟨s', h2, h3⟩ := regA_det h1
    exact ⟨s', h2, fun K' hk => by simp only [regA]; rw [hx]; exact h3 K' hk⟩
theorem regD_det : ∀ {ops : List IOp} {n : Nat} {acc : List (List Nat × List Nat)} {K : St → Prop} {s : St}, regD tbl n ops acc K s → ∃ s', K s' ∧ ∀ K' : St → Prop, K' s' → regD tbl n ops acc K' s
  | [], _, _, _, s, h => ⟨s, h, fun _ h => h⟩
  | o :: r, n, acc, K, s, h => by
    obtain ⟨x, hx, h0, h1⟩ := okP_det h
    obtain ⟨s', h2, h3⟩ := regD_det h1
    exact ⟨s', h2, fun K' hk => by simp only [regD]; rw [hx]; exact ⟨h0, h3 K' hk⟩⟩
theorem wpA_det : ∀ {c : IC} {Q : Ex → St → Prop} {s : St}, wpA tbl c Q s → ∃ e s', Q e s' ∧ ∀ Q' : Ex → St → Prop, Q' e s' → wpA tbl c Q' s
  | .skip, _, s, h => ⟨_, s, h, fun _ h => h⟩
  | .reg false _, _, _, h => by
    obtain ⟨s', h1, h2⟩ := regA_det h
    exact ⟨_, s', h1, fun Q' hq => h2 _ hq⟩
  | .reg true _, _, _, h => by
    obtain ⟨s', h1, h2⟩ := regD_det h
    exact ⟨_, s', h1, fun Q' hq => h2 _ hq⟩
  | .seq a b, Q, s, h => by
    obtain ⟨e, s', h1, h2⟩ := wpA_det (c := a) h
    cases e with
    | normal =>
      obtain ⟨e', s'', h3, h4⟩ := wpA_det (c := b) h1
      exact ⟨e', s'', h3, fun Q' hq => h2 _ (h4 Q' hq)⟩
    | exit i => exact ⟨_, s', h1, fun Q' hq => h2 _ hq⟩
    | ret => exact ⟨_, s', h1, fun Q' hq => h2 _ hq⟩
  | .cond x a b, Q, s, h => by
    simp only [wpA] at h
    split at h
    · rename_i c hc
      cases c with
      | true =>
        obtain ⟨e, s', h1, h2⟩ := wpA_det (h.1 rfl)
        refine ⟨e, s', h1, fun Q' hq => ?_⟩
        simp only [wpA]
        rw [hc]
        exact ⟨fun _ => h2 Q' hq, fun h => by cases h⟩
      | false =>
        obtain ⟨e, s', h1, h2⟩ := wpA_det (h.2 rfl)
        refine ⟨e, s', h1, fun Q' hq => ?_⟩
        simp only [wpA]
        rw [hc]
        exact ⟨(fun h => by cases h), (fun _ => h2 Q' hq)⟩
    · exact h.elim
  | .block id c, Q, s, h => by
    obtain ⟨e, s', h1, h2⟩ := wpA_det (c := c) h
    cases e with
    | normal => exact ⟨_, s', h1, fun Q' hq => h2 _ hq⟩
    | exit i =>
      simp only at h1
      by_cases hi : i = id
      · rw [if_pos hi] at h1
        exact ⟨_, s', h1, fun Q' hq => h2 _ (by simp only [if_pos hi]; exact hq)⟩
      · rw [if_neg hi] at h1
        exact ⟨_, s', h1, fun Q' hq => h2 _ (by simp only [if_neg hi]; exact hq)⟩
    | ret => exact ⟨_, s', h1, fun Q' hq => h2 _ hq⟩
  | .loop c, Q, s, h => by
    obtain ⟨n, h⟩ := h
    induction n generalizing s with
    | zero => exact h.elim
    | succ n ih =>
      obtain ⟨e, s', h1, h2⟩ := wpA_det (c := c) h
      cases e with
      | normal =>
        obtain ⟨e', s'', h3, h4⟩ := ih _ h1
        refine ⟨e', s'', h3, fun Q' hq => ?_⟩
        obtain ⟨k, hk⟩ := h4 Q' hq
        exact ⟨k + 1, h2 _ hk⟩
      | exit i => exact ⟨_, s', h1, fun Q' hq => ⟨1, h2 _ hq⟩⟩
      | ret => exact ⟨_, s', h1, fun Q' hq => ⟨1, h2 _ hq⟩⟩
  | .exit _, _, s, h => ⟨_, s, h, fun _ h => h⟩
  | .scope c, Q, s, h => wpA_det (c := c) h
  | .ret, _, s, h => ⟨_, s, h, fun _ h => h⟩

/-- A loop is its round, and itself again. -/
def againQ (tbl : Tbl) (c : IC) (Q : Ex → St → Prop) : Ex → St → Prop := fun e s => match e with | .normal => wpA tbl (.loop c) Q s | e => Q e s
theorem againQ_normal (c : IC) (Q : Ex → St → Prop) (s : St) : againQ tbl c Q .normal s = wpA tbl (.loop c) Q s := rfl
theorem againQ_exit (c : IC) (Q : Ex → St → Prop) (i : Nat) (s : St) : againQ tbl c Q (.exit i) s = Q (.exit i) s := rfl
theorem againQ_ret (c : IC) (Q : Ex → St → Prop) (s : St) : againQ tbl c Q .ret s = Q .ret s := rfl
theorem wp_unroll (c : IC) (Q : Ex → St → Prop) (s : St) : wpA tbl (.loop c) Q s = wpA tbl c (againQ tbl c Q) s := by
  refine propext ⟨fun h => ?_, fun h => ?_⟩
  · obtain ⟨n, h⟩ := h
    cases n with
    | zero => exact h.elim
    | succ n =>
      refine wpA_mono (c := c) (fun e s hq => ?_) h
      cases e with
      | normal => exact ⟨n, hq⟩
      | exit i => exact hq
      | ret => exact hq
  · obtain ⟨e, s', h1, h2⟩ := wpA_det (c := c) h
    cases e with
    | normal =>
      obtain ⟨n, hn⟩ := h1
      exact ⟨n + 1, h2 _ hn⟩
    | exit i => exact ⟨1, h2 _ h1⟩
    | ret => exact ⟨1, h2 _ h1⟩

theorem TblOk.nil {P : Program} : TblOk P (fun _ => none) := fun _ _ h => by cases h
theorem good_of {P : Program} (hT : TblOk P tbl) (hm : P.follows .mixedOrders = true) {f : FuncId} {fn : Func} (hf : P.funcs[f]? = some fn) (hname : (fn.name == "runtime.NumGoroutine") = false) {β : Nat} {F : IFun} (hc : compF P β fn = some F) {E : Entry}
    (hE : ∀ xs r ios, E.G xs = some (r, ios) → fnA tbl E.modes F xs (fun p => p = (r, ios))) : Good P f E := fn_good hT (draw_ok hT hm) hf hname hc hE

end
end Go.Vm
