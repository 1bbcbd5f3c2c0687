/- A function of the given program does what the machine over values reckons. -/
import Derived.Test.YtmcbceppgaljnaaVmRun
set_option linter.unusedSectionVars false
set_option linter.unusedSimpArgs false
set_option linter.unusedVariables false
namespace Go.Vm
variable {P : Program} {w0 w : World} {S0 : Terr} {ρ ρ0 : Ren} {pin pin0 : Pin} {σ : Store} {a : Act} {t : Nat → V} {N : Nat}

def resOf (P : Program) (x : ResultVar) : Option IRes :=
  match x with
  | .tmp t => some (IRes.tmp t)
  | .cell t ty => (aggC P ty).bind fun g => (szC P ty).bind fun n => if g ∨ n = 1 then some (.cell t g n) else none

theorem res_sound (hs : Slots ρ pin t a) (hS : Sim w0 S0 ρ pin σ w) : ∀ {l : List ResultVar} {rs : List IRes} {vs : List V}, mapO (resOf P) l = some rs → ressV ⟨t, σ⟩ rs = some vs →
    ∃ cs, (l.mapM (m := Sem) fun x => match x with
      | .tmp t => pure (a.tmps.getD t undef)
      | .cell b ty => do loadVar ty (← asAddr (a.tmps.getD b undef))).run P w = .ok cs w ∧ RL ρ pin vs cs
  | [], rs, vs, h, hv => by
    cases h
    cases hv
    exact ⟨[], by simp, RL.nil⟩
  | x :: l, rs, vs, h, hv => by
    simp only [mapO, Option.bind_eq_some_iff, Option.map_eq_some_iff] at h
    obtain ⟨r, hr, rs', hrs, rfl⟩ := h
    simp only [ressV, Option.bind_eq_some_iff, Option.map_eq_some_iff] at hv
    obtain ⟨v, hv1, vs', hv2, rfl⟩ := hv
    obtain ⟨cs, h1, h2⟩ := res_sound hs hS hrs hv2
    have key : ∃ c, ((match x with
      | .tmp t => pure (a.tmps.getD t undef)
      | .cell b ty => do loadVar ty (← asAddr (a.tmps.getD b undef))) : Sem Value).run P w = .ok c w ∧ R ρ pin v c := by
      cases x with
      | tmp k =>
        cases hr
        cases hv1
        exact ⟨_, rfl, hs k⟩
      | cell b ty =>
        simp only [resOf, Option.bind_eq_some_iff] at hr
        obtain ⟨g, hg, n, hn, hr⟩ := hr
        rw [Option.ite_none_right_eq_some] at hr
        obtain ⟨hg1, hr⟩ := hr
        cases hr
        unfold resV at hv1
        simp only at hv1
        have hR := hs b
        split at hv1
        case h_2 => cases hv1
        rename_i id gn off hev
        rw [hev] at hR
        rw [Option.ite_none_right_eq_some] at hv1
        obtain ⟨hc, hv1⟩ := hv1
        obtain ⟨e, he, hm, hce⟩ := hR.ptr_inv
        obtain ⟨arr, el, fz, r1, r2, r3, r4, r5, r6, r7, _⟩ := hS.rowOf hc.1 hc.2.1 he hm
        obtain ⟨c, k1, k2, k3⟩ := run_loadVar_any (P := P) (o := e.base + off) hg hn hg1 r1 (by omega)
        refine ⟨c, ?_, load_R r5 hc.2.2 r7 r6 (by cases g <;> simpa using hv1) k2 k3⟩
        simp only [hce]
        simp [asAddr, k1]
    obtain ⟨c, k1, k2⟩ := key
    refine ⟨c :: cs, ?_, RL.cons k2 h2⟩
    rw [List.mapM_cons, Sem.run_bind, k1]
    simp only [Result.andThen_ok, Sem.run_bind]
    rw [h1]
    rfl

theorem ios_sound (hS : Sim w0 S0 ρ pin σ w) : ∀ {ms : List Mode} {vs xs : List V} {vals : List Value} {js : List Nat}, iosV σ ms vs = some (xs, js) → RL ρ pin vs vals → vs.length = ms.length → ∃ oss, BL pin w xs (ioVals ms vals) oss ∧ Rows ρ σ js oss.flatten
  | [], vs, xs, vals, js, h, hl, _ => by
    simp only [iosV, Option.some.injEq, Prod.mk.injEq] at h
    obtain ⟨rfl, rfl⟩ := h
    exact ⟨[], by cases vals <;> exact BL.nil, .nil⟩
  | _ :: _, [], _, _, _, _, _, hm => by simp at hm
  | m :: ms, v :: vs, xs, vals, js, h, hl, hm => by
    have hl0 := hl.len
    cases vals with
    | nil => simp at hl0
    | cons c vals =>
      obtain ⟨l1, l2⟩ := hl.inv
      have hm' : vs.length = ms.length := by simpa using hm
      cases m with
      | io =>
        simp only [iosV, Option.bind_eq_some_iff] at h
        obtain ⟨⟨x, is⟩, h1, ⟨xs', js'⟩, h2, h⟩ := h
        simp only [Option.some.injEq, Prod.mk.injEq] at h
        obtain ⟨rfl, rfl⟩ := h
        obtain ⟨o, b1, b2⟩ := own_sound hS (PExt.refl _) dep h1 l1
        obtain ⟨oss, c1, c2⟩ := ios_sound hS h2 l2 hm'
        exact ⟨o :: oss, BL.cons b1 c1, by simpa using b2.append c2⟩
      | bor =>
        simp only [iosV] at h
        have := ios_sound hS h l2 hm'
        exact this
      | mov =>
        simp only [iosV] at h
        have := ios_sound hS h l2 hm'
        exact this

/-- What regions of open order owe. -/
def DrawOk (P : Program) (tbl : Tbl) : Prop := ∀ {β N : Nat} {w0 : World} {S0 : Terr} {ρ0 : Ren} {pin0 : Pin} {ops : Array Oper} {ios : List IOp} {id : Nat} {Q : Ex → St → Prop} {s : St} {a : Act} {w : World},
  compReg P β N ops true = some (.reg true ios) → regD tbl 0 ios [] (Q .normal) s → Rel N w0 S0 ρ0 pin0 s a w → (Code.region id ops true).wp P (Post N w0 S0 ρ0 pin0 Q) a w

theorem dupL_mem : ∀ {l : List Nat} {i : Nat}, i ∈ dupL l → i ∈ l
  | [], i, h => by simp [dupL] at h
  | a :: l, i, h => by
    unfold dupL at h
    split at h
    · rcases List.mem_cons.1 h with rfl | h
      · simp
      · exact List.mem_cons_of_mem _ (dupL_mem h)
    · exact List.mem_cons_of_mem _ (dupL_mem h)

theorem fn_good {tbl : Tbl} (hT : TblOk P tbl) (hD : DrawOk P tbl) {f : FuncId} {fn : Func} (hf : P.funcs[f]? = some fn) (hname : (fn.name == "runtime.NumGoroutine") = false) {β : Nat} {F : IFun} (hc : compF P β fn = some F) {E : Entry}
    (hE : ∀ xs r ios, E.G xs = some (r, ios) → fnA tbl E.modes F xs (fun p => p = (r, ios))) : Good P f E := by
  unfold compF at hc
  simp only [Option.bind_eq_some_iff, Option.map_eq_some_iff] at hc
  obtain ⟨body, hbody, ic, hic, rs, hrs, rfl⟩ := hc
  refine ⟨fun args w => ?_, fun w pin xs vals os r ios hG hB hnd hpn hpp hml => ?_⟩
  · have hn := beq_eq_false_iff_ne.1 hname
    simp [callFunc, hf, hn, hbody]
  · obtain ⟨hnp, hfn⟩ := hE xs r ios hG
    simp only at hnp hfn
    unfold okP at hfn
    split at hfn
    case h_2 => exact hfn.elim
    rename_i p hin
    obtain ⟨vs, wr, k'⟩ := p
    simp only at hfn
    -- the beginning
    let S0 : Terr := ⟨(· ∈ os.flatten), fun b => pin b ≠ none⟩
    have hS0 : Sim w S0 noRen pin (fun _ => noBlk) w := ⟨Fr.refl _ _, fun id h => absurd rfl h, fun i j ei ej h => (by cases h), hpp, fun id g e h => (by cases h), fun b o h => .inl (by show pin b ≠ none; rw [h]; simp)⟩
    obtain ⟨ρ1, C, hR, _, hvl⟩ := mat_list (mat_sound (fun _ => noBlk) dep) hin hS0 hB ⟨hnd, fun b hb => ⟨hpn b hb, .inl hb, fun ⟨j, e, h, _⟩ => (by cases h)⟩⟩ (fun _ _ => rfl)
    have hFS : FS fn.ntmps ρ1 pin (fun i => vs.getD i (.tup [])) { tmps := vals.toArray ++ Array.replicate (fn.ntmps - vals.toArray.size) undef, defers := [] } := by
      refine ⟨fun k => ?_, by simp; omega, rfl⟩
      simp only [Array.getD_eq_getD_getElem?, List.getD_eq_getElem?_getD]
      by_cases hk : k < vs.length
      · have hk2 : k < vals.length := by rw [← hR.len]; exact hk
        rw [List.getElem?_eq_getElem hk, Array.getElem?_append_left (by simpa using hk2)]
        simp only [List.getElem?_toArray, List.getElem?_eq_getElem hk2, Option.getD_some]
        exact hR.at_ k _ _ (List.getElem?_eq_getElem hk) (List.getElem?_eq_getElem hk2)
      · have hk2 : ¬ k < vals.length := by rw [← hR.len]; exact hk
        rw [List.getElem?_eq_none (by omega), Array.getElem?_append_right (by simp; omega), Array.getElem?_replicate]
        simp only [Option.getD_none]
        split <;> exact undef_R
    refine calls_of_wp hf hbody (wp_mono (run_sound hT (fun hc h hr => hD hc h hr) body hic hfn ⟨ρ1, pin, RExt.refl _, PExt.refl _, hFS, C.sim⟩) fun e a' w' hp => ?_)
    obtain ⟨x, s, h1, ⟨h2, h3⟩, ρ2, pin2, y1, y2, hF, hS⟩ := hp
    -- the end
    have fin : a'.defers = [] ∧ ∃ v, (results fn a'.tmps).run P w' = .ok v w' ∧ After w pin os.flatten E.modes vals r ios (.returned v) w' := by
      refine ⟨hF.defers, ?_⟩
      split at h3
      case h_2 => exact h3.elim
      rename_i q hout
      subst h3
      unfold outV at hout
      simp only [Option.bind_eq_some_iff] at hout
      obtain ⟨rvs, hrvs, ⟨rr, is⟩, how, ⟨ios', js⟩, hio, hout⟩ := hout
      simp only at how hio hout
      obtain ⟨cs, hcs1, hcs2⟩ := res_sound (P := P) (w := w') (t := s.t) (σ := s.σ) hF.slots hS hrs hrvs
      have hres : ∃ v, (results fn a'.tmps).run P w' = .ok v w' ∧ R ρ2 pin2 (tupV rvs) v := by
        unfold results
        rw [Sem.run_bind, Array.mapM_eq_mapM_toList, Sem.run_map]
        erw [hcs1]
        simp only [Result.andThen_ok]
        have hlen := hcs2.len
        match rvs, cs, hcs2, hlen with
        | [v], [c], hcs2, _ => exact ⟨c, by simp, hcs2.inv.1⟩
        | [], [], hcs2, _ => exact ⟨.tuple #[], by simp, .tup [] #[] rfl (fun j v c hj => by simp at hj)⟩
        | v1 :: v2 :: rvs, c1 :: c2 :: cs, hcs2, _ => exact ⟨.tuple (c1 :: c2 :: cs).toArray, by simp, .tup _ _ (by simpa using hcs2.len) (fun j v c hj hc => hcs2.at_ j v c hj (by simpa using hc))⟩
      obtain ⟨v, hv1, hv2⟩ := hres
      have key : ∀ {pin3 : Pin} {σ3 : Store} {rr : V} {is : List Nat} {ios' : List V} {js : List Nat}, PExt pin2 pin3 → Sim w S0 ρ2 pin3 σ3 w' → ownV σ3 dep (tupV rvs) = some (rr, is) → iosV σ3 E.modes vs = some (ios', js) → (is ++ js).Nodup → After w pin os.flatten E.modes vals rr ios' (.returned v) w' := by
        intro pin3 σ3 rr is ios' js x3 hS3 how hio hnod
        obtain ⟨o, b1, b2⟩ := own_sound hS3 (PExt.refl _) dep how (hv2.mono (RExt.refl _) x3)
        obtain ⟨oss, c1, c2⟩ := ios_sound hS3 hio (hR.mono y1 (y2.trans x3)) (by rw [hvl]; exact hml)
        have hrows := b2.append c2
        refine ⟨v, pin3, o, oss, rfl, y2.trans x3, hS3.pinned, fun b x hb => ?_, hS3.fr, b1, c1, hrows.nodup hS3 hnod, fun b hb => ?_⟩
        · rcases hS3.news b x hb with h | h | h
          · have h' : pin b ≠ none := h
            cases hq : pin b with
            | none => exact absurd hq h'
            | some y => have := (y2.trans x3) _ _ hq; rw [hb] at this; cases this; exact .inl rfl
          · exact .inr (.inl h)
          · exact .inr (.inr h)
        · obtain ⟨i, _, q1, e, q2, rfl⟩ := hrows.mem hb
          obtain ⟨e', he', L⟩ := hS3.live i (by rw [q1]; decide)
          rw [q2] at he'
          cases he'
          exact L.rw q1
      refine ⟨v, hv1, ?_⟩
      split at hout
      · rename_i hnod
        cases hout
        exact key (PExt.refl _) hS how hio hnod
      · unfold out2V at hout
        simp only [Option.bind_eq_some_iff] at hout
        obtain ⟨⟨rr2, is2⟩, how2, ⟨ios2, js2⟩, hio2, hout⟩ := hout
        simp only at how2 hio2 hout
        rw [Option.ite_none_right_eq_some] at hout
        obtain ⟨hnod, hout⟩ := hout
        cases hout
        obtain ⟨o, b1, b2⟩ := own_sound hS (PExt.refl _) dep how hv2
        obtain ⟨pin3, x3, hS3, _, _⟩ := hS.freeze (dupL is) (fun i hi => by rw [(b2.mem' (dupL_mem hi)).1]; decide)
        exact key x3 hS3 how2 hio2 hnod
    cases e with
    | normal => exact fin
    | ret => exact fin
    | exit id => cases h1; exact h2.elim
    | goto l => cases h1
    | panic c => cases h1
    | outgrown => cases h1

theorem fn_raw {tbl : Tbl} (hT : TblOk P tbl) (hD : DrawOk P tbl) {f : FuncId} {fn : Func} (hf : P.funcs[f]? = some fn) (hname : (fn.name == "runtime.NumGoroutine") = false) {β : Nat} {F : IFun} (hc : compF P β fn = some F) {E : Entry}
    (hE : ∀ H xs σ v σ', E.raw = some H → H xs σ = some (v, σ') → runR tbl F xs σ (fun p => p = (v, σ'))) : RawOk P f E := by
  unfold compF at hc
  simp only [Option.bind_eq_some_iff, Option.map_eq_some_iff] at hc
  obtain ⟨body, hbody, ic, hic, rs, hrs, rfl⟩ := hc
  refine fun H hH => ⟨fun args w => ?_, fun w0 S0 ρ pin σ w xs vals v σ' hG hS0 hR => ?_⟩
  · have hn := beq_eq_false_iff_ne.1 hname
    simp [callFunc, hf, hn, hbody]
  · obtain ⟨hnp, hfn⟩ := hE H xs σ v σ' hH hG
    simp only at hnp hfn
    have hFS : FS fn.ntmps ρ pin (fun i => xs.getD i (.tup [])) { tmps := vals.toArray ++ Array.replicate (fn.ntmps - vals.toArray.size) undef, defers := [] } := by
      refine ⟨fun k => ?_, by simp; omega, rfl⟩
      simp only [Array.getD_eq_getD_getElem?, List.getD_eq_getElem?_getD]
      by_cases hk : k < xs.length
      · have hk2 : k < vals.length := by rw [← hR.len]; exact hk
        rw [List.getElem?_eq_getElem hk, Array.getElem?_append_left (by simpa using hk2)]
        simp only [List.getElem?_toArray, List.getElem?_eq_getElem hk2, Option.getD_some]
        exact hR.at_ k _ _ (List.getElem?_eq_getElem hk) (List.getElem?_eq_getElem hk2)
      · have hk2 : ¬ k < vals.length := by rw [← hR.len]; exact hk
        rw [List.getElem?_eq_none (by omega), Array.getElem?_append_right (by simp; omega), Array.getElem?_replicate]
        simp only [Option.getD_none]
        split <;> exact undef_R
    refine calls_of_wp hf hbody (wp_mono (run_sound hT (fun hc h hr => hD hc h hr) body hic hfn ⟨ρ, pin, RExt.refl _, PExt.refl _, hFS, hS0⟩) fun e a' w' hp => ?_)
    obtain ⟨x, s, h1, ⟨h2, h3⟩, ρ2, pin2, y1, y2, hF, hS⟩ := hp
    have fin : a'.defers = [] ∧ ∃ v', (results fn a'.tmps).run P w' = .ok v' w' ∧ ∃ c ρ' pin', Ending.returned v' = .returned c ∧ RExt ρ ρ' ∧ PExt pin pin' ∧ Sim w0 S0 ρ' pin' σ' w' ∧ R ρ' pin' v c := by
      refine ⟨hF.defers, ?_⟩
      unfold okP at h3
      split at h3
      case h_2 => exact h3.elim
      rename_i rvs hrvs
      simp only [Prod.mk.injEq] at h3
      obtain ⟨cs, hcs1, hcs2⟩ := res_sound (P := P) (w := w') (t := s.t) (σ := s.σ) hF.slots hS hrs hrvs
      have hres : ∃ v, (results fn a'.tmps).run P w' = .ok v w' ∧ R ρ2 pin2 (tupV rvs) v := by
        unfold results
        rw [Sem.run_bind, Array.mapM_eq_mapM_toList, Sem.run_map]
        erw [hcs1]
        simp only [Result.andThen_ok]
        have hlen := hcs2.len
        match rvs, cs, hcs2, hlen with
        | [v], [c], hcs2, _ => exact ⟨c, by simp, hcs2.inv.1⟩
        | [], [], hcs2, _ => exact ⟨.tuple #[], by simp, .tup [] #[] rfl (fun j v c hj => by simp at hj)⟩
        | v1 :: v2 :: rvs, c1 :: c2 :: cs, hcs2, _ => exact ⟨.tuple (c1 :: c2 :: cs).toArray, by simp, .tup _ _ (by simpa using hcs2.len) (fun j v c hj hc => hcs2.at_ j v c hj (by simpa using hc))⟩
      obtain ⟨v', hv1, hv2⟩ := hres
      refine ⟨v', hv1, v', ρ2, pin2, rfl, y1, y2, ?_, ?_⟩
      · rw [← h3.2]; exact hS
      · rw [← h3.1]; exact hv2
    cases e with
    | normal => exact fin
    | ret => exact fin
    | exit id => cases h1; exact h2.elim
    | goto l => cases h1
    | panic c => cases h1
    | outgrown => cases h1
end Go.Vm
