/- Each operation of the machine over values does what the given model's does: structs held against one another, maps, rows laid empty. -/
import Derived.Test.YtmcbceppgaljnaaVmOps7
import Derived.Laws.StructEq
import Derived.MapKept
set_option linter.unusedSectionVars false
set_option linter.unusedSimpArgs false
set_option linter.unusedVariables false
namespace Go.Vm
variable {P : Program} {w0 w : World} {S0 : Terr} {ρ : Ren} {pin : Pin} {σ : Store} {a : Act} {t : Nat → V}

theorem undef_R0 : R ρ pin (.tup []) undef := .tup [] #[] rfl (fun j v c hj => by simp at hj)
/-! ### Things without names -/
theorem basB_R {v : V} (h : basB v = true) : R ρ pin v (cvb v) ∧ NoRef v := by
  cases v <;> simp [basB] at h
  · exact ⟨.int _ _, .int _ _⟩
  · exact ⟨.bool _, .bool _⟩
  · exact ⟨.str _, .str _⟩
theorem R_basB {v : V} {c : Value} (h : basB v = true) (hR : R ρ pin v c) : c = cvb v := by
  cases v <;> simp [basB] at h
  · exact hR.int_inv
  · exact hR.bool_inv
  · exact hR.str_inv
theorem flat_cases (v : V) : (∃ cs, v = .agg cs) ∨ (flatB v = basB v ∧ cvt v = cvb v) := by
  cases v
  case agg cs => exact .inl ⟨cs, rfl⟩
  all_goals exact .inr ⟨rfl, rfl⟩
theorem basB_one {v : V} (h : basB v = true) : v.one = true := by cases v <;> simp_all [basB, V.one]
theorem flatB_R {v : V} (h : flatB v = true) : R ρ pin v (cvt v) ∧ NoRef v := by
  rcases flat_cases v with ⟨cs, rfl⟩ | ⟨e1, e2⟩
  · simp only [flatB, List.all_eq_true] at h
    refine ⟨.agg cs _ (by simp) (fun v hv => basB_one (h v hv)) (fun j v c hv hc => ?_), .agg cs fun v hv => (basB_R (ρ := (fun _ _ => none)) (pin := fun _ => none) (h v hv)).2⟩
    have : c = cvb v := by
      simp only [List.getElem?_toArray, List.getElem?_map, hv, Option.map_some, Option.some.injEq] at hc
      exact hc.symm
    rw [this]
    exact (basB_R (h v (List.mem_of_getElem? hv))).1
  · rw [e1] at h; rw [e2]; exact basB_R h
theorem R_flatB {v : V} {c : Value} (h : flatB v = true) (hR : R ρ pin v c) : c = cvt v := by
  rcases flat_cases v with ⟨cs, rfl⟩ | ⟨e1, e2⟩
  · simp only [flatB, List.all_eq_true] at h
    cases hR with
    | agg _ arr hl h1 hh =>
      simp only [cvt, Value.agg.injEq]
      apply Array.ext'
      apply List.ext_getElem?
      intro j
      simp only [List.getElem?_map]
      cases hj : cs[j]? with
      | none =>
        have : cs.length ≤ j := List.getElem?_eq_none_iff.1 hj
        rw [List.getElem?_eq_none (by simpa using (by omega : arr.size ≤ j))]
        rfl
      | some v =>
        have hlt := (List.getElem?_eq_some_iff.1 hj).1
        have ha : arr[j]? = some arr[j] := Array.getElem?_eq_getElem (by omega)
        have := R_basB (h v (List.mem_of_getElem? hj)) (hh j v _ hj ha)
        simp [ha, this]
  · rw [e1] at h; rw [e2]; exact R_basB h hR

/-! ### Things held against one another -/
theorem eqC_bas {k : CK} {x y : V} {b : Bool} (h : eqC k x y = some b) : basB x = true ∧ basB y = true ∧ (b = true → x = y) := by
  cases k <;> cases x <;> cases y <;> simp [eqC] at h
  · subst h; exact ⟨rfl, rfl, fun e => by simpa using e⟩
  · obtain ⟨rfl, rfl⟩ := h; exact ⟨rfl, rfl, fun e => by simpa using e⟩
  · subst h; exact ⟨rfl, rfl, fun e => by simpa using e⟩
theorem eqCs_bas : ∀ {ks : List CK} {xs ys : List V} {b : Bool}, eqCs ks xs ys = some b → (xs.all basB = true) ∧ (ys.all basB = true) ∧ (b = true → xs = ys) ∧ xs.length = ks.length ∧ ys.length = ks.length
  | [], [], [], b, h => by simp [eqCs] at h; exact ⟨rfl, rfl, fun _ => rfl, rfl, rfl⟩
  | k :: ks, x :: xs, y :: ys, b, h => by
    simp only [eqCs, Option.bind_eq_some_iff, Option.map_eq_some_iff] at h
    obtain ⟨b1, h1, b2, h2, rfl⟩ := h
    obtain ⟨p1, p2, p3⟩ := eqC_bas h1
    obtain ⟨q1, q2, q3, q4, q5⟩ := eqCs_bas h2
    refine ⟨by simp [p1, q1], by simp [p2, q2], fun e => ?_, by simp [q4], by simp [q5]⟩
    rw [Bool.and_eq_true] at e
    rw [p3 e.1, q3 e.2]
  | [], [], _ :: _, b, h => by simp [eqCs] at h
  | [], _ :: _, _, b, h => by simp [eqCs] at h
  | _ :: _, [], _, b, h => by simp [eqCs] at h
  | _ :: _, _ :: _, [], b, h => by simp [eqCs] at h
theorem eqKV_flat {kk : KK} {x y : V} {b : Bool} (h : eqKV kk x y = some b) : flatB x = true ∧ flatB y = true ∧ (b = true → x = y) := by
  cases kk with
  | one c =>
    obtain ⟨h1, h2, h3⟩ := eqC_bas (show eqC c x y = some b from h)
    exact ⟨by cases x <;> simp_all [basB, flatB], by cases y <;> simp_all [basB, flatB], h3⟩
  | many cs =>
    cases x <;> cases y <;> simp [eqKV] at h
    obtain ⟨h1, h2, h3, _⟩ := eqCs_bas h
    exact ⟨h1, h2, fun e => by rw [h3 e]⟩

theorem ck_under {t : TypeId} {k : CK} (h : ckOf P t = some k) : match k with | .b => P.underlying t = some .bool | .i => ∃ q, P.underlying t = some (.int q) | .s => P.underlying t = some .string := by
  unfold ckOf at h
  split at h <;> simp only [Option.some.injEq, reduceCtorEq] at h
  · subst h; assumption
  · subst h; exact ⟨_, by assumption⟩
  · subst h; assumption
theorem ck_agg {t : TypeId} {k : CK} (h : ckOf P t = some k) : aggC P t = some false := by
  have := ck_under h
  cases k <;> simp only at this
  · simp [aggC, this]
  · obtain ⟨q, this⟩ := this; simp [aggC, this]
  · simp [aggC, this]
theorem run_part1 {t : TypeId} {k : CK} (h : ckOf P t = some k) {arr : Array Value} {i : Nat} {c : Value} (hc : arr[i]? = some c) : (part t arr i).run P w = .ok c w := by
  unfold part
  simp only [Sem.run_bind, aggC_some (ck_agg h) w, Result.andThen_ok, Bool.false_eq_true, if_false, hc, Sem.run_pure]
theorem bytes_dec (a b : List UInt8) : ((⟨a.toArray⟩ : ByteArray) == ⟨b.toArray⟩) = decide (a = b) := by
  rw [beq_toListBytes, ByteArray.toList_eq, ByteArray.toList_eq]
  by_cases h : a = b
  · subst h; simp
  · simp [h]
theorem int_dec (p q : Int) : (p == q) = decide (p = q) := by by_cases h : p = q <;> simp [h]
theorem run_eqC {t : TypeId} {k : CK} {x y : V} {b : Bool} (ht : ckOf P t = some k) (h : eqC k x y = some b) (d : Nat) : (Op.equalIn (d + 1) t (cvb x) (cvb y)).run P w = .ok b w := by
  have hu := ck_under ht
  cases k <;> cases x <;> cases y <;> simp [eqC] at h <;> simp only at hu
  · subst h
    simp only [cvb, Op.equalIn, Sem.run_bind, run_under hu, Result.andThen_ok, Sem.run_pure]
    rename_i p q
    cases p <;> cases q <;> rfl
  · obtain ⟨rfl, rfl⟩ := h
    obtain ⟨q, hu⟩ := hu
    simp only [cvb, Op.equalIn, Sem.run_bind, run_under hu, Result.andThen_ok, if_true, Sem.run_pure, int_dec]
  · subst h
    simp only [cvb, Op.equalIn, Sem.run_bind, run_under hu, Result.andThen_ok, Sem.run_pure, bytes_dec]
theorem run_eqFields {d : Nat} {xs ys : List V} : ∀ (fs : List Field) (i : Nat) {ks : List CK} {b : Bool}, mapO (fun f : Field => ckOf P f.type) fs = some ks → ((fs.zipIdx i).all fun p => p.1.name != "_" && p.1.offset == p.2) = true →
    eqCs ks (xs.drop i) (ys.drop i) = some b → (Op.eqFields (d + 1) (xs.map cvb).toArray (ys.map cvb).toArray fs).run P w = .ok b w
  | [], i, ks, b, h, _, he => by
    cases h
    cases hx : xs.drop i <;> cases hy : ys.drop i <;> rw [hx, hy] at he <;> simp [eqCs] at he
    subst he
    simp [Op.eqFields]
  | f :: fs, i, ks, b, h, hn, he => by
    simp only [mapO, Option.bind_eq_some_iff, Option.map_eq_some_iff] at h
    obtain ⟨k, hk, ks', hks, rfl⟩ := h
    simp only [List.zipIdx_cons, List.all_cons, Bool.and_eq_true, bne_iff_ne, ne_eq, beq_iff_eq] at hn
    obtain ⟨⟨n1, n2⟩, n3⟩ := hn
    cases hx : xs.drop i with
    | nil => rw [hx] at he; simp [eqCs] at he
    | cons x xr =>
      cases hy : ys.drop i with
      | nil => rw [hy] at he; cases hxx : xs.drop i <;> rw [hxx] at he <;> simp [eqCs] at he
      | cons y yr =>
        rw [hx, hy] at he
        simp only [eqCs, Option.bind_eq_some_iff, Option.map_eq_some_iff] at he
        obtain ⟨b1, h1, b2, h2, rfl⟩ := he
        have ex : xs[i]? = some x := by have := congrArg (·[0]?) hx; simpa using this
        have ey : ys[i]? = some y := by have := congrArg (·[0]?) hy; simpa using this
        have ex2 : xs.drop (i + 1) = xr := by rw [← List.drop_drop, hx]; rfl
        have ey2 : ys.drop (i + 1) = yr := by rw [← List.drop_drop, hy]; rfl
        have ih := run_eqFields (d := d) (xs := xs) (ys := ys) fs (i + 1) hks (by simpa using n3) (by rw [ex2, ey2]; exact h2)
        have px : ((xs.map cvb).toArray)[f.offset]? = some (cvb x) := by simp [n2, ex]
        have py : ((ys.map cvb).toArray)[f.offset]? = some (cvb y) := by simp [n2, ey]
        simp only [Op.eqFields, n1, ne_eq, not_false_eq_true, if_true, Sem.run_bind, run_part1 hk px, run_part1 hk py, Result.andThen_ok, run_eqC hk h1 d]
        cases b1
        · simp
        · simpa using ih
theorem flatC_spec {T : TypeId} {ks : List CK} (h : flatC P T = some ks) : ∃ fs, P.underlying T = some (.struct fs) ∧ P.stoodInHeld T = false ∧ P.eqGuardType P.depth T = false ∧ ((fs.toList.zipIdx 0).all fun p => p.1.name != "_" && p.1.offset == p.2) = true ∧ mapO (fun f : Field => ckOf P f.type) fs.toList = some ks := by
  unfold flatC at h
  split at h
  · rename_i fs hu
    rw [Option.ite_none_right_eq_some] at h
    exact ⟨fs, hu, h.1.1, h.1.2.1, h.1.2.2, h.2⟩
  · cases h
theorem run_eqS {T : TypeId} {ks : List CK} {xs ys : List V} {b : Bool} (h : flatC P T = some ks) (he : eqCs ks xs ys = some b) (d : Nat) : (Op.equalIn (d + 2) T (.agg (xs.map cvb).toArray) (.agg (ys.map cvb).toArray)).run P w = .ok b w := by
  obtain ⟨fs, hu, h1, h2, h3, h4⟩ := flatC_spec h
  have hf : P.fieldsOf T = fs := by simp [Program.fieldsOf, hu]
  rw [run_equalIn_struct w (d + 1) T _ _ (by rw [hf]; exact hu) h1, hf]
  exact run_eqFields (d := d) fs.toList 0 h4 h3 (by simpa using he)

/-! ### Keys -/
theorem run_checkKeyN {kt : TypeId} {kk : KK} (h : kkOf P kt = some kk) {k : V} (hk : eqKV kk k k = some true) (e : Bool) (N : Nat) : (Instr.checkKey e (N + 2) kt (cvt k)).run P w = .ok () w := by
  have basic : ∀ (n : Nat) {t : TypeId} {c : CK} {v : V}, ckOf P t = some c → basB v = true → (Instr.checkKey e (n + 1) t (cvb v)).run P w = .ok () w := by
    intro n t c v hc hv
    have hu := ck_under hc
    cases c <;> simp only at hu
    · simp only [Instr.checkKey, Sem.run_bind, run_under hu, Result.andThen_ok]
      cases v <;> simp [basB] at hv <;> rfl
    · obtain ⟨q, hu⟩ := hu
      simp only [Instr.checkKey, Sem.run_bind, run_under hu, Result.andThen_ok]
      cases v <;> simp [basB] at hv <;> rfl
    · simp only [Instr.checkKey, Sem.run_bind, run_under hu, Result.andThen_ok]
      cases v <;> simp [basB] at hv <;> rfl
  unfold kkOf at h
  split at h
  · rename_i c hc
    cases h
    obtain ⟨h1, _, _⟩ := eqC_bas (show eqC c k k = some true from hk)
    have : cvt k = cvb k := by cases k <;> first | rfl | (simp [basB] at h1; done)
    rw [this]
    exact basic (N + 1) hc h1
  · obtain ⟨ks, hks, rfl⟩ := Option.map_eq_some_iff.1 h
    obtain ⟨fs, hu, _, _, h3, h4⟩ := flatC_spec hks
    cases k <;> simp [eqKV] at hk
    rename_i xs
    show (Instr.checkKey e ((N + 1) + 1) kt (.agg (xs.map cvb).toArray)).run P w = .ok () w
    rw [Instr.checkKey]
    simp only [Sem.run_bind, run_under hu, Result.andThen_ok]
    rw [← Array.forIn_toList]
    have key : ∀ (fs : List Field) (i : Nat) {ks : List CK}, mapO (fun f : Field => ckOf P f.type) fs = some ks → ((fs.zipIdx i).all fun p => p.1.name != "_" && p.1.offset == p.2) = true → eqCs ks (xs.drop i) (xs.drop i) = some true →
        (forIn fs PUnit.unit (fun f (_ : PUnit) => do
          if f.name ≠ "_" then
            Instr.checkKey e (N + 1) f.type (← part f.type (xs.map cvb).toArray f.offset)
            pure PUnit.unit
          pure (ForInStep.yield PUnit.unit)) : Sem PUnit).run P w = .ok PUnit.unit w := by
      intro fs
      induction fs with
      | nil => intro i ks _ _ _; rfl
      | cons f fs ih =>
        intro i ks h hn he
        simp only [mapO, Option.bind_eq_some_iff, Option.map_eq_some_iff] at h
        obtain ⟨k, hk, ks', hks, rfl⟩ := h
        simp only [List.zipIdx_cons, List.all_cons, Bool.and_eq_true, bne_iff_ne, ne_eq, beq_iff_eq] at hn
        obtain ⟨⟨n1, n2⟩, n3⟩ := hn
        cases hx : xs.drop i with
        | nil => rw [hx] at he; simp [eqCs] at he
        | cons x xr =>
          rw [hx] at he
          simp only [eqCs, Option.bind_eq_some_iff, Option.map_eq_some_iff] at he
          obtain ⟨b1, h1, b2, h2, hb⟩ := he
          have hb2 : b2 = true := by cases b1 <;> cases b2 <;> simp_all
          subst hb2
          have ex : xs[i]? = some x := by have := congrArg (·[0]?) hx; simpa using this
          have ex2 : xs.drop (i + 1) = xr := by rw [← List.drop_drop, hx]; rfl
          have px : ((xs.map cvb).toArray)[f.offset]? = some (cvb x) := by simp [n2, ex]
          have ih := ih (i + 1) hks (by simpa using n3) (by rw [ex2]; exact h2)
          simp only [List.forIn_cons, Sem.run_bind, n1, ne_eq, not_false_eq_true, if_true, run_part1 hk px, Result.andThen_ok, basic N hk (eqC_bas h1).1, Sem.run_pure]
          exact ih
    have := key fs.toList 0 h4 h3 (by simpa using hk)
    simp at this ⊢
    rw [this]
    rfl

theorem run_checkKey1 {kt : TypeId} {kk : KK} (h : kkOf P kt = some kk) {k : V} (hk : eqKV kk k k = some true) (e : Bool) : (Instr.checkKey e 10000 kt (cvt k)).run P w = .ok () w := run_checkKeyN h hk e 9998
/-- A key's place and what stands there. -/
def fidx (kk : KK) (k : V) : List (V × V) → Nat → Option (Option (Nat × V))
  | [], _ => some none
  | e :: r, i => (eqKV kk k e.1).bind fun b => if b = true then some (some (i, e.2)) else fidx kk k r (i + 1)
theorem mfind_fidx {kk : KK} {k : V} : ∀ (es : List (V × V)) (i : Nat), mfind kk k es = (fidx kk k es i).map (·.map (·.2))
  | [], _ => rfl
  | e :: es, i => by
    simp only [mfind, fidx]
    cases eqKV kk k e.1 with
    | none => rfl
    | some b => cases b <;> simp [mfind_fidx es (i + 1)]
theorem mput_fidx {kk : KK} {k v : V} : ∀ {es es' : List (V × V)} (i : Nat), mput kk k v es = some es' →
    (fidx kk k es i = some none ∧ es' = es ++ [(k, v)]) ∨ ∃ j e, fidx kk k es i = some (some (i + j, e.2)) ∧ es[j]? = some e ∧ eqKV kk k e.1 = some true ∧ es' = es.set j (k, v)
  | [], es', i, h => by cases h; exact .inl ⟨rfl, rfl⟩
  | e :: es, es', i, h => by
    simp only [mput, Option.bind_eq_some_iff] at h
    obtain ⟨b, hb, h⟩ := h
    cases b
    · simp only [Bool.false_eq_true, if_false, Option.map_eq_some_iff] at h
      obtain ⟨es2, h2, rfl⟩ := h
      rcases mput_fidx (i + 1) h2 with ⟨h3, rfl⟩ | ⟨j, e', h3, h4, h5, rfl⟩
      · exact .inl ⟨by simp [fidx, hb, h3], rfl⟩
      · exact .inr ⟨j + 1, e', by simp [fidx, hb, h3]; omega, by simpa using h4, h5, rfl⟩
    · simp only [if_true, Option.some.injEq] at h
      exact .inr ⟨0, e, by simp [fidx, hb], rfl, hb, h.symm⟩
theorem mrem_fidx {kk : KK} {k : V} : ∀ {es es' : List (V × V)} (i : Nat), mrem kk k es = some es' →
    (fidx kk k es i = some none ∧ es' = es) ∨ ∃ j e, fidx kk k es i = some (some (i + j, e.2)) ∧ es[j]? = some e ∧ es' = es.eraseIdx j
  | [], es', i, h => by cases h; exact .inl ⟨rfl, rfl⟩
  | e :: es, es', i, h => by
    simp only [mrem, Option.bind_eq_some_iff] at h
    obtain ⟨b, hb, h⟩ := h
    cases b
    · simp only [Bool.false_eq_true, if_false, Option.map_eq_some_iff] at h
      obtain ⟨es2, h2, rfl⟩ := h
      rcases mrem_fidx (i + 1) h2 with ⟨h3, rfl⟩ | ⟨j, e', h3, h4, rfl⟩
      · exact .inl ⟨by simp [fidx, hb, h3], rfl⟩
      · exact .inr ⟨j + 1, e', by simp [fidx, hb, h3]; omega, by simpa using h4, rfl⟩
    · simp only [if_true, Option.some.injEq] at h
      exact .inr ⟨0, e, by simp [fidx, hb], rfl, by simpa using h.symm⟩
theorem run_find {kt : TypeId} {kk : KK} (h : kkOf P kt = some kk) {k : V} {es : List (V × V)} {arr : Array MapEntry} (hE : EntsOk es arr) {r : Option (Nat × V)} (hf : fidx kk k es 0 = some r) :
    (Instr.findKey kt (cvt k) arr.toList).run P w = .ok (r.map fun p => (p.1, cvt p.2)) w := by
  obtain ⟨hm, hfl⟩ := hE
  generalize arr.toList = l at hm
  unfold kkOf at h
  split at h
  · rename_i c hc
    cases h
    have key : ∀ (d : TypeDesc) (hd : P.underlying kt = some d) (es : List (V × V)) (l : List MapEntry) (i : Nat) (r : Option (Nat × V)), l.map (fun e => (e.key, e.val)) = es.map (fun e => (cvt e.1, cvt e.2)) → fidx (.one c) k es i = some r → Instr.findNow d (cvt k) l i = some (r.map fun p => (p.1, cvt p.2)) := by
      intro d hd es
      induction es with
      | nil =>
        intro l i r hm hf
        have : l = [] := by simpa using hm
        subst this
        cases hf
        rfl
      | cons e es ih =>
        intro l i r hm hf
        cases l with
        | nil => simp at hm
        | cons m l =>
          simp only [List.map_cons, List.cons.injEq, Prod.mk.injEq] at hm
          obtain ⟨⟨hk1, hv1⟩, hm⟩ := hm
          simp only [fidx, Option.bind_eq_some_iff] at hf
          obtain ⟨b, hb, hf⟩ := hf
          have hs : Instr.sameNow d (cvt k) m.key = some b := by
            rw [hk1]
            have hu := ck_under hc
            have hb' : eqC c k e.1 = some b := hb
            clear hf ih hb
            generalize e.1 = y at hb'
            generalize k = k' at hb' ⊢
            cases c <;> cases k' <;> cases y <;> simp [eqC] at hb' <;> simp only at hu
            · have hdd : d = .bool := by rw [hd] at hu; injection hu
              subst hdd; subst hb'
              simp only [Instr.sameNow, cvt, cvb]
              rename_i p q
              cases p <;> cases q <;> rfl
            · obtain ⟨q, hu⟩ := hu
              have hdd : d = .int q := by rw [hd] at hu; injection hu
              subst hdd; obtain ⟨rfl, rfl⟩ := hb'
              simp only [Instr.sameNow, cvt, cvb, if_true, int_dec]
            · have hdd : d = .string := by rw [hd] at hu; injection hu
              subst hdd; subst hb'
              simp only [Instr.sameNow, cvt, cvb, bytes_dec]
          simp only [Instr.findNow, hs]
          cases b
          · simp only [Bool.false_eq_true, if_false] at hf
            simp only
            exact ih l (i + 1) r hm hf
          · simp only [if_true, Option.some.injEq] at hf
            subst hf
            simp [hv1]
    obtain ⟨d, hd⟩ : ∃ d, P.underlying kt = some d := by
      have hu := ck_under hc
      cases c <;> simp only at hu
      · exact ⟨_, hu⟩
      · obtain ⟨q, hu⟩ := hu; exact ⟨_, hu⟩
      · exact ⟨_, hu⟩
    simp only [Instr.findKey, Sem.run_bind, run_under hd, Result.andThen_ok, key d hd es l 0 r hm hf, Sem.run_pure]
  · obtain ⟨ks, hks, rfl⟩ := Option.map_eq_some_iff.1 h
    obtain ⟨fs, hu, _, _, _, _⟩ := flatC_spec hks
    have key : ∀ (es : List (V × V)) (l : List MapEntry) (i : Nat) (r : Option (Nat × V)), l.map (fun e => (e.key, e.val)) = es.map (fun e => (cvt e.1, cvt e.2)) → fidx (.many ks) k es i = some r → (Instr.findAsking kt (cvt k) l i).run P w = .ok (r.map fun p => (p.1, cvt p.2)) w := by
      intro es
      induction es with
      | nil =>
        intro l i r hm hf
        have : l = [] := by simpa using hm
        subst this
        cases hf
        simp [Instr.findAsking]
      | cons e es ih =>
        intro l i r hm hf
        cases l with
        | nil => simp at hm
        | cons m l =>
          simp only [List.map_cons, List.cons.injEq, Prod.mk.injEq] at hm
          obtain ⟨⟨hk1, hv1⟩, hm⟩ := hm
          simp only [fidx, Option.bind_eq_some_iff] at hf
          obtain ⟨b, hb, hf⟩ := hf
          have hs : (Op.equal kt (cvt k) m.key).run P w = .ok b w := by
            rw [hk1]
            have hb' := hb
            generalize e.1 = y at hb'
            cases k <;> cases y <;> simp [eqKV] at hb'
            exact run_eqS hks hb' 9998
          simp only [Instr.findAsking, Sem.run_bind, hs, Result.andThen_ok]
          cases b
          · simp only [Bool.false_eq_true, if_false] at hf ⊢
            exact ih l (i + 1) r hm hf
          · simp only [if_true, Option.some.injEq] at hf ⊢
            subst hf
            simp [hv1]
    have now : ∀ (l : List MapEntry), l.map (fun e => (e.key, e.val)) = es.map (fun e => (cvt e.1, cvt e.2)) → (l = [] ∧ Instr.findNow (.struct fs) (cvt k) l 0 = some none) ∨ Instr.findNow (.struct fs) (cvt k) l 0 = none := by
      intro l _
      cases l with
      | nil => exact .inl ⟨rfl, rfl⟩
      | cons m l => right; simp [Instr.findNow, Instr.sameNow]
    have hk := key es l 0 r hm hf
    rcases now l hm with ⟨rfl, h2⟩ | h2
    · have : es = [] := by simpa using hm.symm
      subst this
      cases hf
      simp only [Instr.findKey, Sem.run_bind, run_under hu, Result.andThen_ok, h2, Sem.run_pure]
      rfl
    · simp only [Instr.findKey, Sem.run_bind, run_under hu, Result.andThen_ok, h2]
      exact hk
theorem sameBits_cvb {v : V} (h : basB v = true) (n : Nat) : Instr.sameBits n (cvb v) (cvb v) = true := by
  cases v <;> simp [basB] at h <;> cases n <;> simp [cvb, Instr.sameBits, beq_toListBytes]
theorem sameBits_N {v : V} (h : flatB v = true) (N : Nat) : Instr.sameBits (N + 1) (cvt v) (cvt v) = true := by
  rcases flat_cases v with ⟨cs, rfl⟩ | ⟨e1, e2⟩
  · show Instr.sameBits (N + 1) (.agg _) (.agg _) = true
    simp only [flatB, List.all_eq_true] at h
    simp only [Instr.sameBits, beq_self_eq_true, Bool.true_and, List.all_eq_true]
    intro p hp
    obtain ⟨a, b⟩ := p
    have hab : a = b ∧ a ∈ cs.map cvb := by
      have := List.mem_iff_getElem?.1 hp
      obtain ⟨j, hj⟩ := this
      rw [List.getElem?_zip_eq_some] at hj
      obtain ⟨h1, h2⟩ := hj
      simp only at h1 h2
      rw [h1] at h2
      exact ⟨by simpa using h2, List.mem_of_getElem? (by simpa using h1)⟩
    obtain ⟨rfl, hmem⟩ := hab
    obtain ⟨v, hv, rfl⟩ := List.mem_map.1 hmem
    exact sameBits_cvb (h v hv) N
  · rw [e1] at h; rw [e2]; exact sameBits_cvb h (N + 1)
theorem sameBits_cvt {v : V} (h : flatB v = true) : Instr.sameBits 10000 (cvt v) (cvt v) = true := sameBits_N h 9999
theorem run_keyStays {v : V} (h : flatB v = true) : (Instr.keyThatStays (cvt v) (cvt v)).run P w = .ok (cvt v) w := by
  simp [Instr.keyThatStays, sameBits_cvt h]
theorem ents_set {es : List (V × V)} {arr : Array MapEntry} (hE : EntsOk es arr) (j : Nat) {k v : V} (hk : flatB k = true) (hv : flatB v = true) : EntsOk (es.set j (k, v)) (arr.modify j fun e => { e with key := cvt k, val := cvt v }) := by
  refine ⟨?_, fun e he => ?_⟩
  · apply List.ext_getElem?
    intro i
    have := congrArg (·[i]?) hE.1
    simp only [List.getElem?_map, Array.getElem?_toList] at this
    simp only [List.getElem?_map, Array.getElem?_toList, Array.getElem?_modify, List.getElem?_set]
    by_cases hij : j = i
    · subst hij
      rw [if_pos rfl, if_pos rfl]
      cases ha : arr[j]? with
      | none =>
        rw [ha] at this
        have hl : es[j]? = none := by cases hq : es[j]? <;> simp_all
        have : ¬ j < es.length := fun c => by rw [List.getElem?_eq_getElem c] at hl; cases hl
        simp [this]
      | some m =>
        rw [ha] at this
        have hl : j < es.length := by
          rcases Nat.lt_or_ge j es.length with h | h
          · exact h
          · rw [List.getElem?_eq_none h] at this; simp at this
        simp [hl]
    · rw [if_neg hij, if_neg hij]
      exact this
  · rcases List.mem_or_eq_of_mem_set he with h | rfl
    · exact hE.2 e h
    · exact ⟨hk, hv⟩
theorem ents_push {es : List (V × V)} {arr : Array MapEntry} (hE : EntsOk es arr) {k v : V} (hk : flatB k = true) (hv : flatB v = true) (m : MapEntry) (h1 : m.key = cvt k) (h2 : m.val = cvt v) : EntsOk (es ++ [(k, v)]) (arr.push m) := by
  refine ⟨by simp [hE.1, h1, h2], fun e he => ?_⟩
  rcases List.mem_append.1 he with h | h
  · exact hE.2 e h
  · simp at h; subst h; exact ⟨hk, hv⟩
theorem map_erase {α β : Type} (f : α → β) : ∀ (l : List α) (j : Nat), (l.eraseIdx j).map f = (l.map f).eraseIdx j
  | [], j => by simp
  | a :: l, 0 => rfl
  | a :: l, j + 1 => by simp [map_erase f l j]
theorem ents_erase {es : List (V × V)} {arr : Array MapEntry} (hE : EntsOk es arr) (j : Nat) : EntsOk (es.eraseIdx j) (arr.eraseIdxIfInBounds j) := by
  refine ⟨?_, fun e he => hE.2 e (List.mem_of_mem_eraseIdx he)⟩
  have hl : arr.size = es.length := by have := congrArg List.length hE.1; simpa using this
  have hto : (arr.eraseIdxIfInBounds j).toList = arr.toList.eraseIdx j := by
    unfold Array.eraseIdxIfInBounds
    split
    · simp
    · rename_i h
      rw [List.eraseIdx_of_length_le (by simpa using h)]
  rw [hto, map_erase, hE.1, map_erase]
theorem ents_size {es : List (V × V)} {arr : Array MapEntry} (hE : EntsOk es arr) : arr.size = es.length := by
  have := congrArg List.length hE.1
  simpa using this

/-- What a look at a map tells. -/
def lookC (ok : Bool) (zc : Value) (q : Option (Nat × V)) : Value := if ok = true then .tuple #[(q.map fun p => cvt p.2).getD zc, .bool q.isSome] else (q.map fun p => cvt p.2).getD zc
theorem run_lookup {T kt et : TypeId} {kk : KK} (hu : P.underlying T = some (.map kt et)) (hk : kkOf P kt = some kk) {k : V} (hkk : eqKV kk k k = some true) {zc : Value} (hz : (zeroValue et).run P w = .ok zc w) {m : Value} {es : List (V × V)} {arr : Array MapEntry}
    (hm : (m = .map none ∧ arr = #[]) ∨ ∃ b clock, m = .map (some b) ∧ w.heap[b]? = some (.map arr clock)) (hE : EntsOk es arr) {q : Option (Nat × V)} (hq : fidx kk k es 0 = some q) (ok : Bool) : (Instr.lookup T m (cvt k) ok).run P w = .ok (lookC ok zc q) w := by
  have hf := run_find (w := w) hk hE hq
  unfold Instr.lookup
  rcases hm with ⟨rfl, rfl⟩ | ⟨b, clock, rfl, hb⟩
  · have hf' : (Instr.findKey kt (cvt k) []).run P w = .ok (q.map fun p => (p.1, cvt p.2)) w := hf
    simp only [Sem.run_bind, run_under hu, Result.andThen_ok, Sem.run_pure, run_checkKey1 hk hkk, hf']
    cases q with
    | none => simp only [Option.map_none, Sem.run_bind, hz, Result.andThen_ok, Sem.run_pure]; rfl
    | some p => simp only [Option.map_some, Sem.run_bind, Result.andThen_ok, Sem.run_pure]; rfl
  · simp only [Sem.run_bind, run_under hu, Result.andThen_ok, Sem.run_pure, MapKept.run_getObj_map hb, run_checkKey1 hk hkk, hf]
    cases q with
    | none => simp only [Option.map_none, Sem.run_bind, hz, Result.andThen_ok, Sem.run_pure]; rfl
    | some p => simp only [Option.map_some, Sem.run_bind, Result.andThen_ok, Sem.run_pure]; rfl

/-! ### Operations -/
section
variable (hs : Slots ρ pin t a) (hS : Sim w0 S0 ρ pin σ w) {tbl : Tbl} {base : Nat} {r : Res}
include hs hS

theorem op_eqS {neg : Bool} {ks : List CK} {T U : TypeId} {x y : Operand} {x' y' : Opd} (hT : flatC P T = some ks) (hx : opd x = some x') (hy : opd y = some y') (hr : insV tbl base t σ (.eqS neg ks x' y') = some r)
    {o : Oper} (ho : o.op = .binOp (if neg then .neq else .eql) T x y U) : Done w0 S0 ρ pin (upds σ r.wr) r.val ((execOp a.eval o).run P w) := by
  have h1 := opd_sound hs hx
  have h2 := opd_sound hs hy
  unfold insV at hr
  simp only at hr
  split at hr
  case h_2 => cases hr
  rename_i xs ys hev1 hev2
  rw [hev1] at h1
  rw [hev2] at h2
  simp only [Option.bind_eq_some_iff] at hr
  obtain ⟨b, hb, hr⟩ := hr
  cases hr
  obtain ⟨b1, b2, _⟩ := eqCs_bas hb
  have e1 : a.eval x = .agg (xs.map cvb).toArray := R_flatB (v := .agg xs) b1 h1
  have e2 : a.eval y = .agg (ys.map cvb).toArray := R_flatB (v := .agg ys) b2 h2
  obtain ⟨_, _, _, hg, _⟩ := flatC_spec hT
  have hrun := run_eqS (w := w) hT hb 9998
  refine ⟨ρ, pin, w, .bool (if neg then !b else b), RExt.refl _, PExt.refl _, hS, .bool _, .inl ?_⟩
  have : execOp a.eval o = ((do pure (.value (← (do eqGuard (if neg then .neq else .eql) T x y (a.eval x) (a.eval y); binOp (if neg then .neq else .eql) T (a.eval x) (a.eval y) : Sem Value))) : Sem Next)) := by simp [execOp, ho]
  rw [this, e1, e2]
  simp only [Sem.run_bind, run_eqGuard_agg w _ T x y _ _ hg, Result.andThen_ok]
  cases neg
  · simp only [Bool.false_eq_true, if_false, run_eql_struct]
    rw [hrun]
    rfl
  · simp only [if_true, run_neq_struct]
    rw [hrun]
    rfl

omit hs in
theorem op_mkm {T : TypeId} (hr : insV tbl base t σ .mkm = some r) : Done w0 S0 ρ pin (upds σ r.wr) r.val ((do pure (.value (← Instr.makeMap T none)) : Sem Next).run P w) := by
  cases hr
  have hS' := hS.alloc (.map #[] 0)
  have hnew := heap_alloc_new w (.map #[] 0)
  have hN := hS'.nameM base [] ⟨w.heap.size, 0, 1, 1, true⟩ #[] 0 rfl hnew ⟨rfl, by simp⟩ rfl (.inr hS.fr.size) (by
    cases hp : pin w.heap.size with
    | none => rfl
    | some o => have := lt_of_heap (hS.pinned _ _ hp); omega) (fun j ej _ hj hej => by
      obtain ⟨e, he, L⟩ := hS.live j (by rw [hj]; decide)
      rw [hej] at he
      cases he
      obtain ⟨ob, hr, _⟩ := L.obj
      exact Nat.ne_of_lt (lt_of_heap hr))
  refine ⟨_, pin, _, .map (some w.heap.size), setEnt_ext _ _ _ _ (hS.fresh base), PExt.refl _, hN, .mp base _ ⟨w.heap.size, 0, 1, 1, true⟩ (setEnt_same _ _ _ _) rfl, .inl ?_⟩
  simp [Instr.makeMap]

omit hs in
/-- What a map's value stands for. -/
theorem ents_sound {v : V} {c : Value} {es : List (V × V)} {ids : List Nat} (h : entsV σ v = some (es, ids)) (hR : R ρ pin v c) :
    (c = .map none ∧ es = []) ∨ ∃ b arr clock, c = .map (some b) ∧ w.heap[b]? = some (.map arr clock) ∧ EntsOk es arr := by
  cases hR with
  | nilm => cases h; exact .inl ⟨rfl, rfl⟩
  | rmp es' b arr clock hp hE => cases h; exact .inr ⟨b, arr, clock, rfl, hS.pinned _ _ hp, hE⟩
  | mp id g e he hm =>
    simp only [entsV] at h
    rw [Option.ite_none_right_eq_some] at h
    obtain ⟨⟨h1, h2⟩, h⟩ := h
    obtain ⟨e', he', L⟩ := hS.live id h2
    rw [h1, he] at he'
    cases he'
    obtain ⟨es', arr, clock, k1, k2, k3, k4⟩ := L.ents hm
    rw [k1] at h
    cases h
    exact .inr ⟨e.b, arr, clock, rfl, k2, k3⟩
  | _ => simp [entsV] at h

theorem op_mget {T kt et : TypeId} {kk : KK} {ok : Bool} {z : V} {x y : Operand} {x' y' : Opd} (hu : P.underlying T = some (.map kt et)) (hk : kkOf P kt = some kk) (hz : zeroV P et = some z) (hx : opd x = some x') (hy : opd y = some y')
    (hr : insV tbl base t σ (.mget kk ok z x' y') = some r) : Done w0 S0 ρ pin (upds σ r.wr) r.val ((do pure (.value (← Instr.lookup T (a.eval x) (a.eval y) ok)) : Sem Next).run P w) := by
  have h1 := opd_sound hs hx
  have h2 := opd_sound hs hy
  unfold insV at hr
  simp only [Option.bind_eq_some_iff] at hr
  obtain ⟨⟨es, ids⟩, hes, hr⟩ := hr
  simp only at hr
  rw [Option.ite_none_right_eq_some] at hr
  obtain ⟨hkk, hr⟩ := hr
  obtain ⟨v, hv, rfl⟩ := Option.map_eq_some_iff.1 hr
  have hkf := (eqKV_flat hkk).1
  have ey := R_flatB hkf h2
  rw [mfind_fidx es 0] at hv
  obtain ⟨q, hq, rfl⟩ := Option.map_eq_some_iff.1 hv
  unfold zeroV at hz
  simp only [Option.bind_eq_some_iff] at hz
  obtain ⟨inf, hi, zc, hzc, hzv⟩ := hz
  have hzR := (valV_sound (ρ := ρ) (pin := pin) _ _ _ hzv).1
  have hzrun : (zeroValue et).run P w = .ok zc w := by simp [zeroValue, typeInfo, hi, hzc, Sem.run_bind]
  have hvf : ∀ i v, q = some (i, v) → (∀ e ∈ es, flatB e.1 = true ∧ flatB e.2 = true) → flatB v = true := by
    intro i v hqv hall
    subst hqv
    have : ∀ (es : List (V × V)) (n : Nat), (∀ e ∈ es, flatB e.1 = true ∧ flatB e.2 = true) → fidx kk (y'.ev t) es n = some (some (i, v)) → flatB v = true := by
      intro es
      induction es with
      | nil => intro n _ h; simp [fidx] at h
      | cons e es ih =>
        intro n ha h
        simp only [fidx, Option.bind_eq_some_iff] at h
        obtain ⟨b, _, h⟩ := h
        cases b
        · simp only [Bool.false_eq_true, if_false] at h
          exact ih (n + 1) (fun e he => ha e (List.mem_cons_of_mem _ he)) h
        · simp only [if_true, Option.some.injEq, Prod.mk.injEq] at h
          rw [← h.2]
          exact (ha e (by simp)).2
    exact this es 0 hall hq
  have htup : ∀ {v : V} {c : Value} {b : Bool}, R ρ pin v c → R ρ pin (.tup [v, .bool b]) (.tuple #[c, .bool b]) := fun h => .tup _ _ rfl (fun j v c hv hc => by
    match j with
    | 0 => simp at hv hc; subst hv; subst hc; exact h
    | 1 => simp at hv hc; subst hv; subst hc; exact .bool _
    | j + 2 => simp at hv)
  have main : (∀ e ∈ es, flatB e.1 = true ∧ flatB e.2 = true) → R ρ pin (if ok = true then .tup [(q.map (·.2)).getD z, .bool (q.map (·.2)).isSome] else (q.map (·.2)).getD z) (lookC ok zc q) := by
    intro hall
    cases q with
    | none =>
      cases ok
      · exact hzR
      · exact htup hzR
    | some p =>
      obtain ⟨i, v⟩ := p
      have hv := (flatB_R (ρ := ρ) (pin := pin) (hvf i v rfl hall)).1
      cases ok
      · exact hv
      · exact htup hv
  rw [ey]
  rcases ents_sound hS hes h1 with ⟨e1, rfl⟩ | ⟨b, arr, clock, e1, hb, hE⟩
  · refine ⟨ρ, pin, w, _, RExt.refl _, PExt.refl _, hS, main (by simp), .inl ?_⟩
    rw [e1, Sem.run_bind, run_lookup hu hk hkk hzrun (.inl ⟨rfl, rfl⟩) ⟨rfl, by simp⟩ hq ok]
    rfl
  · refine ⟨ρ, pin, w, _, RExt.refl _, PExt.refl _, hS, main hE.2, .inl ?_⟩
    rw [e1, Sem.run_bind, run_lookup hu hk hkk hzrun (.inr ⟨b, clock, rfl, hb⟩) hE hq ok]
    rfl

omit hs in
/-- A map's block that is laid anew. -/
theorem mwr_sound {v : V} {c : Value} {f : List (V × V) → Option (List (V × V))} {wr : List (Nat × Blk)} {ids : List Nat} (h : mwrV σ v f = some (wr, ids)) (hR : R ρ pin v c) :
    ∃ b es es' arr clock, c = .map (some b) ∧ w.heap[b]? = some (.map arr clock) ∧ EntsOk es arr ∧ f es = some es' ∧ ∀ arr' clock', EntsOk es' arr' → Sim w0 S0 ρ pin (upds σ wr) (putRow w b (.map arr' clock')) := by
  cases hR with
  | mp id g e he hm =>
    simp only [mwrV] at h
    rw [Option.ite_none_right_eq_some] at h
    obtain ⟨⟨h1, h2⟩, h⟩ := h
    obtain ⟨e', he', L⟩ := hS.live id (by rw [h2]; decide)
    rw [h1, he] at he'
    cases he'
    obtain ⟨es, arr, clock, k1, k2, k3, k4⟩ := L.ents hm
    rw [k1] at h
    simp only [Option.map_eq_some_iff] at h
    obtain ⟨es', hf, h⟩ := h
    cases h
    exact ⟨e.b, es, es', arr, clock, rfl, k2, k3, hf, fun arr' clock' hE => by rw [upds_one]; exact hS.writeM h2 (by rw [h1]; exact he) hm es' arr arr' clock clock' k2 hE⟩
  | _ => simp [mwrV] at h
theorem putRow_set (w : World) (b : Nat) (o : Obj) : ({ w with heap := w.heap.setIfInBounds b o } : World) = putRow w b o := rfl

theorem op_mset {T kt et : TypeId} {kk : KK} {m x y : Operand} {m' x' y' : Opd} (hu : P.underlying T = some (.map kt et)) (hk : kkOf P kt = some kk) (hm : opd m = some m') (hx : opd x = some x') (hy : opd y = some y')
    (hr : insV tbl base t σ (.mset kk m' x' y') = some r) : Done w0 S0 ρ pin (upds σ r.wr) r.val ((do Instr.mapUpdate T (a.eval m) (a.eval x) (a.eval y); pure .skip : Sem Next).run P w) := by
  have h0 := opd_sound hs hm
  have h1 := opd_sound hs hx
  have h2 := opd_sound hs hy
  unfold insV at hr
  simp only at hr
  rw [Option.ite_none_right_eq_some] at hr
  obtain ⟨⟨hkk, hvf⟩, hr⟩ := hr
  obtain ⟨⟨wr, ids⟩, hwr, rfl⟩ := Option.map_eq_some_iff.1 hr
  have hkf := (eqKV_flat hkk).1
  have ex := R_flatB hkf h1
  have ey := R_flatB hvf h2
  obtain ⟨b, es, es', arr, clock, e0, hb, hE, hf, hSim⟩ := mwr_sound hS hwr h0
  rw [e0, ex, ey]
  rcases mput_fidx 0 hf with ⟨f1, rfl⟩ | ⟨j, e, f1, f2, f3, rfl⟩
  · have hfind := run_find (w := w) hk hE f1
    refine ⟨ρ, pin, _, undef, RExt.refl _, PExt.refl _, hSim (arr.push { key := cvt (x'.ev t), val := cvt (y'.ev t), born := clock }) (clock + 1) (ents_push hE hkf hvf _ rfl rfl), undef_R0, .inr ⟨?_, rfl⟩⟩
    simp only [Instr.mapUpdate, Sem.run_bind, run_under hu, Result.andThen_ok, MapKept.run_getObj_map hb, run_checkKey1 hk hkk, hfind, Option.map_none, MapKept.run_setObj_map _ hb, Sem.run_pure]
    rfl
  · have hfind := run_find (w := w) hk hE f1
    have heq := (eqKV_flat f3).2.2 rfl
    have ha : ∃ me, arr[j]? = some me ∧ me.key = cvt (x'.ev t) := by
      have := congrArg (·[j]?) hE.1
      simp only [List.getElem?_map, Array.getElem?_toList, f2, Option.map_some] at this
      obtain ⟨me, h1, h2⟩ := Option.map_eq_some_iff.1 this
      simp only [Prod.mk.injEq] at h2
      exact ⟨me, h1, by rw [h2.1, heq]⟩
    obtain ⟨me, a1, a2⟩ := ha
    refine ⟨ρ, pin, _, undef, RExt.refl _, PExt.refl _, hSim (arr.modify j fun e => { e with key := cvt (x'.ev t), val := cvt (y'.ev t) }) clock (ents_set hE j hkf hvf), undef_R0, .inr ⟨?_, rfl⟩⟩
    simp only [Instr.mapUpdate, Sem.run_bind, run_under hu, Result.andThen_ok, MapKept.run_getObj_map hb, run_checkKey1 hk hkk, hfind, Option.map_some, Nat.zero_add, a1, Option.getD_some, a2, run_keyStays hkf, MapKept.run_setObj_map _ hb, Sem.run_pure]
    rfl

theorem op_mdel {T kt et : TypeId} {ts : List TypeId} {kk : KK} {m x : Operand} {m' x' : Opd} (hu : P.underlying T = some (.map kt et)) (hk : kkOf P kt = some kk) (hm : opd m = some m') (hx : opd x = some x')
    (hr : insV tbl base t σ (.mdel kk m' x') = some r) (ty : TypeId) : Done w0 S0 ρ pin (upds σ r.wr) r.val ((do pure (.value (← Builtin.delete_ (T :: ts).toArray ty #[a.eval m, a.eval x])) : Sem Next).run P w) := by
  have h0 := opd_sound hs hm
  have h1 := opd_sound hs hx
  unfold insV at hr
  simp only at hr
  rw [Option.ite_none_right_eq_some] at hr
  obtain ⟨hkk, hr⟩ := hr
  obtain ⟨⟨wr, ids⟩, hwr, rfl⟩ := Option.map_eq_some_iff.1 hr
  have hkf := (eqKV_flat hkk).1
  have ex := R_flatB hkf h1
  obtain ⟨b, es, es', arr, clock, e0, hb, hE, hf, hSim⟩ := mwr_sound hS hwr h0
  rw [e0, ex]
  rcases mrem_fidx 0 hf with ⟨f1, rfl⟩ | ⟨j, e, f1, f2, rfl⟩
  · have hfind := run_find (w := w) hk hE f1
    refine ⟨ρ, pin, _, .tuple #[], RExt.refl _, PExt.refl _, hSim arr clock hE, undef_R0, .inl ?_⟩
    simp only [Builtin.delete_, List.getElem?_toArray, List.getElem?_cons_zero, Sem.run_bind, run_under hu, Result.andThen_ok, MapKept.run_getObj_map hb, run_checkKey1 hk hkk, hfind, Option.map_none, MapKept.run_setObj_map _ hb, Sem.run_pure]
    simp [run_under hu, MapKept.run_getObj_map hb, run_checkKey1 hk hkk, hfind, MapKept.run_setObj_map _ hb, putRow]
  · have hfind := run_find (w := w) hk hE f1
    refine ⟨ρ, pin, _, .tuple #[], RExt.refl _, PExt.refl _, hSim (arr.eraseIdxIfInBounds j) clock (ents_erase hE j), undef_R0, .inl ?_⟩
    simp [Builtin.delete_, run_under hu, MapKept.run_getObj_map hb, run_checkKey1 hk hkk, hfind, MapKept.run_setObj_map _ hb, putRow]

theorem op_mlen {T kt et : TypeId} {x : Operand} {x' : Opd} (hu : P.underlying T = some (.map kt et)) (hx : opd x = some x') (hr : insV tbl base t σ (.mlen x') = some r) (ty : TypeId) :
    Done w0 S0 ρ pin (upds σ r.wr) r.val ((do pure (.value (← Builtin.len_ #[T] ty #[a.eval x])) : Sem Next).run P w) := by
  have h1 := opd_sound hs hx
  unfold insV at hr
  simp only at hr
  obtain ⟨⟨es, ids⟩, hes, rfl⟩ := Option.map_eq_some_iff.1 hr
  rcases ents_sound hS hes h1 with ⟨e1, rfl⟩ | ⟨b, arr, clock, e1, hb, hE⟩
  · refine ⟨ρ, pin, w, goInt 0, RExt.refl _, PExt.refl _, hS, .int _ _, .inl ?_⟩
    rw [e1]
    simp [Builtin.len_, run_under hu]
  · refine ⟨ρ, pin, w, goInt arr.size, RExt.refl _, PExt.refl _, hS, ?_, .inl ?_⟩
    · rw [ents_size hE]; exact .int _ _
    · rw [e1]
      simp [Builtin.len_, run_under hu, MapKept.run_getObj_map hb]

omit hs hS in
theorem ents_nil {es : List (V × V)} {arr : Array MapEntry} (h : EntsOk es arr) (he : es.isEmpty = true) : arr = #[] := by
  have := ents_size h
  cases es with
  | nil => exact Array.eq_empty_of_size_eq_zero this
  | cons => cases he
theorem op_rng {T kt et : TypeId} {x : Operand} {x' : Opd} (hu : P.underlying T = some (.map kt et)) (hx : opd x = some x') (hr : insV tbl base t σ (.rng x') = some r) :
    Done w0 S0 ρ pin (upds σ r.wr) r.val ((do pure (.value (← Instr.range T (a.eval x))) : Sem Next).run P w) := by
  have h1 := opd_sound hs hx
  unfold insV at hr
  simp only at hr
  split at hr
  case h_2 => cases hr
  rename_i id g hv
  rw [hv] at h1
  obtain ⟨⟨es, ids⟩, hes, hr⟩ := Option.bind_eq_some_iff.1 hr
  rw [Option.ite_none_right_eq_some] at hr
  obtain ⟨hem, hr⟩ := hr
  cases hr
  rcases ents_sound hS hes h1 with ⟨e1, rfl⟩ | ⟨b, arr, clock, e1, hb, hE⟩
  · rw [e1] at h1; cases h1
  · rw [e1] at h1
    cases h1 with
    | mp _ _ e he hm =>
      have hz := ents_nil hE hem
      subst hz
      obtain ⟨hx', hS'⟩ := hS.pinAlloc (.mapIter (some e.b) clock #[] clock)
      refine ⟨ρ, _, _, .pointer (some ⟨w.heap.size, 0, none⟩), RExt.refl _, hx', hS', .itm id g e w.heap.size clock clock he hm (by simp [setPin]), .inl ?_⟩
      rw [e1, Sem.run_bind, run_range_map w T kt et e.b #[] clock hu hb]
      rfl
theorem op_nxt {x : Operand} {x' : Opd} (hx : opd x = some x') (ty : TypeId) (hr : insV tbl base t σ (.nxt x') = some r) :
    Done w0 S0 ρ pin (upds σ r.wr) r.val ((do pure (.value (← Instr.next (a.eval x) false ty)) : Sem Next).run P w) := by
  have h1 := opd_sound hs hx
  unfold insV at hr
  simp only at hr
  split at hr
  case h_2 => cases hr
  rename_i id g hv
  rw [hv] at h1
  obtain ⟨⟨es, ids⟩, hes, hr⟩ := Option.bind_eq_some_iff.1 hr
  rw [Option.ite_none_right_eq_some] at hr
  obtain ⟨hem, hr⟩ := hr
  cases hr
  generalize a.eval x = c at h1 ⊢
  cases h1 with
  | itm _ _ e rr s l he hm hp =>
    rcases ents_sound hS hes (R.mp id g e he hm) with ⟨e1, rfl⟩ | ⟨b, arr, clock, e1, hb, hE⟩
    · cases e1
    · cases e1
      have hz := ents_nil hE hem
      subst hz
      have hit := hS.pinned _ _ hp
      refine ⟨ρ, pin, w, .tuple #[.bool false], RExt.refl _, PExt.refl _, hS, .tup _ _ rfl (fun j v c hv hc => ?_), .inl ?_⟩
      · match j with
        | 0 => simp at hv hc; subst hv; subst hc; exact .bool _
        | j + 1 => simp at hv
      · simp [Instr.next, getObj, Sem.run, hit, hb, choose, Question.forced]
theorem op_clb {f : FuncId} {x : Operand} {x' : Opd} (hx : opd x = some x') (hr : insV tbl base t σ (.clb f x') = some r) :
    Done w0 S0 ρ pin (upds σ r.wr) r.val ((do pure (.value (← Instr.makeFunc (.func f) #[a.eval x] #[])) : Sem Next).run P w) := by
  have h1 := opd_sound hs hx
  unfold insV at hr
  simp only at hr
  split at hr
  case h_2 => cases hr
  rename_i id g off hv
  rw [hv] at h1
  generalize a.eval x = c at h1 ⊢
  cases h1 with
  | ptr _ _ _ e he hm =>
    refine done_pure hS hr (.mth f id g off e he hm) ?_
    simp [Instr.makeFunc]

theorem op_clr {T e : TypeId} {ts : List TypeId} {s : Nat} {z : List V} {x : Operand} {x' : Opd} (hu : P.underlying T = some (.slice e)) (hsz : szC P e = some s) (hz : zeroC P e = some z) (hs0 : 0 < s) (hzs : z.length = s) (hx : opd x = some x')
    (hr : insV tbl base t σ (.clr s z x') = some r) (ty : TypeId) : Done w0 S0 ρ pin (upds σ r.wr) r.val ((do pure (.value (← Builtin.clear_ (T :: ts).toArray ty #[a.eval x])) : Sem Next).run P w) := by
  have h1 := opd_sound hs hx
  obtain ⟨zc, hc1, hc2⟩ := zeroC_some (ρ := ρ) (pin := pin) hz
  obtain ⟨z1, z2⟩ := hc2 (by intro h; subst h; simp at hzs; omega)
  have hcsz : zc.cells.size = s := by have := z1.len; simp at this; omega
  unfold insV at hr
  simp only at hr
  split at hr
  · rename_i k n cs hev
    rw [hev] at h1
    rw [Option.ite_none_right_eq_some] at hr
    obtain ⟨rfl, hr⟩ := hr
    cases hr
    refine ⟨ρ, pin, w, .tuple #[], RExt.refl _, PExt.refl _, hS, undef_R0, .inl ?_⟩
    generalize a.eval x = c0 at h1
    cases h1 <;> simp [Builtin.clear_, run_under hu]
  · rename_i id g off n es hev
    rw [hev] at h1
    rw [Option.ite_none_right_eq_some] at hr
    obtain ⟨⟨rfl, c2, c3, c4, c5⟩, hr⟩ := hr
    cases hr
    generalize a.eval x = c0 at h1
    cases h1 with
    | sli _ _ _ _ _ cap e' ad he hm hn hcap hlen =>
      obtain ⟨arr, el, fz, r1, r2, r3, r4, r5, r6, r7, r8, r9⟩ := hS.rowOf c2 (by rw [c3]; decide) he hm
      by_cases h0 : n = 0
      · subst h0
        have e0 : splice (σ id).cells off (List.replicate 0 z).flatten = (σ id).cells := by
          unfold splice
          simp
        refine ⟨ρ, pin, w, .tuple #[], RExt.refl _, PExt.refl _, ?_, undef_R0, .inl ?_⟩
        · rw [upds_one]
          refine hS.congr fun k => ?_
          by_cases hk : k = id
          · subst hk; rw [upd_same, e0]
          · rw [upd_ne _ _ hk]
        · simp [Builtin.clear_, run_under hu]
      · obtain ⟨rfl, hfit⟩ := hcap (by omega)
        have hmod := range_mod_zeros zc.cells (by omega) n
        rw [hcsz] at hmod
        have hrl : RL ρ pin (List.replicate n z).flatten (Builtin.zeroCells zc.cells n).toList := by
          unfold Builtin.zeroCells
          rw [hcsz, hmod]
          exact zeros_RL z1 _
        have hmem : ∀ v ∈ (List.replicate n z).flatten, v ∈ z := fun v hv => by
          obtain ⟨l, hl, hv⟩ := List.mem_flatten.1 hv
          rw [List.eq_of_mem_replicate hl] at hv
          exact hv
        have hfl : (List.replicate n z).flatten.length = n * es := by rw [hrl.len]; simp [Builtin.zeroCells, hcsz]
        have hal : (Builtin.zeroCells zc.cells n).toList.length = n * es := by rw [← hrl.len, hfl]
        have hst := run_storeCells_row (P := P) e'.b el fz (e'.base + off) (Builtin.zeroCells zc.cells n).toList 0 w arr r1 r2 (by omega) (hrl.oneCells (fun v hv => (z2 v (hmem v hv)).1))
        rw [if_neg (by intro hh; rw [hh, List.length_nil] at hal; have := Nat.mul_pos (Nat.pos_of_ne_zero h0) hs0; omega)] at hst
        have hw := hS.write c3 (by rw [c2]; exact he) hm (splice (σ id).cells off (List.replicate n z).flatten) arr (setL arr (e'.base + off + 0) (Builtin.zeroCells zc.cells n).toList) el fz r1 (setL_size _ _ _) (splice_length _ _ _ (by omega))
          (fun v hv => (mem_splice hv).elim (r7 v) (fun h => (z2 v (hmem v h)).1)) (fun hh v hv => (mem_splice hv).elim (r8 hh v) (fun h => (z2 v (hmem v h)).2)) (splice_R r5 (by omega) hrl r6)
        refine ⟨ρ, pin, putRow w e'.b (.cells (setL arr (e'.base + off + 0) (Builtin.zeroCells zc.cells n).toList) el fz), .tuple #[], RExt.refl _, PExt.refl _, hw, undef_R0, .inl ?_⟩
        obtain ⟨n', rfl⟩ : ∃ n', n = n' + 1 := ⟨n - 1, by omega⟩
        simp [Builtin.clear_, run_under hu, hc1, hst]
  · cases hr
end
end Go.Vm
