/- Each operation of the machine over values does what the given model's does: those that lay memory. -/
import Derived.Test.YtmcbceppgaljnaaVmRo
set_option linter.unusedSectionVars false
set_option linter.unusedSimpArgs false
set_option linter.unusedVariables false
namespace Go.Vm
variable {P : Program} {w0 w : World} {S0 : Terr} {ρ : Ren} {pin : Pin} {σ : Store} {a : Act} {t : Nat → V}

theorem foldl_zipIdx_setL (off : Nat) : ∀ (l : List Value) (k : Nat) (cells : Array Value), (l.zipIdx k).foldl (fun cs p => cs.setIfInBounds (off + p.2) p.1) cells = setL cells (off + k) l
  | [], k, cells => rfl
  | v :: l, k, cells => by
    simp only [List.zipIdx_cons, List.foldl_cons, setL]
    rw [foldl_zipIdx_setL off l (k + 1)]
    rw [Nat.add_assoc]

/-- Parts laid into a row, on both sides. -/
theorem fill_sound (place : Nat → Option (Nat × Nat)) : ∀ (ps : List (Nat × Nat × V)) (qs : List (Nat × Value)) (z cs : List V) (arr : Array Value), ps.length = qs.length →
    (∀ (j : Nat) (p : Nat × Nat × V) (q : Nat × Value), ps[j]? = some p → qs[j]? = some q → place q.1 = some (p.1, p.2.1) ∧ 0 < p.2.1 ∧ R ρ pin p.2.2 q.2) →
    RL ρ pin z arr.toList → (∀ v ∈ z, v.one = true) → fillV ps z = some cs → ∃ arr', Instr.fill place arr qs = some arr' ∧ RL ρ pin cs arr'.toList ∧ (∀ v ∈ cs, v.one = true) ∧ cs.length = z.length
  | [], [], z, cs, arr, _, _, hz, h1, h => by cases h; exact ⟨arr, rfl, hz, h1, rfl⟩
  | [], _ :: _, _, _, _, hl, _, _, _, _ => by simp at hl
  | _ :: _, [], _, _, _, hl, _, _, _, _ => by simp at hl
  | (off, size, v) :: ps, (i, c) :: qs, z, cs, arr, hl, hp, hz, h1, h => by
    obtain ⟨p1, p2, p3⟩ := hp 0 (off, size, v) (i, c) rfl rfl
    simp only at p1 p2 p3
    unfold fillV at h
    split at h
    case isFalse => cases h
    rename_i hc
    obtain ⟨c1, c2⟩ := p3.cells (by omega)
    have hsz : c.cells.size = size := by have := c1.len; simp at this; omega
    have hzl : z.length = arr.size := by simpa using hz.len
    have e1 : z.take off ++ v.cells ++ z.drop (off + size) = splice z off v.cells := by unfold splice; rw [hc.1]
    rw [e1] at h
    have hrel : RL ρ pin (splice z off v.cells) (setL arr off c.cells.toList).toList := by
      have hs := splice_R (base := 0) (arr := arr) (by omega) (by omega : off + v.cells.length ≤ z.length) c1 (fun j x y hx hy => hz.at_ j x y hx (by simpa using hy))
      refine ⟨by rw [splice_length _ _ _ (by omega)]; simp [setL_size, hzl], fun j x y hx hy => hs j x y hx (by simpa using hy)⟩
    obtain ⟨arr', k1, k2, k3, k4⟩ := fill_sound place ps qs _ cs _ (by simpa using hl) (fun j p q a b => hp (j + 1) p q (by simpa using a) (by simpa using b)) hrel (fun x hx => (mem_splice hx).elim (h1 x) (c2 x)) h
    refine ⟨arr', ?_, k2, k3, by rw [k4, splice_length _ _ _ (by omega)]⟩
    unfold Instr.fill
    simp only [p1]
    have hcond : (decide (c.cells.size ≠ size) || decide (off + c.cells.size > arr.size)) = false := by simp; omega
    rw [if_neg (by simp; omega)]
    have e2 : (c.cells.zipIdx.foldl (fun cs p => cs.setIfInBounds (off + p.2) p.1) arr) = setL arr off c.cells.toList := by
      rw [← Array.foldl_toList, Array.toList_zipIdx]
      have := foldl_zipIdx_setL off c.cells.toList 0 arr
      simpa using this
    rw [e2]
    exact k1

section
variable (hs : Slots ρ pin t a) (hS : Sim w0 S0 ρ pin σ w) {tbl : Tbl} {base : Nat} {r : Res}
include hs hS

theorem op_mkS {T : TypeId} {fs : Array Field} {z : List V} {parts : Array (Nat × Operand)} {ps : List (Nat × Nat × Opd)} (hu : P.underlying T = some (.struct fs)) (hz : zeroC P T = some z) (hz0 : z ≠ [])
    (hp : mapO (fun (p : Nat × Operand) => (fs[p.1]?).bind fun (f : Field) => (szC P f.type).bind fun s => if 0 < s then (opd p.2).map fun x => (f.offset, s, x) else none) parts.toList = some ps)
    (hall : ∀ f ∈ fs.toList, (szC P f.type).isSome = true)
    (hr : insV tbl base t σ (.mk z ps) = some r) : Done w0 S0 ρ pin (upds σ r.wr) r.val ((do pure (.value (← Instr.build T (parts.map fun (i, x) => (i, a.eval x)))) : Sem Next).run P w) := by
  unfold insV at hr
  simp only [Option.map_eq_some_iff] at hr
  obtain ⟨cs, hcs, rfl⟩ := hr
  obtain ⟨m1, m2⟩ := mapO_spec hp
  obtain ⟨c, hc1, hc2⟩ := zeroC_some (ρ := ρ) (pin := pin) hz
  obtain ⟨z1, z2⟩ := hc2 hz0
  -- the places of the fields
  have hpl : ∃ places : Array (Nat × Nat), (fs.mapM (m := Sem) fun (f : Field) => do pure (f.offset, ← sizeOf f.type)).run P w = .ok places w ∧ ∀ (i : Nat) (f : Field) (s : Nat), fs[i]? = some f → szC P f.type = some s → places[i]? = some (f.offset, s) := by
    have gen : ∀ l : List Field, (∀ f ∈ l, (szC P f.type).isSome = true) → ∃ pl : List (Nat × Nat), (l.mapM (m := Sem) fun (f : Field) => do pure (f.offset, ← sizeOf f.type)).run P w = .ok pl w ∧ ∀ (i : Nat) (f : Field) (s : Nat), l[i]? = some f → szC P f.type = some s → pl[i]? = some (f.offset, s) := by
      intro l
      induction l with
      | nil => intro _; exact ⟨[], by simp, fun i f s h => by simp at h⟩
      | cons f l ih =>
        intro h
        obtain ⟨s, hsf⟩ := Option.isSome_iff_exists.1 (h f (by simp))
        obtain ⟨pl, g1, g2⟩ := ih (fun f hf => h f (List.mem_cons_of_mem _ hf))
        refine ⟨(f.offset, s) :: pl, by simp only [List.mapM_cons, Sem.run_bind, szC_some hsf, Result.andThen_ok, Sem.run_pure, g1], fun i f' s' hf hs' => ?_⟩
        cases i with
        | zero =>
          simp at hf
          subst hf
          rw [hsf] at hs'
          cases hs'
          rfl
        | succ i => exact g2 i f' s' (by simpa using hf) hs'
    obtain ⟨pl, g1, g2⟩ := gen fs.toList hall
    refine ⟨pl.toArray, ?_, fun i f s hf hs' => by simpa using g2 i f s (by simpa using hf) hs'⟩
    rw [Array.mapM_eq_mapM_toList, Sem.run_map, g1]
    rfl
  obtain ⟨places, q1, q2⟩ := hpl
  obtain ⟨arr', k1, k2, k3, k4⟩ := fill_sound (ρ := ρ) (pin := pin) (places[·]?) (ps.map fun p => (p.1, p.2.1, p.2.2.ev t)) (parts.toList.map fun (i, x) => (i, a.eval x)) z cs c.cells (by simp [m1]) (fun j p q hpj hqj => by
    rw [List.getElem?_map] at hpj hqj
    obtain ⟨p', hp', rfl⟩ := Option.map_eq_some_iff.1 hpj
    obtain ⟨q', hq', rfl⟩ := Option.map_eq_some_iff.1 hqj
    have := m2 j q' p' hq' hp'
    simp only [Option.bind_eq_some_iff] at this
    obtain ⟨f, hf, s, hsz, this⟩ := this
    split at this
    case isFalse => cases this
    rename_i hs0
    obtain ⟨y, hy, rfl⟩ := Option.map_eq_some_iff.1 this
    exact ⟨q2 _ f s hf hsz, hs0, opd_sound hs hy⟩) z1 (fun v hv => (z2 v hv).1) hcs
  refine ⟨ρ, pin, w, .agg arr', RExt.refl _, PExt.refl _, hS, .agg cs arr' (by simpa using k2.len) k3 (fun j x y hx hy => k2.at_ j x y hx (by simpa using hy)), .inl ?_⟩
  have e : (parts.map fun (i, x) => (i, a.eval x)).toList = parts.toList.map fun (i, x) => (i, a.eval x) := by simp
  simp only [Instr.build, Sem.run_bind, hc1, run_under hu, Result.andThen_ok, q1, e, k1]
  rfl

theorem op_mkA {T e : TypeId} {m s : Nat} {z : List V} {parts : Array (Nat × Operand)} {ps : List (Nat × Nat × Opd)} (hu : P.underlying T = some (.array m e)) (hz : zeroC P T = some z) (hz0 : z ≠ []) (hsz : szC P e = some s) (hs0 : 0 < s)
    (hp : mapO (fun (p : Nat × Operand) => (opd p.2).map fun x => (p.1 * s, s, x)) parts.toList = some ps)
    (hr : insV tbl base t σ (.mk z ps) = some r) : Done w0 S0 ρ pin (upds σ r.wr) r.val ((do pure (.value (← Instr.build T (parts.map fun (i, x) => (i, a.eval x)))) : Sem Next).run P w) := by
  unfold insV at hr
  simp only [Option.map_eq_some_iff] at hr
  obtain ⟨cs, hcs, rfl⟩ := hr
  obtain ⟨m1, m2⟩ := mapO_spec hp
  obtain ⟨c, hc1, hc2⟩ := zeroC_some (ρ := ρ) (pin := pin) hz
  obtain ⟨z1, z2⟩ := hc2 hz0
  obtain ⟨arr', k1, k2, k3, k4⟩ := fill_sound (ρ := ρ) (pin := pin) (fun i => some (i * s, s)) (ps.map fun p => (p.1, p.2.1, p.2.2.ev t)) (parts.toList.map fun (i, x) => (i, a.eval x)) z cs c.cells (by simp [m1]) (fun j p q hpj hqj => by
    rw [List.getElem?_map] at hpj hqj
    obtain ⟨p', hp', rfl⟩ := Option.map_eq_some_iff.1 hpj
    obtain ⟨q', hq', rfl⟩ := Option.map_eq_some_iff.1 hqj
    obtain ⟨y, hy, rfl⟩ := Option.map_eq_some_iff.1 (m2 j q' p' hq' hp')
    exact ⟨rfl, hs0, opd_sound hs hy⟩) z1 (fun v hv => (z2 v hv).1) hcs
  refine ⟨ρ, pin, w, .agg arr', RExt.refl _, PExt.refl _, hS, .agg cs arr' (by simpa using k2.len) k3 (fun j x y hx hy => k2.at_ j x y hx (by simpa using hy)), .inl ?_⟩
  have e : (parts.map fun (i, x) => (i, a.eval x)).toList = parts.toList.map fun (i, x) => (i, a.eval x) := by simp
  simp only [Instr.build, Sem.run_bind, hc1, run_under hu, Result.andThen_ok, szC_some hsz, e, k1]
  rfl

/-- A store. -/
theorem op_st {T : TypeId} {g : Bool} {n : Nat} {p x : Operand} {p' x' : Opd} (hg : g = true ∨ n = 1) (hn : szC P T = some n) (h0 : 0 < n) (hp : opd p = some p') (hx : opd x = some x') (hr : insV tbl base t σ (.st g n p' x') = some r) :
    Done w0 S0 ρ pin (upds σ r.wr) r.val ((do Instr.storeAt T (a.eval p) (a.eval x); pure .skip : Sem Next).run P w) := by
  have h1 := opd_sound hs hp
  have h2 := opd_sound hs hx
  unfold insV at hr
  simp only at hr
  split at hr
  case h_2 => cases hr
  rename_i id gn off hev
  rw [hev] at h1
  split at hr
  case isFalse => cases hr
  rename_i hc
  obtain ⟨hc1, hc2, hc3, hc4⟩ := hc
  obtain ⟨e, he, hm, hpc⟩ := h1.ptr_inv
  rw [hpc]
  generalize x'.ev t = u at *
  generalize hcu : a.eval x = cu at *
  obtain ⟨c1, c2⟩ := h2.cells (by omega)
  -- the store on the model's side
  have run : ∀ (σ1 : Store) (pin1 : Pin) (cs : List V), Sim w0 S0 ρ pin1 σ1 w → σ1 id = σ id → RL ρ pin1 cs cu.cells.toList → (∀ v ∈ cs, v.one = true) → cs.length = n → ((σ id).arr = true → ∀ v ∈ cs, NoRef v) →
      ∃ w', (do Instr.storeAt T (.pointer (some ⟨e.b, e.base + off, none⟩)) cu; pure .skip : Sem Next).run P w = .ok .skip w' ∧ Sim w0 S0 ρ pin1 (upd σ1 id { σ id with cells := splice (σ id).cells off cs }) w' := by
    intro σ1 pin1 cs hS1 hid hrl hone hlen hno
    have hst : (σ1 id).st = .rw := by rw [hid]; exact hc2
    have he1 : ρ id (σ1 id).gen = some e := by rw [hid, hc1]; exact he
    obtain ⟨arr, el, fz, r1, r2, r3, r4, r5, r6, r7, r8, _⟩ := hS1.rowOf rfl (by rw [hst]; decide) he1 hm
    rw [hid] at r4 r5 r6 r7 r8
    have hvl : cu.cells.toList.length = n := by rw [← hrl.len]; exact hlen
    have hst2 := run_storeCells_row (P := P) e.b el fz (e.base + off) cu.cells.toList 0 w arr r1 r2 (by omega) (hrl.oneCells hone)
    rw [if_neg (by intro hh; rw [hh] at hvl; simp at hvl; omega)] at hst2
    refine ⟨putRow w e.b (.cells (setL arr (e.base + off + 0) cu.cells.toList) el fz), ?_, ?_⟩
    · have hsz : ¬ (cu.cells.size ≠ n) := by have := hvl; simp at this; omega
      simp only [Instr.storeAt, Instr.sureAddr, storeVar, Sem.run_bind, Sem.run_pure, Result.andThen_ok, szC_some hn]
      rw [if_neg hsz]
      simp only [Sem.run_bind, Sem.run_pure, Result.andThen_ok, hst2]
    · have hw := hS1.write hst he1 hm (splice (σ id).cells off cs) arr (setL arr (e.base + off + 0) cu.cells.toList) el fz r1 (setL_size _ _ _) (by rw [hid, splice_length _ _ _ (by omega)])
        (fun v hv => (mem_splice hv).elim (r7 v) (hone v)) (by rw [hid]; exact fun hh v hv => (mem_splice hv).elim (r8 hh v) (hno hh v)) (splice_R r5 (by omega) hrl r6)
      rw [hid] at hw
      exact hw
  have key : ∀ cs : List V, cs.length = n → (if g = true then splice (σ id).cells off cs else (σ id).cells.set off (cs.headD .nilp)) = splice (σ id).cells off cs := by
    intro cs hlen
    cases g with
    | true => rfl
    | false =>
      obtain rfl : n = 1 := by simpa using hg
      match cs, hlen with
      | [v], _ => simp only [Bool.false_eq_true, if_false, List.headD_cons]; exact set_eq_splice _ _ _ (by omega)
  split at hr
  · rename_i harr
    simp only [Option.bind_eq_some_iff] at hr
    obtain ⟨⟨cs, is⟩, hcs, hr⟩ := hr
    simp only at hr
    split at hr
    case isFalse => cases hr
    rename_i hni
    cases hr
    obtain ⟨pin1, x1, hS1, hpi, _⟩ := hS.freeze is (roL_alive σ dep hcs)
    obtain ⟨l1, l2, l3, l4⟩ := roL_sound hS x1 dep hcs hpi c1
    have hid : upds σ (fzs σ is) id = σ id := by rw [upds_fzs, if_neg hni]
    obtain ⟨w', hw1, hw2⟩ := run _ pin1 cs hS1 hid l1 (l3 c2) (by rw [l4]; exact hc4) (fun _ => l2)
    refine ⟨ρ, pin1, w', undef, RExt.refl _, x1, ?_, .tup [] #[] rfl (fun j v c hj => by simp at hj), .inr ⟨hw1, rfl⟩⟩
    rw [upds_append, upds_one, key cs (by rw [l4]; exact hc4)]
    exact hw2
  · rename_i harr
    cases hr
    obtain ⟨w', hw1, hw2⟩ := run σ pin _ hS rfl c1 c2 hc4 (fun hh => absurd hh harr)
    refine ⟨ρ, pin, w', undef, RExt.refl _, PExt.refl _, ?_, .tup [] #[] rfl (fun j v c hj => by simp at hj), .inr ⟨hw1, rfl⟩⟩
    rw [upds_one, key _ hc4]
    exact hw2
end
end Go.Vm
