/- Each operation of the machine over values does what the given model's does: slices that are made, appended to, copied. -/
import Derived.Test.YtmcbceppgaljnaaVmOps5
import Derived.Lib.ConvBytes
set_option linter.unusedSectionVars false
set_option linter.unusedSimpArgs false
set_option linter.unusedVariables false
namespace Go.Vm
variable {P : Program} {w0 w : World} {S0 : Terr} {ρ : Ren} {pin : Pin} {σ : Store} {a : Act} {t : Nat → V}

theorem noRefB_sound {v : V} (h : noRefB v = true) : NoRef v := by
  cases v <;> first
    | exact .int _ _
    | exact .bool _
    | exact .str _
    | exact .nilp
    | exact .nilfn
    | exact .nilm
    | exact .junk
    | exact .rmp _
    | exact .sl _ _ _
    | exact .pt _ _
    | (simp [noRefB] at h; done)

theorem run_loadCells0 (ad : Addr) : (loadCells ad 0).run P w = .ok #[] w := by simp [loadCells, loadCellsFrom]

/-- A slice's cells, or a text's bytes, as the model reads them. -/
theorem cellsOf_sound (hS : Sim w0 S0 ρ pin σ w) {y : V} {c : Value} {yc : List V} {ids : List Nat} {m esz : Nat} (hc : cellsOfV σ y = some (yc, ids)) (hm : lenV y = some m) (hR : R ρ pin y c) (hl : yc.length = m * esz) :
    (Builtin.lenOf c).run P w = .ok m w ∧ (∀ n, n ≤ m → ∃ arr, (Builtin.firstCells esz n c).run P w = .ok arr w ∧ RL ρ pin (yc.take (n * esz)) arr.toList) ∧ (∀ v ∈ yc, v.one = true ∧ NoRef v) := by
  unfold cellsOfV at hc
  split at hc
  · rename_i s
    cases hc
    cases hm
    rw [hR.str_inv]
    rcases Nat.eq_zero_or_pos s.length with h0 | h0
    · obtain rfl := List.eq_nil_of_length_eq_zero h0
      refine ⟨rfl, fun n hn => ⟨#[], ?_, by simpa using RL.nil⟩, by simp⟩
      obtain rfl : n = 0 := by simpa using hn
      simp [Builtin.firstCells]
    obtain rfl : esz = 1 := by
      simp only [List.length_map] at hl
      have : s.length * 1 = s.length * esz := by omega
      exact (Nat.eq_of_mul_eq_mul_left h0 this).symm
    refine ⟨by simp [Builtin.lenOf, ByteArray.size], fun n hn => ⟨((s.take n).map fun b => Value.int .u8 (b.toNat : Int)).toArray, ?_, ?_⟩, fun v hv => ?_⟩
    · simp only [Builtin.firstCells, ByteArray.extract_mk, Sem.run_pure]
      simp
    · refine ⟨by simp, fun j v c hv hcc => ?_⟩
      simp only [Nat.mul_one, List.getElem?_take, List.getElem?_map] at hv hcc
      split at hv
      · obtain ⟨b, hb, rfl⟩ := Option.map_eq_some_iff.1 hv
        simp [List.getElem?_take, hb] at hcc
        rw [← hcc.2]
        exact .int _ _
      · cases hv
    · obtain ⟨b, _, rfl⟩ := List.mem_map.1 hv
      exact ⟨rfl, .int _ _⟩
  · rename_i k n0 cs
    cases hc
    cases hm
    cases hR with
    | slnil =>
      refine ⟨by simp [Builtin.lenOf], fun n hn => ⟨#[], ?_, by simpa using RL.nil⟩, by simp⟩
      simp [Builtin.firstCells]
    | slzero ad =>
      refine ⟨by simp [Builtin.lenOf], fun n hn => ⟨#[], ?_, by simpa using RL.nil⟩, by simp⟩
      obtain rfl : n = 0 := by omega
      simp [Builtin.firstCells, run_loadCells0]
    | slro _ _ ad cap arr el fz hn h0 hp h1 hh =>
      refine ⟨by simp [Builtin.lenOf], fun n hn' => ?_, h1⟩
      by_cases hz : m = 0
      · obtain rfl : n = 0 := by omega
        refine ⟨#[], ?_, ?_⟩
        · simp [Builtin.firstCells, run_loadCells0]
        · simpa using RL.nil
      · obtain ⟨p1, p2, p3⟩ := hp hz
        obtain ⟨b, o, sp⟩ := ad
        simp only at p1 p2 p3 hh
        subst p1
        have hle : n * esz ≤ m * esz := Nat.mul_le_mul_right _ hn'
        refine ⟨((arr.toList.drop o).take (n * esz)).toArray, ?_, ?_⟩
        · simp only [Builtin.firstCells]
          exact run_loadCells_row (hS.pinned _ _ p2) (by omega)
        · have hr := (RL.ofRow p3 hh).take (n * esz)
          rw [List.take_take, Nat.min_eq_left (by omega)] at hr
          simpa using hr
  · rename_i id g off n0 es
    split at hc
    case isFalse => cases hc
    rename_i hcc
    obtain ⟨q1, q2, q3, q4⟩ := hcc
    cases hc
    cases hm
    cases hR with
    | sli _ _ _ _ _ cap e ad he hm hn hcap hlen =>
      obtain ⟨arr, el, fz, r1, r2, r3, r4, r5, r6, r7, r8, r9⟩ := hS.rowOf q1 q2 he hm
      have hlen' : (((σ id).cells.drop off).take (m * es)).length = m * es := by simp; omega
      rw [hlen'] at hl
      refine ⟨by simp [Builtin.lenOf], fun n hn' => ?_, fun v hv => ⟨r7 v (List.mem_of_mem_drop (List.mem_of_mem_take hv)), ?_⟩⟩
      · have hle : n * esz ≤ m * esz := Nat.mul_le_mul_right _ hn'
        by_cases hz : cap = 0
        · obtain rfl : n = 0 := by omega
          refine ⟨#[], ?_, by simpa using RL.nil⟩
          simp [Builtin.firstCells, run_loadCells0]
        · obtain ⟨rfl, _⟩ := hcap hz
          refine ⟨((arr.toList.drop (e.base + off)).take (n * esz)).toArray, ?_, ?_⟩
          · simp only [Builtin.firstCells]
            exact run_loadCells_row r1 (by omega)
          · have hr := (((RL.ofRow r5 r6).drop off).take (m * es)).take (n * esz)
            rw [drop_take_drop _ _ _ _ _ (by omega), List.take_take, Nat.min_eq_left (by omega)] at hr
            rw [List.take_take, Nat.min_eq_left (by omega)] at hr ⊢
            simpa using hr
      · rcases q4 with q4 | q4
        · exact r8 q4 v (List.mem_of_mem_drop (List.mem_of_mem_take hv))
        · exact noRefB_sound (List.all_eq_true.1 q4 v hv)
  · cases hc

/-- A row of so many noughts. -/
theorem zeros_RL {z : List V} {zc : List Value} (h : RL ρ pin z zc) : ∀ n, RL ρ pin (List.replicate n z).flatten (List.replicate n zc).flatten
  | 0 => RL.nil
  | n + 1 => by
    simp only [List.replicate_succ, List.flatten_cons]
    exact h.append (zeros_RL h n)
theorem range_mod_zeros (z : Array Value) (hz : 0 < z.size) : ∀ n, ((Array.range (n * z.size)).map (fun i => z[i % z.size]!)).toList = (List.replicate n z.toList).flatten := by
  intro n
  apply List.ext_getElem?
  intro j
  have hfl : ∀ (n j : Nat), (List.replicate n z.toList).flatten[j]? = if j < n * z.size then z[j % z.size]? else none := by
    intro n
    induction n with
    | zero => intro j; simp
    | succ n ih =>
      intro j
      simp only [List.replicate_succ, List.flatten_cons]
      by_cases h : j < z.size
      · rw [List.getElem?_append_left (by simpa using h), Nat.mod_eq_of_lt h, if_pos (by rw [Nat.add_mul]; omega)]
        simp
      · rw [List.getElem?_append_right (by simp; omega)]
        simp only [Array.length_toList]
        rw [ih, show j % z.size = (j - z.size) % z.size by rw [Nat.mod_eq_sub_mod (by omega)]]
        by_cases h2 : j < (n + 1) * z.size
        · rw [if_pos h2, if_pos (by rw [Nat.add_mul] at h2; omega)]
        · rw [if_neg h2, if_neg (by rw [Nat.add_mul] at h2; omega)]
  rw [hfl]
  simp only [Array.toList_map, Array.toList_range, List.getElem?_map]
  by_cases h : j < n * z.size
  · rw [if_pos h, List.getElem?_range h]
    simp only [Option.map_some]
    have : j % z.size < z.size := Nat.mod_lt _ hz
    rw [Array.getElem?_eq_getElem this]
    simp [getElem!_pos, this]
  · rw [if_neg h, List.getElem?_eq_none (by simpa using h)]
    rfl

section
variable (hs : Slots ρ pin t a) (hS : Sim w0 S0 ρ pin σ w) {tbl : Tbl} {base : Nat} {r : Res}
include hs hS

theorem op_mkSlice {T e : TypeId} {s b : Nat} {z : List V} {l c : Operand} {l' c' : Opd} (hu : P.underlying T = some (.slice e)) (hsz : szC P e = some s) (hb : byC P e = some b) (hz : zeroC P e = some z) (hzs : z.length = s) (hs0 : 0 < s) (hb0 : 0 < b) (hl : opd l = some l') (hc : opd c = some c')
    (hr : insV tbl base t σ (.mkSlice s b z l' c') = some r) : Done w0 S0 ρ pin (upds σ r.wr) r.val ((do pure (.value (← Instr.makeSlice T (a.eval l) (a.eval c))) : Sem Next).run P w) := by
  have h1 := opd_sound hs hl
  have h2 := opd_sound hs hc
  obtain ⟨zc, hc1, hc2⟩ := zeroC_some (ρ := ρ) (pin := pin) hz
  obtain ⟨z1, z2⟩ := hc2 (by intro h; subst h; simp at hzs; omega)
  obtain ⟨inf, hi1, hi2⟩ := byC_some hb
  unfold insV at hr
  simp only at hr
  split at hr
  case h_2 => cases hr
  rename_i k li k' ci hev1 hev2
  rw [hev1] at h1
  rw [hev2] at h2
  split at hr
  case isFalse => cases hr
  rename_i hcnd
  obtain ⟨q0, q1, q2⟩ := hcnd
  cases hr
  rw [h1.int_inv, h2.int_inv]
  have hcsz : zc.cells.size = s := by have := z1.len; simp at this; omega
  have hmod := range_mod_zeros zc.cells (by omega) ci.toNat
  rw [hcsz] at hmod
  have hrl : RL ρ pin (List.replicate ci.toNat z).flatten ((Array.range (ci.toNat * s)).map (fun i => zc.cells[i % s]!)).toList := by
    rw [hmod]
    exact zeros_RL z1 _
  have hmem : ∀ v ∈ (List.replicate ci.toNat z).flatten, v ∈ z := fun v hv => by
    obtain ⟨l, hl, hv⟩ := List.mem_flatten.1 hv
    rw [List.eq_of_mem_replicate hl] at hv
    exact hv
  obtain ⟨hx, hS'⟩ := hS.make base (List.replicate ci.toNat z).flatten true ((Array.range (ci.toNat * s)).map (fun i => zc.cells[i % s]!)) e (0, 0) (unfrozen00 _) (by rw [hrl.len]; simp) (fun v hv => (z2 v (hmem v hv)).1) (fun _ v hv => (z2 v (hmem v hv)).2) (fun j v u hj hu => hrl.at_ j v u hj (by rw [Array.getElem?_toList]; exact hu))
  have hflen : (List.replicate ci.toNat z).flatten.length = ci.toNat * s := by rw [hrl.len]; simp
  refine ⟨_, pin, _, .slice (some ⟨w.heap.size, 0, none⟩) li.toNat ci.toNat, hx, PExt.refl _, hS', ?_, .inl ?_⟩
  · exact .sli base _ 0 li.toNat s ci.toNat _ _ (setEnt_same _ _ _ _) rfl (by omega) (fun _ => ⟨rfl, by simp⟩) (by simp only [hflen]; omega)
  · have hbc : ci ≤ 140737488355328 := by
      have : ci * 1 ≤ ci * (b : Int) := Int.mul_le_mul_of_nonneg_left (by omega) (by omega)
      omega
    have hli : li ≤ 140737488355328 := by omega
    have w1 : IntKind.i64.wrap li = li := by rw [IntKind.wrap_i64]; omega
    have w2 : IntKind.i64.wrap ci = ci := by rw [IntKind.wrap_i64]; omega
    have tl : (inf.bytes : Int) * ci ≤ 281474976710656 := by rw [hi2, Int.mul_comm]; omega
    simp only [Instr.makeSlice, Sem.run_bind, run_under hu, Result.andThen_ok, asInt, asIntOf, Sem.run_pure, typeInfo, run_program, hi1, w1, w2, szC_some hsz]
    rw [if_neg (by simp; omega)]
    simp only [Sem.run_bind, run_askRoom, Result.andThen_ok, szC_some hsz]
    by_cases hz : ci.toNat * s = 0
    · rw [if_pos hz]
      simp only [Sem.run_bind, Sem.run_pure, Result.andThen_ok, hz]
      simp [newRow, Array.range_zero']
    · rw [if_neg hz]
      simp only [Sem.run_bind, Sem.run_pure, Result.andThen_ok, hc1, hcsz]
      simp [newRow]

theorem op_toBytes {sT dT e : TypeId} {x : Operand} {y : Opd} (hsT : P.underlying sT = some .string) (hd : P.underlying dT = some (.slice e)) (he : P.underlying e = some (.int .u8)) (h : opd x = some y) (hr : insV tbl base t σ (.toBytes y) = some r) :
    Done w0 S0 ρ pin (upds σ r.wr) r.val ((do pure (.value (← convert sT dT (a.eval x))) : Sem Next).run P w) := by
  have h1 := opd_sound hs h
  unfold insV at hr
  simp only at hr
  split at hr
  case h_2 => cases hr
  rename_i l hev
  rw [hev] at h1
  rw [h1.str_inv]
  split at hr
  case isFalse => cases hr
  rename_i hlen
  have hrun := Lib.run_convert_string_bytes (P := P) w sT dT e ⟨l.toArray⟩ hsT hd he
  have hsz : (ByteArray.mk l.toArray).size = l.length := rfl
  have hcap := grownCap_ge w l.length 0 e
  have hcells : Lib.bytesCells w e ⟨l.toArray⟩ = l.toArray.map (fun b => Value.int .u8 (b.toNat : Int)) ++ Array.replicate (grownCap w l.length 0 e - l.length) (.int .u8 0) := rfl
  have hasz : (Lib.bytesCells w e ⟨l.toArray⟩).size = grownCap w l.length 0 e := by rw [hcells]; simp; omega
  have hnew := Lib.bytesWorld_at_new w e ⟨l.toArray⟩
  rw [hsz] at hrun
  by_cases hstr : strsB = true
  case neg =>
    rw [if_neg hstr] at hr
    cases hr
    obtain ⟨hx, hS'⟩ := hS.pinNew _ (w' := Lib.bytesWorld w e ⟨l.toArray⟩) rfl rfl rfl (by rw [Lib.bytesWorld_size]; omega) (fun k hk => Lib.bytesWorld_at_old w e _ k hk) hnew
    refine ⟨ρ, _, _, .slice (some ⟨w.heap.size, 0, none⟩) l.length (grownCap w l.length 0 e), RExt.refl _, hx, hS', ?_, .inl (by simp [hrun])⟩
    refine .slro l.length (l.map u8) _ _ _ _ _ hcap (fun h0 => by rw [List.length_eq_zero_iff.1 h0]; rfl) (fun _ => ⟨rfl, by unfold setPin; rw [if_pos rfl], by rw [hasz]; simp; omega⟩) (fun v hv => by obtain ⟨b, _, rfl⟩ := List.mem_map.1 hv; exact ⟨rfl, .int _ _⟩) (fun j v u hj hu => ?_)
    rw [List.getElem?_map] at hj
    obtain ⟨b, hb, rfl⟩ := Option.map_eq_some_iff.1 hj
    have hlt : j < l.length := by
      rcases Nat.lt_or_ge j l.length with h' | h'
      · exact h'
      · rw [List.getElem?_eq_none h'] at hb; cases hb
    simp only [Nat.zero_add] at hu
    rw [hcells, Array.getElem?_append_left (by simpa using hlt)] at hu
    simp only [Array.getElem?_map, List.getElem?_toArray, hb, Option.map_some, Option.some.injEq] at hu
    rw [← hu]
    exact .int _ _
  rw [if_pos hstr] at hr
  cases hr
  obtain ⟨hx, hS'⟩ := hS.made (w' := Lib.bytesWorld w e ⟨l.toArray⟩) rfl rfl rfl (Lib.bytesWorld_size _ _ _) (fun k hk => Lib.bytesWorld_at_old w e _ k hk) base (l.map u8) true _ e _ hnew (.inr ⟨hstr, Nat.le_refl _⟩) (by rw [hasz]; simp; omega)
    (fun v hv => by obtain ⟨b, _, rfl⟩ := List.mem_map.1 hv; rfl) (fun _ v hv => by obtain ⟨b, _, rfl⟩ := List.mem_map.1 hv; exact .int _ _) (fun j v u hj hu => by
    rw [List.getElem?_map] at hj
    obtain ⟨b, hb, rfl⟩ := Option.map_eq_some_iff.1 hj
    have hlt : j < l.length := by
      rcases Nat.lt_or_ge j l.length with h' | h'
      · exact h'
      · rw [List.getElem?_eq_none h'] at hb; cases hb
    rw [hcells, Array.getElem?_append_left (by simpa using hlt)] at hu
    simp only [Array.getElem?_map, List.getElem?_toArray, hb, Option.map_some, Option.some.injEq] at hu
    rw [← hu]
    exact .int _ _)
  refine ⟨_, pin, _, .slice (some ⟨w.heap.size, 0, none⟩) l.length (grownCap w l.length 0 e), hx, PExt.refl _, hS', ?_, .inl (by simp [hrun])⟩
  exact .sli base _ 0 l.length 1 _ _ _ (setEnt_same _ _ _ _) rfl hcap (fun _ => ⟨rfl, by simp [hasz]⟩) (by simp; omega)

omit hs hS in
theorem bytesOf_spec : ∀ {cs : List V} {s : List UInt8} {vs : List Value}, bytesOf cs = some s → RL ρ pin cs vs → ∃ ns : List Int, vs = ns.map (Value.int .u8) ∧ s = ns.map (fun n => UInt8.ofNat n.toNat)
  | [], s, vs, h, hl => by
    cases h
    have := hl.len
    cases vs with
    | nil => exact ⟨[], rfl, rfl⟩
    | cons _ _ => simp at this
  | c :: cs, s, vs, h, hl => by
    unfold bytesOf at h
    split at h
    · cases ‹_ :: _ = []›
    · rename_i n r heq
      cases heq
      obtain ⟨s', hs', rfl⟩ := Option.map_eq_some_iff.1 h
      cases vs with
      | nil => have := hl.len; simp at this
      | cons v vs =>
        obtain ⟨l1, l2⟩ := hl.inv
        obtain ⟨ns, rfl, rfl⟩ := bytesOf_spec hs' l2
        exact ⟨n :: ns, by rw [l1.int_inv]; rfl, rfl⟩
    · cases h

theorem op_toStr {sT dT e : TypeId} {x : Operand} {y : Opd} (hsT : P.underlying sT = some (.slice e)) (he : P.underlying e = some (.int .u8)) (hd : P.underlying dT = some .string) (h : opd x = some y) (hr : insV tbl base t σ (.toStr y) = some r) :
    Done w0 S0 ρ pin (upds σ r.wr) r.val ((do pure (.value (← convert sT dT (a.eval x))) : Sem Next).run P w) := by
  have h1 := opd_sound hs h
  unfold insV at hr
  simp only at hr
  have fin : ∀ (v : V), y.ev t = v → ((cellsOfV σ v).bind fun (p : List V × List Nat) => if lenV v = some p.1.length then (bytesOf p.1).map fun s => (⟨.str s, [], p.2⟩ : Res) else none) = some r → (∀ s, v ≠ .str s) → Done w0 S0 ρ pin (upds σ r.wr) r.val ((do pure (.value (← convert sT dT (a.eval x))) : Sem Next).run P w) := by
    intro v hev hr hns
    rw [hev] at h1
    simp only [Option.bind_eq_some_iff] at hr
    obtain ⟨⟨cs, ids⟩, hcs, hr⟩ := hr
    simp only at hr
    split at hr
    case isFalse => cases hr
    rename_i hlen
    obtain ⟨s, hbs, rfl⟩ := Option.map_eq_some_iff.1 hr
    obtain ⟨k1, k2, _⟩ := cellsOf_sound (P := P) (esz := 1) hS hcs hlen h1 (by omega)
    obtain ⟨arr, a1, a2⟩ := k2 cs.length (Nat.le_refl _)
    rw [List.take_of_length_le (by omega)] at a2
    obtain ⟨ns, n1, n2⟩ := bytesOf_spec hbs a2
    have conv : ∀ (p : Option Addr) (n cp : Nat), (convert sT dT (.slice p n cp)).run P w = (Conv.bytesToString (.slice p n cp)).run P w := fun p n cp => run_convert_bytes_string w sT dT e p n cp hsT he hd
    have hsl : ∃ p cap, a.eval x = .slice p cs.length cap := by
      generalize a.eval x = c0 at h1
      cases h1 <;> simp [lenV] at hlen
      · exact absurd rfl (hns _)
      · exact ⟨_, _, by rw [← hlen]⟩
      · exact ⟨_, _, by rw [← hlen]⟩
      · exact ⟨_, _, by rw [← hlen]⟩
      · exact ⟨_, _, by rw [← hlen]⟩
    obtain ⟨p, cap, hp⟩ := hsl
    rw [hp] at a1 ⊢
    refine ⟨ρ, pin, w, .string ⟨s.toArray⟩, RExt.refl _, PExt.refl _, hS, .str s, .inl ?_⟩
    have hfold : ∀ (ns : List Int) (b : ByteArray), ns.foldl (fun r n => r.push (UInt8.ofNat n.toNat)) b = ⟨(b.data.toList ++ ns.map (fun n => UInt8.ofNat n.toNat)).toArray⟩ := by
      intro ns
      induction ns with
      | nil => intro b; simp
      | cons n ns ih => intro b; rw [List.foldl_cons, ih]; simp [ByteArray.push]
    cases p with
    | none =>
      have : arr = #[] := by simpa [Builtin.firstCells] using a1.symm
      subst this
      cases ns with
      | nil =>
        subst n2
        rw [Sem.run_bind, conv]
        rfl
      | cons _ _ => simp at n1
    | some ad =>
      simp only [Builtin.firstCells, Nat.mul_one] at a1
      have e1 : arr = (ns.map (Value.int .u8)).toArray := by rw [← n1]
      rw [e1] at a1
      rw [Sem.run_bind, conv, run_bytesToString w ad _ cap ns a1, hfold, n2]
      have : (ByteArray.empty.data.toList : List UInt8) = [] := rfl
      rw [this, List.nil_append]
      rfl
  split at hr
  · cases hr
  · rename_i v hns
    exact fin _ rfl hr (fun s hh => hns s hh)

/-- A slice literal. -/
theorem op_mksl {T e : TypeId} {len s : Nat} {z : List V} {parts : Array (Nat × Operand)} {ps : List (Nat × Nat × Opd)} (hu : P.underlying T = some (.slice e)) (hz : zeroC P e = some z) (hsz : szC P e = some s) (hzs : z.length = s) (hs0 : 0 < s) (hlen : len * s ≤ 4096)
    (hp : mapO (fun (p : Nat × Operand) => (opd p.2).map fun x => (p.1 * s, s, x)) parts.toList = some ps)
    (hr : insV tbl base t σ (.mksl s len (List.replicate len z).flatten ps) = some r) : Done w0 S0 ρ pin (upds σ r.wr) r.val ((do pure (.value (← Instr.buildSlice T len (parts.map fun (i, x) => (i, a.eval x)))) : Sem Next).run P w) := by
  unfold insV at hr
  simp only at hr
  obtain ⟨cs, hcs, hr⟩ := Option.bind_eq_some_iff.1 hr
  obtain ⟨m1, m2⟩ := mapO_spec hp
  obtain ⟨zc, hc1, hc2⟩ := zeroC_some (ρ := ρ) (pin := pin) hz
  obtain ⟨z1, z2⟩ := hc2 (by intro h; subst h; simp at hzs; omega)
  have hcsz : zc.cells.size = s := by have := z1.len; simp at this; omega
  have hmod := range_mod_zeros zc.cells (by omega) len
  rw [hcsz] at hmod
  generalize hrow : (Array.range (len * s)).map (fun i => zc.cells[i % s]!) = row at hmod
  have hrl : RL ρ pin (List.replicate len z).flatten row.toList := by rw [hmod]; exact zeros_RL z1 _
  have hmem : ∀ v ∈ (List.replicate len z).flatten, v ∈ z := fun v hv => by
    obtain ⟨l, hl, hv⟩ := List.mem_flatten.1 hv
    rw [List.eq_of_mem_replicate hl] at hv
    exact hv
  obtain ⟨arr', k1, k2, k3, k4⟩ := fill_sound (ρ := ρ) (pin := pin) (fun i => some (i * s, s)) (ps.map fun p => (p.1, p.2.1, p.2.2.ev t)) (parts.toList.map fun (i, x) => (i, a.eval x)) _ cs row (by simp [m1]) (fun j p q hpj hqj => by
    rw [List.getElem?_map] at hpj hqj
    obtain ⟨p', hp', rfl⟩ := Option.map_eq_some_iff.1 hpj
    obtain ⟨q', hq', rfl⟩ := Option.map_eq_some_iff.1 hqj
    obtain ⟨y, hy, rfl⟩ := Option.map_eq_some_iff.1 (m2 j q' p' hq' hp')
    exact ⟨rfl, hs0, opd_sound hs hy⟩) hrl (fun v hv => (z2 v (hmem v hv)).1) hcs
  have hasz : arr'.size = len * s := by
    have := k2.len
    rw [k4, hrl.len, ← hrow] at this
    simp at this
    omega
  split at hr
  · cases hr
    obtain ⟨hx, hS'⟩ := hS.make base cs false arr' e (0, 0) (unfrozen00 _) (by rw [k2.len]; simp) k3 (by simp) (fun j v u hj hu => k2.at_ j v u hj (by rw [Array.getElem?_toList]; exact hu))
    refine ⟨_, pin, w.alloc (.cells arr' e), .slice (some ⟨w.heap.size, 0, none⟩) len len, hx, PExt.refl _, hS', ?_, .inl ?_⟩
    · exact .sli base _ 0 len s len _ _ (setEnt_same _ _ _ _) rfl (Nat.le_refl _) (fun _ => ⟨rfl, by simp [hasz]⟩) (by simp only [k2.len]; simp [hasz])
    · have e1 : (parts.map fun (i, x) => (i, a.eval x)).toList = parts.toList.map fun (i, x) => (i, a.eval x) := by simp
      simp only [Instr.buildSlice, Sem.run_bind, run_under hu, Result.andThen_ok, szC_some hsz]
      rw [if_neg (by omega)]
      by_cases hz0 : len * s = 0
      · have hl0 : len = 0 := by
          rcases Nat.mul_eq_zero.1 hz0 with h | h
          · exact h
          · omega
        subst hl0
        rw [if_pos hz0]
        have hrow0 : row = #[] := by rw [← hrow]; simp [Array.range_zero']
        rw [hrow0] at k1
        simp only [Sem.run_bind, Sem.run_pure, Result.andThen_ok, Nat.zero_mul, Array.range_zero', e1, Array.map_empty, k1]
        simp [newRow]
      · rw [if_neg hz0]
        simp only [Sem.run_bind, Sem.run_pure, Result.andThen_ok, hc1, hcsz, hrow, e1, k1]
        simp [newRow]
  · simp only [Option.bind_eq_some_iff] at hr
    obtain ⟨⟨ds, is⟩, hds, hr⟩ := hr
    simp only at hr
    split at hr
    case isFalse => cases hr
    rename_i hni
    cases hr
    obtain ⟨pin1, x1, hS1, hpi, _⟩ := hS.freeze is (roL_alive σ dep hds)
    obtain ⟨l1, l2, l3, l4⟩ := roL_sound hS x1 dep hds hpi k2
    have hgen : (upds σ (fzs σ is) base).gen = (σ base).gen := by rw [upds_fzs]; split <;> rfl
    obtain ⟨hx, hS'⟩ := hS1.make base ds true arr' e (0, 0) (unfrozen00 _) (by rw [l1.len]; simp) (l3 k3) (fun _ => l2) (fun j v u hj hu => l1.at_ j v u hj (by rw [Array.getElem?_toList]; exact hu))
    rw [hgen] at hx hS'
    refine ⟨_, pin1, w.alloc (.cells arr' e), .slice (some ⟨w.heap.size, 0, none⟩) len len, hx, x1, ?_, ?_, .inl ?_⟩
    · rw [upds_append, upds_one]
      exact hS'
    · exact .sli base _ 0 len s len _ _ (setEnt_same _ _ _ _) rfl (Nat.le_refl _) (fun _ => ⟨rfl, by simp [hasz]⟩) (by simp only [l1.len]; simp [hasz])
    · have e1 : (parts.map fun (i, x) => (i, a.eval x)).toList = parts.toList.map fun (i, x) => (i, a.eval x) := by simp
      simp only [Instr.buildSlice, Sem.run_bind, run_under hu, Result.andThen_ok, szC_some hsz]
      rw [if_neg (by omega)]
      by_cases hz0 : len * s = 0
      · have hl0 : len = 0 := by
          rcases Nat.mul_eq_zero.1 hz0 with h | h
          · exact h
          · omega
        subst hl0
        rw [if_pos hz0]
        have hrow0 : row = #[] := by rw [← hrow]; simp [Array.range_zero']
        rw [hrow0] at k1
        simp only [Sem.run_bind, Sem.run_pure, Result.andThen_ok, Nat.zero_mul, Array.range_zero', e1, Array.map_empty, k1]
        simp [newRow]
      · rw [if_neg hz0]
        simp only [Sem.run_bind, Sem.run_pure, Result.andThen_ok, hc1, hcsz, hrow, e1, k1]
        simp [newRow]

/-- A copy. -/
theorem op_copy {T e : TypeId} {s : Nat} {x y : Operand} {x' y' : Opd} {U : TypeId} (hu : P.underlying T = some (.slice e)) (hsz : szC P e = some s) (hs0 : 0 < s) (hx : opd x = some x') (hy : opd y = some y')
    (hr : insV tbl base t σ (.copy s x' y') = some r) (ty : TypeId) : Done w0 S0 ρ pin (upds σ r.wr) r.val ((do pure (.value (← Builtin.copy_ #[T, U] ty #[a.eval x, a.eval y])) : Sem Next).run P w) := by
  have h1 := opd_sound hs hx
  have h2 := opd_sound hs hy
  unfold insV at hr
  simp only at hr
  split at hr
  case h_2 => cases hr
  rename_i id g off n es hev
  rw [hev] at h1
  simp only [Option.bind_eq_some_iff] at hr
  obtain ⟨⟨yc, ids⟩, hyc, m, hm, hr⟩ := hr
  simp only at hr
  split at hr
  case isFalse => cases hr
  rename_i hc
  obtain ⟨rfl, c2, c3, c4, c5, c6⟩ := hc
  cases hr
  obtain ⟨k1, k2, k3⟩ := cellsOf_sound (P := P) hS hyc hm h2 c6
  obtain ⟨arr0, a1, a2⟩ := k2 (min m n) (Nat.min_le_left _ _)
  generalize a.eval x = c0 at h1
  cases h1 with
  | sli _ _ _ _ _ cap e' ad he hm hn hcap hlen =>
    obtain ⟨arr, el, fz, r1, r2, r3, r4, r5, r6, r7, r8, r9⟩ := hS.rowOf c2 (by rw [c3]; decide) he hm
    have hle : min m n * es ≤ n * es := Nat.mul_le_mul_right _ (Nat.min_le_right _ _)
    have hyl : (yc.take (min m n * es)).length = min m n * es := by
      have : min m n * es ≤ m * es := Nat.mul_le_mul_right _ (Nat.min_le_left _ _)
      simp
      omega
    have ones : ∀ v ∈ yc.take (min m n * es), v.one = true ∧ NoRef v := fun v hv => k3 v (List.mem_of_mem_take hv)
    by_cases h0 : min m n = 0
    · have hspl : ∀ q, splice (σ id).cells off (yc.take (q * es)) = splice (σ id).cells off (yc.take (q * es)) := fun _ => rfl
      have e0 : splice (σ id).cells off (yc.take (min m n * es)) = (σ id).cells := by
        rw [h0, Nat.zero_mul, List.take_zero]
        unfold splice
        simp
      have harr0 : arr0 = #[] := by
        have := a2.len
        rw [hyl, h0] at this
        simp at this
        exact Array.eq_empty_of_size_eq_zero this.symm
      refine ⟨ρ, pin, w, goInt ((min m n : Nat) : Int), RExt.refl _, PExt.refl _, ?_, .int _ _, .inl ?_⟩
      · rw [upds_one]
        refine hS.congr fun k => ?_
        by_cases hk : k = id
        · subst hk; rw [upd_same, e0]
        · rw [upd_ne _ _ hk]
      · subst harr0
        have e3 : Nat.min m n = min m n := rfl
        simp [Builtin.copy_, run_under hu, k1, szC_some hsz, e3, a1, storeCells]
    · have hn0 : cap ≠ 0 := by omega
      obtain ⟨rfl, hfit⟩ := hcap hn0
      have hal : arr0.toList.length = min m n * es := by rw [← a2.len, hyl]
      have hst := run_storeCells_row (P := P) e'.b el fz (e'.base + off) arr0.toList 0 w arr r1 r2 (by omega) (a2.oneCells (fun v hv => (ones v hv).1))
      rw [if_neg (by intro hh; rw [hh, List.length_nil] at hal; have := Nat.mul_pos (Nat.pos_of_ne_zero h0) hs0; omega)] at hst
      have hw := hS.write c3 (by rw [c2]; exact he) hm (splice (σ id).cells off (yc.take (min m n * es))) arr (setL arr (e'.base + off + 0) arr0.toList) el fz r1 (setL_size _ _ _) (splice_length _ _ _ (by omega))
        (fun v hv => (mem_splice hv).elim (r7 v) (fun h => (ones v h).1)) (fun hh v hv => (mem_splice hv).elim (r8 hh v) (fun h => (ones v h).2)) (splice_R r5 (by omega) a2 r6)
      refine ⟨ρ, pin, putRow w e'.b (.cells (setL arr (e'.base + off + 0) arr0.toList) el fz), goInt ((min m n : Nat) : Int), RExt.refl _, PExt.refl _, hw, .int _ _, .inl ?_⟩
      have e3 : Nat.min m n = min m n := rfl
      simp [Builtin.copy_, run_under hu, k1, szC_some hsz, e3, a1, hst]
end
end Go.Vm
