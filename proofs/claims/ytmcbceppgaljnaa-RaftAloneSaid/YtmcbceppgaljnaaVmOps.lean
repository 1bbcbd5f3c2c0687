/- Each operation of the machine over values does what the given model's does: those that call no function. -/
import Derived.Test.YtmcbceppgaljnaaVmMem
import Derived.Test.YtmcbceppgaljnaaVmComp
import Derived.Laws.BytesString
set_option linter.unusedSectionVars false
set_option linter.unusedSimpArgs false
set_option linter.unusedVariables false
namespace Go.Vm
variable {P : Program} {w0 w : World} {S0 : Terr} {ρ : Ren} {pin : Pin} {σ : Store} {a : Act} {t : Nat → V}

/-- What an operation came to: a value, and memory, that the machine's value and store stand for. -/
def Done (w0 : World) (S0 : Terr) (ρ : Ren) (pin : Pin) (σ' : Store) (v : V) (r : Result Next) : Prop :=
  ∃ ρ' pin' w' c, RExt ρ ρ' ∧ PExt pin pin' ∧ Sim w0 S0 ρ' pin' σ' w' ∧ R ρ' pin' v c ∧ (r = .ok (.value c) w' ∨ (r = .ok .skip w' ∧ c = undef))
theorem Done.still {v : V} {c : Value} (hs : Sim w0 S0 ρ pin σ w) (hr : R ρ pin v c) : Done w0 S0 ρ pin σ v (.ok (.value c) w) :=
  ⟨ρ, pin, w, c, RExt.refl _, PExt.refl _, hs, hr, .inl rfl⟩

theorem mapO_spec {α β : Type} {f : α → Option β} : ∀ {l : List α} {ys : List β}, mapO f l = some ys → ys.length = l.length ∧ ∀ (j : Nat) (x : α) (y : β), l[j]? = some x → ys[j]? = some y → f x = some y
  | [], ys, h => by cases h; exact ⟨rfl, fun j x y hx => by simp at hx⟩
  | x :: l, ys, h => by
    simp only [mapO, Option.bind_eq_some_iff, Option.map_eq_some_iff] at h
    obtain ⟨y, hy, ys', hys, rfl⟩ := h
    obtain ⟨h1, h2⟩ := mapO_spec hys
    refine ⟨by simp [h1], fun j u v hu hv => ?_⟩
    cases j with
    | zero => simp at hu hv; subst hu; subst hv; exact hy
    | succ j => exact h2 j u v (by simpa using hu) (by simpa using hv)

theorem valV_sound : ∀ (d : Nat) (v : Value) (x : V), valV d v = some x → R ρ pin x v ∧ NoRef x
  | 0, _, _, h => by simp [valV] at h
  | d + 1, v, x, h => by
    cases v with
    | bool b => simp [valV] at h; subst h; exact ⟨.bool b, .bool b⟩
    | int k n => simp [valV] at h; subst h; exact ⟨.int k n, .int k n⟩
    | string s =>
      simp [valV] at h
      subst h
      exact ⟨.str s.data.toList, .str _⟩
    | pointer p => cases p with
      | none => simp [valV] at h; subst h; exact ⟨.nilp, .nilp⟩
      | some p => simp [valV] at h
    | slice p n c =>
      cases p with
      | some p => simp [valV] at h
      | none =>
        cases n with
        | succ n => simp [valV] at h
        | zero => cases c with
          | succ c => simp [valV] at h
          | zero => simp [valV] at h; subst h; exact ⟨.slnil, .sl _ _ _⟩
    | nilFunc => simp [valV] at h; subst h; exact ⟨.nilfn, .nilfn⟩
    | map p => cases p with
      | none => simp [valV] at h; subst h; exact ⟨.nilm, .nilm⟩
      | some p => simp [valV] at h
    | agg cs =>
      simp only [valV, Option.bind_eq_some_iff] at h
      obtain ⟨l, hl, h⟩ := h
      split at h
      · rename_i h1
        cases h
        obtain ⟨h2, h3⟩ := mapO_spec hl
        refine ⟨.agg l cs (by simpa using h2) (by simpa using h1) fun j v c hj hc => ?_, .agg l fun v hv => ?_⟩
        · exact (valV_sound d c v (h3 j c v (by simpa using hc) hj)).1
        · obtain ⟨j, hj⟩ := List.getElem?_of_mem hv
          have hlt : j < cs.toList.length := by
            rw [← h2]
            rcases Nat.lt_or_ge j l.length with h' | h'
            · exact h'
            · rw [List.getElem?_eq_none h'] at hj; cases hj
          exact (valV_sound d _ v (h3 j _ v (List.getElem?_eq_getElem hlt) hj)).2
      · cases h
    | tuple cs =>
      simp only [valV, Option.map_eq_some_iff] at h
      obtain ⟨l, hl, rfl⟩ := h
      obtain ⟨h2, h3⟩ := mapO_spec hl
      refine ⟨.tup l cs (by simpa using h2) fun j v c hj hc => ?_, .tup l fun v hv => ?_⟩
      · exact (valV_sound d c v (h3 j c v (by simpa using hc) hj)).1
      · obtain ⟨j, hj⟩ := List.getElem?_of_mem hv
        have hlt : j < cs.toList.length := by
          rw [← h2]
          rcases Nat.lt_or_ge j l.length with h' | h'
          · exact h'
          · rw [List.getElem?_eq_none h'] at hj; cases hj
        exact (valV_sound d _ v (h3 j _ v (List.getElem?_eq_getElem hlt) hj)).2
    | _ => simp [valV] at h

/-- The slots stand for the frame's. -/
def Slots (ρ : Ren) (pin : Pin) (t : Nat → V) (a : Act) : Prop := ∀ k, R ρ pin (t k) (a.tmps.getD k undef)
theorem opd_sound (hs : Slots ρ pin t a) {x : Operand} {y : Opd} (h : opd x = some y) : R ρ pin (y.ev t) (a.eval x) := by
  cases x with
  | tmp i => cases h; exact hs i
  | const v =>
    simp only [opd, Option.map_eq_some_iff] at h
    obtain ⟨u, hu, rfl⟩ := h
    exact (valV_sound _ _ _ hu).1
  | global g => simp [opd] at h
  | func f => cases h; exact .fn f [] #[] rfl fun j v c hj => by simp at hj
theorem opds_sound (hs : Slots ρ pin t a) {xs : List Operand} {ys : List Opd} (h : mapO opd xs = some ys) : RL ρ pin (ys.map (·.ev t)) (xs.map a.eval) := by
  obtain ⟨h1, h2⟩ := mapO_spec h
  refine ⟨by simp [h1], fun j v c hv hc => ?_⟩
  rw [List.getElem?_map] at hv hc
  obtain ⟨y, hy, rfl⟩ := Option.map_eq_some_iff.1 hv
  obtain ⟨x, hx, rfl⟩ := Option.map_eq_some_iff.1 hc
  exact opd_sound hs (h2 j x y hx hy)

/-! ### Types -/
theorem szC_some {t : TypeId} {n : Nat} (h : szC P t = some n) : ∀ w, (sizeOf t).run P w = .ok n w := fun w => by
  unfold szC at h
  simp only [Option.map_eq_some_iff] at h
  obtain ⟨i, hi, rfl⟩ := h
  simp [sizeOf, typeInfo, hi, Sem.run_bind]
theorem byC_some {t : TypeId} {n : Nat} (h : byC P t = some n) : ∃ i, P.info? t = some i ∧ i.bytes = n := by
  unfold byC at h
  simp only [Option.map_eq_some_iff] at h
  exact h
theorem run_under {t : TypeId} {d : TypeDesc} (h : P.underlying t = some d) (w : World) : (underlying t).run P w = .ok d w := run_underlying h w
theorem zeroC_some {t : TypeId} {z : List V} (h : zeroC P t = some z) : ∃ c : Value, (∀ w, (zeroValue t).run P w = .ok c w) ∧ (z ≠ [] → RL ρ pin z c.cells.toList ∧ (∀ v ∈ z, v.one = true ∧ NoRef v)) := by
  unfold zeroC at h
  simp only [Option.bind_eq_some_iff, Option.map_eq_some_iff] at h
  obtain ⟨i, hi, c, hc, v, hv, rfl⟩ := h
  refine ⟨c, fun w => by simp [zeroValue, typeInfo, hi, hc, Sem.run_bind], fun hne => ?_⟩
  obtain ⟨h1, h2⟩ := valV_sound (ρ := ρ) (pin := pin) _ _ _ hv
  obtain ⟨h3, h4⟩ := h1.cells (List.length_pos_iff.2 hne)
  refine ⟨h3, fun x hx => ⟨h4 x hx, ?_⟩⟩
  cases h2 with
  | agg cs hh => exact hh x hx
  | tup => simp [V.cells] at hx
  | int => simp [V.cells] at hx; subst hx; exact .int _ _
  | bool => simp [V.cells] at hx; subst hx; exact .bool _
  | str => simp [V.cells] at hx; subst hx; exact .str _
  | nilp => simp [V.cells] at hx; subst hx; exact .nilp
  | nilfn => simp [V.cells] at hx; subst hx; exact .nilfn
  | nilm => simp [V.cells] at hx; subst hx; exact .nilm
  | junk => simp [V.cells] at hx; subst hx; exact .junk
  | rmp es => simp [V.cells] at hx; subst hx; exact .rmp _
  | sl => simp [V.cells] at hx; subst hx; exact .sl _ _ _
  | pt => simp [V.cells] at hx; subst hx; exact .pt _ _
  | fn f cs hh => simp [V.cells] at hx; subst hx; exact .fn _ _ hh
theorem aggC_some {t : TypeId} {g : Bool} (h : aggC P t = some g) : ∀ w, (isAgg t).run P w = .ok g w := fun w => by
  unfold aggC at h
  simp only [Option.map_eq_some_iff] at h
  obtain ⟨d, hd, hg⟩ := h
  unfold isAgg
  rw [Sem.run_bind, run_under hd]
  cases d <;> simp_all

/-! ### New rows -/
theorem unfrozen00 (arr : Array Value) : Unfrozen arr (0, 0) := .inl (Nat.le_refl _)
theorem Sim.made (h : Sim w0 S0 ρ pin σ w) {w' : World} (hos : w'.os = w.os) (ht : w'.tape = w.tape) (ho : w'.output = w.output) (hw : w'.heap.size = w.heap.size + 1) (hold : ∀ k, k < w.heap.size → w'.heap[k]? = w.heap[k]?)
    (id : Nat) (cells : List V) (isArr : Bool) (arr : Array Value) (el : TypeId) (fz : Nat × Nat) (hnew : w'.heap[w.heap.size]? = some (.cells arr el fz)) (hfz : Unfrozen arr fz) (hlen : cells.length ≤ arr.size)
    (hone : ∀ v ∈ cells, v.one = true) (hno : isArr = true → ∀ v ∈ cells, NoRef v) (hR : ∀ (j : Nat) (v : V) (c : Value), cells[j]? = some v → arr[j]? = some c → R ρ pin v c) :
    RExt ρ (setEnt ρ id ((σ id).gen + 1) ⟨w.heap.size, 0, cells.length, arr.size, false⟩) ∧
    Sim w0 S0 (setEnt ρ id ((σ id).gen + 1) ⟨w.heap.size, 0, cells.length, arr.size, false⟩) pin (upd σ id ⟨(σ id).gen + 1, .rw, isArr, cells⟩) w' := by
  refine ⟨setEnt_ext _ _ _ _ (h.fresh id), ?_⟩
  have h' := h.grow hos ht ho (by omega) hold
  refine h'.name id cells isArr ⟨w.heap.size, 0, cells.length, arr.size, false⟩ arr el fz rfl hnew hfz (Nat.le_refl _) (by simpa using hlen) rfl hone hno (.inr h.fr.size) ?_ ?_ (fun j v c a b => hR j v c a (by simpa using b))
  · cases hp : pin w.heap.size with
    | none => rfl
    | some o => have := lt_of_heap (h.pinned _ _ hp); omega
  · intro j ej _ hj hej
    obtain ⟨e, he, L⟩ := h.live j (by rw [hj]; decide)
    rw [hej] at he
    cases he
    obtain ⟨ob, hr, _⟩ := L.obj
    have := lt_of_heap hr
    exact Nat.ne_of_lt this
theorem Sim.make (h : Sim w0 S0 ρ pin σ w) (id : Nat) (cells : List V) (isArr : Bool) (arr : Array Value) (el : TypeId) (fz : Nat × Nat) (hfz : Unfrozen arr fz) (hlen : cells.length ≤ arr.size)
    (hone : ∀ v ∈ cells, v.one = true) (hno : isArr = true → ∀ v ∈ cells, NoRef v) (hR : ∀ (j : Nat) (v : V) (c : Value), cells[j]? = some v → arr[j]? = some c → R ρ pin v c) :
    RExt ρ (setEnt ρ id ((σ id).gen + 1) ⟨w.heap.size, 0, cells.length, arr.size, false⟩) ∧
    Sim w0 S0 (setEnt ρ id ((σ id).gen + 1) ⟨w.heap.size, 0, cells.length, arr.size, false⟩) pin (upd σ id ⟨(σ id).gen + 1, .rw, isArr, cells⟩) (w.alloc (.cells arr el fz)) :=
  h.made (w' := w.alloc (.cells arr el fz)) rfl rfl rfl (by simp) (fun k hk => heap_alloc_old w _ hk) id cells isArr arr el fz (heap_alloc_new w _) hfz hlen hone hno hR
theorem alloc_cells (w : World) (o : Obj) : ({ w with heap := w.heap.push o } : World) = w.alloc o := rfl

section ops
variable (hs : Slots ρ pin t a) (hS : Sim w0 S0 ρ pin σ w)
include hs hS

theorem op_mov {x : Operand} {y : Opd} (h : opd x = some y) : Done w0 S0 ρ pin σ (y.ev t) ((Pure.pure (Next.value (a.eval x)) : Sem Next).run P w) := Done.still hS (opd_sound hs h)

omit hs in
theorem op_new (base : Nat) {e : TypeId} {z : List V} (h : zeroC P e = some z) (hz : z ≠ []) :
    Done w0 S0 ρ pin (upd σ base ⟨(σ base).gen + 1, .rw, false, z⟩) (.ptr base ((σ base).gen + 1) 0) ((do pure (.value (← Instr.alloc e true (.tuple #[]))) : Sem Next).run P w) := by
  obtain ⟨c, hc, hz'⟩ := zeroC_some (ρ := ρ) (pin := pin) h
  obtain ⟨h1, h2⟩ := hz' hz
  obtain ⟨hx, hS'⟩ := hS.make base z false c.cells e (0, 0) (unfrozen00 _) (by rw [h1.len]; simp) (fun v hv => (h2 v hv).1) (by simp) (fun j v u hj hu => h1.at_ j v u hj (by simpa using hu))
  refine ⟨_, pin, _, .pointer (some ⟨w.heap.size, 0, none⟩), hx, PExt.refl _, hS', ?_, .inl ?_⟩
  · exact .ptr _ _ _ _ (setEnt_same _ _ _ _) rfl
  · simp [Instr.alloc, hc, newVar, newRow]

theorem op_box (base n : Nat) {e : TypeId} {x : Operand} {y : Opd} (h : opd x = some y) (hn : (y.ev t).cells.length = n) (h0 : 0 < n) :
    Done w0 S0 ρ pin (upd σ base ⟨(σ base).gen + 1, .rw, false, (y.ev t).cells⟩) (.ptr base ((σ base).gen + 1) 0) ((do pure (.value (← Instr.box e (a.eval x))) : Sem Next).run P w) := by
  obtain ⟨h1, h2⟩ := (opd_sound hs h).cells (by omega)
  obtain ⟨hx, hS'⟩ := hS.make base (y.ev t).cells false (a.eval x).cells e (0, 0) (unfrozen00 _) (by rw [h1.len]; simp) h2 (by simp) (fun j v u hj hu => h1.at_ j v u hj (by simpa using hu))
  refine ⟨_, pin, _, .pointer (some ⟨w.heap.size, 0, none⟩), hx, PExt.refl _, hS', ?_, .inl ?_⟩
  · exact .ptr _ _ _ _ (setEnt_same _ _ _ _) rfl
  · simp [Instr.box, newVar, newRow]
end ops

/-! ### Reading -/
/-- A live block's row. -/
theorem Sim.rowOf (h : Sim w0 S0 ρ pin σ w) {id g : Nat} {e : Ent} (hg : (σ id).gen = g) (hst : (σ id).st ≠ .dead) (he : ρ id g = some e) (hm : e.mp = false) :
    ∃ arr el fz, w.heap[e.b]? = some (.cells arr el fz) ∧ Unfrozen arr fz ∧ e.size ≤ arr.size ∧ e.len = (σ id).cells.length ∧ e.base + (σ id).cells.length ≤ arr.size ∧
      (∀ (j : Nat) (v : V) (c : Value), (σ id).cells[j]? = some v → arr[e.base + j]? = some c → R ρ pin v c) ∧ (∀ v ∈ (σ id).cells, v.one = true) ∧ ((σ id).arr = true → ∀ v ∈ (σ id).cells, NoRef v) ∧
      ((σ id).st = .fz → pin e.b = some (.cells arr el fz)) := by
  subst hg
  obtain ⟨e', he', L⟩ := h.live id hst
  obtain rfl : e' = e := by rw [he] at he'; exact (Option.some.inj he').symm
  obtain ⟨arr, el, fz, h1, h2, h3, h4, h5, h6⟩ := L.row hm
  exact ⟨arr, el, fz, h1, h2, h3, L.len, by rw [← L.len]; omega, h5, L.one hm, L.arr, h6⟩
theorem Sim.fits (h : Sim w0 S0 ρ pin σ w) {id g : Nat} {e : Ent} (hg : (σ id).gen = g) (hst : (σ id).st ≠ .dead) (he : ρ id g = some e) (hm : e.mp = false) : e.base + e.len ≤ e.size := by
  subst hg
  obtain ⟨e', he', L⟩ := h.live id hst
  obtain rfl : e' = e := by rw [he] at he'; exact (Option.some.inj he').symm
  obtain ⟨arr, el, fz, h1, h2, h3, h4, h5, h6⟩ := L.row hm
  exact h4
theorem run_loadVar_any {ty : TypeId} {g : Bool} {n b o : Nat} {arr : Array Value} {el : TypeId} {fz : Nat × Nat} (hg : aggC P ty = some g) (hn : szC P ty = some n) (hg1 : g = true ∨ n = 1)
    (h : w.heap[b]? = some (.cells arr el fz)) (hl : o + n ≤ arr.size) : ∃ c, (loadVar ty ⟨b, o, none⟩).run P w = .ok c w ∧ (g = true → c = .agg ((arr.toList.drop o).take n).toArray) ∧ (g = false → arr[o]? = some c) := by
  unfold loadVar
  simp only [Sem.run_bind, aggC_some hg w, Result.andThen_ok]
  cases g with
  | true => exact ⟨_, by simp [szC_some hn, run_loadCells_row h hl], fun _ => rfl, by simp⟩
  | false =>
    obtain rfl : n = 1 := by simpa using hg1
    refine ⟨arr[o], ?_, by simp, fun _ => Array.getElem?_eq_getElem (by omega)⟩
    simp [cell_of h, Array.getElem?_eq_getElem (by omega : o < arr.size)]
/-- What a row's cells are read as. -/
theorem load_R {cells : List V} {arr : Array Value} {base off n : Nat} {g : Bool} {c : Value} {v : V} (hfit : base + cells.length ≤ arr.size) (hoff : off + n ≤ cells.length) (h1 : ∀ v ∈ cells, v.one = true)
    (hR : ∀ (j : Nat) (v : V) (c : Value), cells[j]? = some v → arr[base + j]? = some c → R ρ pin v c) (hv : (if g = true then some (.agg ((cells.drop off).take n)) else cells[off]?) = some v)
    (hc1 : g = true → c = .agg ((arr.toList.drop (base + off)).take n).toArray) (hc2 : g = false → arr[base + off]? = some c) : R ρ pin v c := by
  cases g with
  | true =>
    simp only [if_true, Option.some.injEq] at hv
    subst hv
    rw [hc1 rfl]
    have k := ((RL.ofRow hfit hR).drop off).take n
    rw [drop_take_drop _ _ _ _ _ (by omega)] at k
    refine .agg _ _ (by simpa using k.len) (fun x hx => h1 x (List.mem_of_mem_drop (List.mem_of_mem_take hx))) fun j x y hx hy => k.at_ j x y hx (by simpa using hy)
  | false =>
    simp only [Bool.false_eq_true, if_false] at hv
    exact hR off v c hv (hc2 rfl)

theorem op_ld (hs : Slots ρ pin t a) (hS : Sim w0 S0 ρ pin σ w) {ty : TypeId} {x : Operand} {y : Opd} {g : Bool} {n base : Nat} {tbl : Tbl} {r : Res} (hx : opd x = some y) (hg : aggC P ty = some g) (hn : szC P ty = some n) (hg1 : g = true ∨ n = 1)
    (hr : insV tbl base t σ (.ld g n y) = some r) : Done w0 S0 ρ pin (upds σ r.wr) r.val ((do pure (.value (← Instr.loadAt ty (a.eval x))) : Sem Next).run P w) := by
  have hxR := opd_sound hs hx
  unfold insV at hr
  simp only at hr
  split at hr
  · rename_i id gn off hev
    split at hr
    · rename_i hc
      rw [hev] at hxR
      generalize a.eval x = c0 at hxR
      cases hxR with
      | ptr _ _ _ e he hm =>
        obtain ⟨arr, el, fz, h1, h2, h3, h4, h5, h6, h7, _⟩ := hS.rowOf hc.1 hc.2.1 he hm
        obtain ⟨c, k1, k2, k3⟩ := run_loadVar_any (P := P) (o := e.base + off) hg hn hg1 h1 (by omega)
        have hv : (if g = true then some (V.agg (((σ id).cells.drop off).take n)) else (σ id).cells[off]?) = some r.val ∧ r.wr = [] := by
          cases g with
          | true => simp at hr; rw [← hr]; exact ⟨rfl, rfl⟩
          | false => simp at hr; obtain ⟨v, hv, rfl⟩ := hr; exact ⟨by simpa using hv, rfl⟩
        rw [hv.2]
        refine ⟨ρ, pin, w, c, RExt.refl _, PExt.refl _, hS, load_R h5 hc.2.2 h7 h6 hv.1 k2 k3, .inl ?_⟩
        simp [Instr.loadAt, Instr.sureAddr, k1]
    · cases hr
  · rename_i cs off hev
    split at hr
    · rename_i hc
      rw [hev] at hxR
      generalize a.eval x = c0 at hxR
      cases hxR with
      | pt _ _ b bs arr el fz hp hsz h1 hh =>
        have hrow := hS.pinned _ _ hp
        obtain ⟨c, k1, k2, k3⟩ := run_loadVar_any (P := P) (o := bs + off) hg hn hg1 hrow (by omega)
        have hv : (if g = true then some (V.agg ((cs.drop off).take n)) else cs[off]?) = some r.val ∧ r.wr = [] := by
          cases g with
          | true => simp at hr; rw [← hr]; exact ⟨rfl, rfl⟩
          | false => simp [Option.bind_eq_some_iff] at hr; obtain ⟨v, hv, rfl⟩ := hr; exact ⟨by simpa using hv, rfl⟩
        rw [hv.2]
        refine ⟨ρ, pin, w, c, RExt.refl _, PExt.refl _, hS, load_R hsz hc (fun v hv => (h1 v hv).1) hh hv.1 k2 k3, .inl ?_⟩
        simp [Instr.loadAt, Instr.sureAddr, k1]
    · cases hr
  · cases hr
end Go.Vm
