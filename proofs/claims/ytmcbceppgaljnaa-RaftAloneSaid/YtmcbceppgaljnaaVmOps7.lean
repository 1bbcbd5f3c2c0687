/- Each operation of the machine over values does what the given model's does: append. -/
import Derived.Test.YtmcbceppgaljnaaVmOps6
set_option linter.unusedSectionVars false
set_option linter.unusedSimpArgs false
set_option linter.unusedVariables false
namespace Go.Vm
variable {P : Program} {w0 w : World} {S0 : Terr} {ρ : Ren} {pin : Pin} {σ : Store} {a : Act} {t : Nat → V}

/-- A row that no living block has may be written. -/
theorem Sim.scribble (h : Sim w0 S0 ρ pin σ w) (b : Nat) (arr arr' : Array Value) (el : TypeId) (fz : Nat × Nat) (hrow : w.heap[b]? = some (.cells arr el fz)) (hsz : arr'.size = arr.size) (hown : S0 b ∨ w0.heap.size ≤ b) (hpin : pin b = none)
    (hfree : ∀ j ej, (σ j).st = .rw → ρ j (σ j).gen = some ej → ej.b ≠ b) : Sim w0 S0 ρ pin σ (putRow w b (.cells arr' el fz)) := by
  refine ⟨h.fr.put hrow hsz hown, ?_, h.inj, ?_, h.young, h.news⟩
  · intro i hi
    obtain ⟨e, he, L⟩ := h.live i hi
    refine ⟨e, he, L.mono (RExt.refl _) (PExt.refl _) (putRow_other ?_) (fun x => (L.rw x).1)⟩
    intro hb
    rcases hs : (σ i).st with _ | _ | _
    · exact hi hs
    · exact hfree i e hs he hb
    · obtain ⟨_, _, h6⟩ := L.obj
      have := h6 hs
      rw [hb, hpin] at this
      cases this
  · intro k o hk
    have hne : k ≠ b := by rintro rfl; rw [hpin] at hk; cases hk
    rw [putRow_other hne]
    exact h.pinned k o hk

/-- Append where there is room. -/
theorem run_append_fits {T U e : TypeId} {s n m cap : Nat} {p : Option Addr} {c : Value} {arr : Array Value} {w' : World} (hu : P.underlying T = some (.slice e)) (hU : P.underlying U = some .string ∨ ∃ q, P.underlying U = some (.slice q)) (hsz : szC P e = some s) (ty : TypeId)
    (hm : (Builtin.lenOf c).run P w = .ok m w) (hf : (Builtin.firstCells s m c).run P w = .ok arr w) (hle : n + m ≤ cap) (hst : ∀ ad, p = some ad → (storeCells (ad.add (n * s)) arr.toList).run P w = .ok () w') (hnone : p = none → w' = w) :
    (Builtin.append_ #[T, U] ty #[.slice p n cap, c]).run P w = .ok (.slice p (n + m) cap) w' := by
  rcases hU with hU | ⟨q, hU⟩ <;> cases p with
  | none =>
    rw [hnone rfl]
    simp [Builtin.append_, run_underlying hu, szC_some hsz, run_underlying hU, hm, hf, hle]
  | some ad =>
    simp [Builtin.append_, run_underlying hu, szC_some hsz, run_underlying hU, hm, hf, hle, hst ad rfl]

/-- Append where there is none. -/
theorem run_append_grows {T U e : TypeId} {s b n m cap : Nat} {p : Option Addr} {c zc : Value} {olds news : Array Value} (hu : P.underlying T = some (.slice e)) (hU : P.underlying U = some .string ∨ ∃ q, P.underlying U = some (.slice q)) (hsz : szC P e = some s) (hb : byC P e = some b) (hb0 : 0 < b)
    (hz : ∀ w, (zeroValue e).run P w = .ok zc w) (ty : TypeId)
    (hm : (Builtin.lenOf c).run P w = .ok m w) (ho : (Builtin.firstCells s n (.slice p n cap)).run P w.drew = .ok olds w.drew) (hf : (Builtin.firstCells s m c).run P w.drew = .ok news w.drew) (hgt : cap < n + m) (hbytes : (n + m) * b ≤ 140737488355328) :
    (Builtin.append_ #[T, U] ty #[.slice p n cap, c]).run P w = .ok (.slice (some ⟨w.heap.size, 0, none⟩) (n + m) (grownCap w (n + m) cap e)) (w.drew.alloc (.cells (olds ++ news ++ Builtin.zeroCells zc.cells (grownCap w (n + m) cap e - (n + m))) e)) := by
  obtain ⟨inf, hi1, hi2⟩ := byC_some hb
  have hn : ¬ (n + m ≤ cap) := by omega
  have hg := growslice_fits hgt hbytes
  have h48 : ¬ (281474976710656 < Builtin.nextslicecap (n + m) cap * inf.bytes) := by rw [hi2]; omega
  have hb1 : inf.bytes ≠ 0 := by omega
  have h63 : ¬ (9223372036854775807 < ((n : Int) + (m : Int))) := by
    have : (n + m) * 1 ≤ (n + m) * b := Nat.mul_le_mul_left _ hb0
    omega
  rcases hU with hU | ⟨q, hU⟩ <;> simp [Builtin.append_, run_underlying hu, szC_some hsz, run_underlying hU, hm, hn, typeInfo, hi1, h48, h63, hb1, Question.forced, hz, ho, hf, newRow, grownCap]

section
variable (hs : Slots ρ pin t a) (hS : Sim w0 S0 ρ pin σ w) {tbl : Tbl} {base : Nat} {r : Res}
include hs hS

/-- A new row for what was appended to. -/
theorem app_growsB (ar : Bool) {T U e : TypeId} {s b n m cap : Nat} {p : Option Addr} {c : Value} {z oc yc : List V} {olds : Array Value} (hu : P.underlying T = some (.slice e)) (hU : P.underlying U = some .string ∨ ∃ q, P.underlying U = some (.slice q)) (hsz : szC P e = some s) (hb : byC P e = some b) (hb0 : 0 < b) (hs0 : 0 < s)
    (hz : zeroC P e = some z) (hzs : z.length = s) (ty : TypeId) (hm : (Builtin.lenOf c).run P w.drew = .ok m w.drew) (hm' : (Builtin.lenOf c).run P w = .ok m w) (ho : (Builtin.firstCells s n (.slice p n cap)).run P w.drew = .ok olds w.drew) (hol : RL ρ pin oc olds.toList) (hocl : oc.length = n * s) (hok : ∀ v ∈ oc, v.one = true ∧ (ar = true → NoRef v))
    (hf : ∃ arr, (Builtin.firstCells s m c).run P w.drew = .ok arr w.drew ∧ RL ρ pin yc arr.toList) (hycl : yc.length = m * s) (hyk : ∀ v ∈ yc, v.one = true ∧ (ar = true → NoRef v)) (hgt : cap < n + m) (hbytes : (n + m) * b ≤ 140737488355328) {σ' : Store} (hS' : Sim w0 S0 ρ pin σ' w) :
    Done w0 S0 ρ pin (upd σ' base ⟨(σ' base).gen + 1, .rw, ar, oc ++ yc⟩) (.sli base ((σ' base).gen + 1) 0 (n + m) s) ((do pure (.value (← Builtin.append_ #[T, U] ty #[.slice p n cap, c])) : Sem Next).run P w) := by
  obtain ⟨zc, hz1, hz2⟩ := zeroC_some (ρ := ρ) (pin := pin) hz
  obtain ⟨z1, z2⟩ := hz2 (by intro h; subst h; simp at hzs; omega)
  have hcsz : zc.cells.size = s := by have := z1.len; simp at this; omega
  obtain ⟨news, n1, n2⟩ := hf
  have hrun := run_append_grows (P := P) (w := w) hu hU hsz hb hb0 hz1 ty hm' ho n1 hgt hbytes
  have hge := grownCap_ge w (n + m) cap e
  generalize hG : grownCap w (n + m) cap e = G at hrun hge
  have h12 := hol.append n2
  have hosz : olds.size = n * s := by have := hol.len; simp at this; omega
  have hnsz : news.size = m * s := by have := n2.len; simp at this; omega
  generalize hA : olds ++ news ++ Builtin.zeroCells zc.cells (G - (n + m)) = A at hrun
  have hAsz : A.size = G * s := by
    rw [← hA]
    simp only [Array.size_append, size_zeroCells, hosz, hnsz, hcsz, ← Nat.add_mul]
    congr 1
    omega
  have hlen : (oc ++ yc).length = (n + m) * s := by rw [List.length_append, hocl, hycl, Nat.add_mul]
  have hle : (n + m) * s ≤ G * s := Nat.mul_le_mul_right _ hge
  obtain ⟨hx, hS2⟩ := hS'.drew.make base (oc ++ yc) ar A e (0, 0) (unfrozen00 _) (by omega) (fun v hv => (List.mem_append.1 hv).elim (fun h => (hok v h).1) (fun h => (hyk v h).1)) (fun har v hv => (List.mem_append.1 hv).elim (fun h => (hok v h).2 har) (fun h => (hyk v h).2 har)) (fun j v u hj hu => by
    have hj2 : j < (oc ++ yc).length := by
      rcases Nat.lt_or_ge j (oc ++ yc).length with h' | h'
      · exact h'
      · rw [List.getElem?_eq_none h'] at hj; cases hj
    rw [← hA, Array.getElem?_append_left (by simp only [Array.size_append]; rw [hosz, hnsz, ← Nat.add_mul]; omega)] at hu
    exact h12.at_ j v u hj (by rw [← Array.toList_append, Array.getElem?_toList]; exact hu))
  refine ⟨_, pin, _, .slice (some ⟨w.heap.size, 0, none⟩) (n + m) G, hx, PExt.refl _, hS2, ?_, .inl (by simp [hrun])⟩
  exact .sli base _ 0 (n + m) s G _ _ (setEnt_same _ _ _ _) rfl hge (fun _ => ⟨rfl, by simp [hAsz]⟩) (by simp only [hlen]; omega)

theorem app_grows {T U e : TypeId} {s b n m cap : Nat} {p : Option Addr} {c : Value} {z oc yc : List V} {olds : Array Value} (hu : P.underlying T = some (.slice e)) (hU : P.underlying U = some .string ∨ ∃ q, P.underlying U = some (.slice q)) (hsz : szC P e = some s) (hb : byC P e = some b) (hb0 : 0 < b) (hs0 : 0 < s)
    (hz : zeroC P e = some z) (hzs : z.length = s) (ty : TypeId) (hm : (Builtin.lenOf c).run P w.drew = .ok m w.drew) (hm' : (Builtin.lenOf c).run P w = .ok m w) (ho : (Builtin.firstCells s n (.slice p n cap)).run P w.drew = .ok olds w.drew) (hol : RL ρ pin oc olds.toList) (hocl : oc.length = n * s) (hok : ∀ v ∈ oc, v.one = true ∧ NoRef v)
    (hf : ∃ arr, (Builtin.firstCells s m c).run P w.drew = .ok arr w.drew ∧ RL ρ pin yc arr.toList) (hycl : yc.length = m * s) (hyk : ∀ v ∈ yc, v.one = true ∧ NoRef v) (hgt : cap < n + m) (hbytes : (n + m) * b ≤ 140737488355328) {σ' : Store} (hS' : Sim w0 S0 ρ pin σ' w) :
    Done w0 S0 ρ pin (upd σ' base ⟨(σ' base).gen + 1, .rw, true, oc ++ yc⟩) (.sli base ((σ' base).gen + 1) 0 (n + m) s) ((do pure (.value (← Builtin.append_ #[T, U] ty #[.slice p n cap, c])) : Sem Next).run P w) :=
  app_growsB hs hS true hu hU hsz hb hb0 hs0 hz hzs ty hm hm' ho hol hocl (fun v hv => ⟨(hok v hv).1, fun _ => (hok v hv).2⟩) hf hycl (fun v hv => ⟨(hyk v hv).1, fun _ => (hyk v hv).2⟩) hgt hbytes hS'

theorem op_app {T U e : TypeId} {s b : Nat} {z : List V} {x y : Operand} {x' y' : Opd} (hu : P.underlying T = some (.slice e)) (hU : P.underlying U = some .string ∨ ∃ q, P.underlying U = some (.slice q)) (hsz : szC P e = some s) (hb : byC P e = some b) (hb0 : 0 < b) (hs0 : 0 < s)
    (hz : zeroC P e = some z) (hzs : z.length = s) (hx : opd x = some x') (hy : opd y = some y') (hr : insV tbl base t σ (.app s b x' y') = some r) (ty : TypeId) :
    Done w0 S0 ρ pin (upds σ r.wr) r.val ((do pure (.value (← Builtin.append_ #[T, U] ty #[a.eval x, a.eval y])) : Sem Next).run P w) := by
  have h1 := opd_sound hs hx
  have h2 := opd_sound hs hy
  generalize a.eval x = cx at *
  generalize a.eval y = cy at *
  unfold insV appV at hr
  simp only [Option.bind_eq_some_iff] at hr
  obtain ⟨⟨yc, ids⟩, hyc, m, hm, hr⟩ := hr
  simp only at hr
  generalize y'.ev t = vy at *
  generalize x'.ev t = vx at *
  split at hr
  · -- nothing is appended
    rename_i hm0
    subst hm0
    have hl0 : (Builtin.lenOf cy).run P w = .ok 0 w ∧ (Builtin.firstCells s 0 cy).run P w = .ok #[] w := by
      unfold lenV at hm
      split at hm <;> simp only [Option.some.injEq, reduceCtorEq] at hm
      · rename_i l
        obtain rfl := List.eq_nil_of_length_eq_zero hm
        rw [h2.str_inv]
        exact ⟨rfl, by simp [Builtin.firstCells]⟩
      · subst hm
        cases h2 <;> simp [Builtin.lenOf, Builtin.firstCells, run_loadCells0]
      · subst hm
        cases h2
        simp [Builtin.lenOf, Builtin.firstCells, run_loadCells0]
    have hsl : ∃ p n cap, cx = .slice p n cap ∧ n ≤ cap := by
      split at hr
      · cases h1
        · exact ⟨_, _, _, rfl, Nat.le_refl _⟩
        · exact ⟨_, _, _, rfl, Nat.le_refl _⟩
        · exact ⟨_, _, _, rfl, by assumption⟩
      · cases h1
        exact ⟨_, _, _, rfl, by assumption⟩
      · cases hr
    obtain ⟨p, n, cap, hp, hn⟩ := hsl
    have hrun := run_append_fits (P := P) (w := w) (w' := w) (n := n) (m := 0) (cap := cap) (p := p) hu hU hsz ty hl0.1 hl0.2 (by omega) (fun ad _ => by simp [storeCells]) (fun _ => rfl)
    have hr' : r.val = vx ∧ r.wr = [] := by
      split at hr
      · cases hr; exact ⟨rfl, rfl⟩
      · cases hr; exact ⟨rfl, rfl⟩
      · cases hr
    rw [hr'.1, hr'.2]
    refine ⟨ρ, pin, w, cx, RExt.refl _, PExt.refl _, hS, h1, .inl ?_⟩
    rw [hp, Sem.run_bind, hrun]
    rfl
  · rename_i hm0
    split at hr
    · -- to nothing
      rename_i k n0 cs0
      split at hr
      case isFalse => cases hr
      rename_i hc
      obtain ⟨c1, c2, c3⟩ := hc
      cases hr
      obtain ⟨k1, k2, k3⟩ := cellsOf_sound (P := P) hS hyc hm h2 c3
      obtain ⟨q1, q2, _⟩ := cellsOf_sound (P := P) hS.drew hyc hm h2 c3
      obtain ⟨arr, f1, f2⟩ := q2 m (Nat.le_refl _)
      rw [List.take_of_length_le (by omega)] at f2
      have h0 : ∃ p, cx = .slice p 0 0 ∧ (Builtin.firstCells s 0 (.slice p 0 0)).run P w.drew = .ok #[] w.drew := by
        cases h1
        · exact ⟨none, rfl, rfl⟩
        · exact ⟨some _, rfl, by simp [Builtin.firstCells, run_loadCells0]⟩
        · exact absurd rfl c1
      obtain ⟨p, hp, hfo⟩ := h0
      rw [hp]
      have := app_grows hs hS (base := base) (oc := []) (n := 0) hu hU hsz hb hb0 hs0 hz hzs ty q1 k1 hfo (by simpa using RL.nil) (by simp) (by simp) ⟨arr, f1, f2⟩ c3 k3 (by omega) (by rw [Nat.zero_add]; exact c2) hS
      simpa [upds_one] using this
    · -- to a block
      rename_i id g off n es
      split at hr
      case isFalse => cases hr
      rename_i hc
      obtain ⟨rfl, c2, c3, c4, c5, c6, c7⟩ := hc
      obtain ⟨k1, k2, k3⟩ := cellsOf_sound (P := P) hS hyc hm h2 c7
      obtain ⟨q1, q2, _⟩ := cellsOf_sound (P := P) hS.drew hyc hm h2 c7
      cases h1 with
      | sli _ _ _ _ _ cap e' ad he hm hn hcap hlen =>
        obtain ⟨arr, el, fz, r1, r2, r3, r4, r5, r6, r7, r8, r9⟩ := hS.rowOf c2 (by rw [c3]; decide) he hm
        split at hr
        · -- within what is known
          rename_i hin
          cases hr
          have hcap0 : n + m ≤ cap := by
            have : (n + m) * es ≤ cap * es := by omega
            exact Nat.le_of_mul_le_mul_right this hs0
          obtain ⟨rfl, hfit⟩ := hcap (by omega)
          obtain ⟨news, f1, f2⟩ := k2 m (Nat.le_refl _)
          rw [List.take_of_length_le (by omega)] at f2
          have hnl : news.toList.length = m * es := by rw [← f2.len, c7]
          have hmes : 0 < m * es := Nat.mul_pos (by omega) hs0
          have e1 : n * es + m * es = (n + m) * es := by rw [Nat.add_mul]
          have hst := run_storeCells_row (P := P) e'.b el fz (e'.base + off + n * es) news.toList 0 w arr r1 r2 (by omega) (f2.oneCells (fun v hv => (k3 v hv).1))
          rw [if_neg (by intro hh; rw [hh, List.length_nil] at hnl; omega)] at hst
          have hw := hS.write c3 (by rw [c2]; exact he) hm (splice (σ id).cells (off + n * es) yc) arr (setL arr (e'.base + (off + n * es)) news.toList) el fz r1 (setL_size _ _ _) (splice_length _ _ _ (by omega))
            (fun v hv => (mem_splice hv).elim (r7 v) (fun h => (k3 v h).1)) (fun hh v hv => (mem_splice hv).elim (r8 hh v) (fun h => (k3 v h).2)) (splice_R r5 (by omega) f2 r6)
          have hrun := run_append_fits (P := P) (w := w) (n := n) (m := m) (cap := cap) (p := some ⟨e'.b, e'.base + off, none⟩) hu hU hsz ty k1 f1 hcap0 (fun ad had => by cases had; rw [addr_add]; exact hst) (fun h => by cases h)
          refine ⟨ρ, pin, _, .slice (some ⟨e'.b, e'.base + off, none⟩) (n + m) cap, RExt.refl _, PExt.refl _, hw, .sli id g off (n + m) es cap e' _ he hm hcap0 (fun _ => ⟨rfl, hfit⟩) hlen, .inl ?_⟩
          rw [Sem.run_bind, hrun]
          simp [Nat.add_assoc]
        · -- beyond it: the block takes another number
          rename_i hout
          cases hr
          have hSk := hS.kill id
          have hgk : (upd σ id { σ id with st := .dead } base).gen = (σ base).gen := by
            by_cases hk : base = id
            · subst hk; rw [upd_same]
            · rw [upd_ne _ _ hk]
          have hocl : (((σ id).cells.drop off).take (n * es)).length = n * es := by simp; omega
          have hcutR := ((RL.ofRow r5 r6).drop off).take (n * es)
          rw [drop_take_drop _ _ _ _ _ (by omega)] at hcutR
          have hok : ∀ v ∈ ((σ id).cells.drop off).take (n * es), v.one = true ∧ NoRef v := fun v hv => ⟨r7 v (List.mem_of_mem_drop (List.mem_of_mem_take hv)), r8 c4 v (List.mem_of_mem_drop (List.mem_of_mem_take hv))⟩
          by_cases hroom : n + m ≤ cap
          · -- in place
            obtain ⟨rfl, hfit⟩ := hcap (by omega)
            obtain ⟨news, f1, f2⟩ := k2 m (Nat.le_refl _)
            rw [List.take_of_length_le (by omega)] at f2
            have hnl : news.toList.length = m * es := by rw [← f2.len, c7]
            have hmes : 0 < m * es := Nat.mul_pos (by omega) hs0
            have e1 : n * es + m * es = (n + m) * es := by rw [Nat.add_mul]
            have e2 : (n + m) * es ≤ cap * es := Nat.mul_le_mul_right _ hroom
            have hst := run_storeCells_row (P := P) e'.b el fz (e'.base + off + n * es) news.toList 0 w arr r1 r2 (by omega) (f2.oneCells (fun v hv => (k3 v hv).1))
            rw [if_neg (by intro hh; rw [hh, List.length_nil] at hnl; omega), Nat.add_zero] at hst
            obtain ⟨e0, he0, L⟩ := hS.live id (by rw [c3]; decide)
            rw [c2, he] at he0
            cases he0
            have hown := L.rw c3
            have hfree : ∀ j ej, (upd σ id { σ id with st := .dead } j).st = .rw → ρ j (upd σ id { σ id with st := .dead } j).gen = some ej → ej.b ≠ e'.b := fun j ej hj hej => by
              by_cases hji : j = id
              · subst hji; rw [upd_same] at hj; cases hj
              · rw [upd_ne _ _ hji] at hj hej
                exact hS.inj j id ej e' hj c3 hji hej (by rw [c2]; exact he)
            have hS1 := hSk.scribble e'.b arr (setL arr (e'.base + off + n * es) news.toList) el fz r1 (setL_size _ _ _) hown.2 hown.1 hfree
            have hnm := hS1.name base (((σ id).cells.drop off).take (n * es) ++ yc) true ⟨e'.b, e'.base + off, (n + m) * es, e'.size, false⟩ (setL arr (e'.base + off + n * es) news.toList) el fz rfl (putRow_same (lt_of_heap r1)) (by unfold Unfrozen at *; rw [setL_size]; exact r2)
              (by rw [setL_size]; exact r3) (by show e'.base + off + (n + m) * es ≤ e'.size; omega) (by simp only [List.length_append, hocl, c7]; omega) (fun v hv => (List.mem_append.1 hv).elim (fun h => (hok v h).1) (fun h => (k3 v h).1)) (fun _ v hv => (List.mem_append.1 hv).elim (fun h => (hok v h).2) (fun h => (k3 v h).2))
              hown.2 hown.1 (fun j ej _ hj hej => hfree j ej hj hej) (fun j v c hj hc => by
                rw [setL_get _ _ _ _ (by omega)] at hc
                by_cases hjl : j < n * es
                · rw [List.getElem?_append_left (by omega)] at hj
                  rw [if_neg (by show ¬ (e'.base + off + n * es ≤ e'.base + off + j ∧ _); omega)] at hc
                  refine hcutR.at_ j v c hj ?_
                  rw [List.getElem?_take, if_pos hjl, List.getElem?_drop]
                  simpa using hc
                · rw [List.getElem?_append_right (by omega), hocl] at hj
                  have hj2 : j - n * es < yc.length := by
                    rcases Nat.lt_or_ge (j - n * es) yc.length with h' | h'
                    · exact h'
                    · rw [List.getElem?_eq_none h'] at hj; cases hj
                  rw [if_pos (by show e'.base + off + n * es ≤ e'.base + off + j ∧ e'.base + off + j < _; omega)] at hc
                  refine f2.at_ _ v c hj ?_
                  rw [← hc]
                  congr 1
                  show j - n * es = e'.base + off + j - (e'.base + off + n * es)
                  omega)
            rw [hgk] at hnm
            have hrun := run_append_fits (P := P) (w := w) (n := n) (m := m) (cap := cap) (p := some ⟨e'.b, e'.base + off, none⟩) hu hU hsz ty k1 f1 hroom (fun ad had => by cases had; rw [addr_add]; exact hst) (fun h => by cases h)
            refine ⟨_, pin, _, .slice (some ⟨e'.b, e'.base + off, none⟩) (n + m) cap, setEnt_ext _ _ _ _ (hS.fresh base), PExt.refl _, hnm, .sli base _ 0 (n + m) es cap _ _ (setEnt_same _ _ _ _) rfl hroom (fun _ => ⟨rfl, by show e'.base + off + 0 + cap * es ≤ e'.size; omega⟩) (by show (n + m) * es ≤ 0 + cap * es; omega), .inl ?_⟩
            rw [Sem.run_bind, hrun]
            rfl
          · -- a new row
            obtain ⟨news, f1, f2⟩ := q2 m (Nat.le_refl _)
            rw [List.take_of_length_le (by omega)] at f2
            have hfo : ∃ olds, (Builtin.firstCells es n (.slice (some ad) n cap)).run P w.drew = .ok olds w.drew ∧ RL ρ pin (((σ id).cells.drop off).take (n * es)) olds.toList := by
              by_cases hcz : cap = 0
              · obtain rfl : n = 0 := by omega
                exact ⟨#[], by simp [Builtin.firstCells, run_loadCells0], by simpa using RL.nil⟩
              · obtain ⟨rfl, hfit⟩ := hcap hcz
                refine ⟨((arr.toList.drop (e'.base + off)).take (n * es)).toArray, ?_, by simpa using hcutR⟩
                simp only [Builtin.firstCells]
                exact run_loadCells_row (w := w.drew) r1 (by omega)
            obtain ⟨olds, o1, o2⟩ := hfo
            have := app_grows hs hS (base := base) hu hU hsz hb hb0 hs0 hz hzs ty q1 k1 o1 o2 hocl hok ⟨news, f1, f2⟩ c7 k3 (by omega) c6 hSk
            rw [hgk] at this
            exact this
    · cases hr

omit hs in
/-- The cells of a row that is no row of a slice's things alone. -/
theorem ptrs_sound {id g off n es : Nat} {c : Value} (c1 : (σ id).gen = g) (c2 : (σ id).st ≠ .dead) (c3 : off + n * es ≤ (σ id).cells.length) (hR : R ρ pin (.sli id g off n es) c) :
    (Builtin.lenOf c).run P w = .ok n w ∧ (∃ arr, (Builtin.firstCells es n c).run P w = .ok arr w ∧ RL ρ pin (((σ id).cells.drop off).take (n * es)) arr.toList) ∧ (∀ v ∈ ((σ id).cells.drop off).take (n * es), v.one = true) := by
  cases hR with
  | sli _ _ _ _ _ cap e ad he hm hn hcap hlen =>
    obtain ⟨arr, el, fz, r1, r2, r3, r4, r5, r6, r7, r8, r9⟩ := hS.rowOf c1 c2 he hm
    refine ⟨by simp [Builtin.lenOf], ?_, fun v hv => r7 v (List.mem_of_mem_drop (List.mem_of_mem_take hv))⟩
    by_cases hz : cap = 0
    · obtain rfl : n = 0 := by omega
      refine ⟨#[], ?_, by simpa using RL.nil⟩
      simp [Builtin.firstCells, run_loadCells0]
    · obtain ⟨rfl, _⟩ := hcap hz
      refine ⟨((arr.toList.drop (e.base + off)).take (n * es)).toArray, ?_, ?_⟩
      · simp only [Builtin.firstCells]
        exact run_loadCells_row r1 (by omega)
      · have hr := ((RL.ofRow r5 r6).drop off).take (n * es)
        rw [drop_take_drop _ _ _ _ _ (by omega)] at hr
        simpa using hr

theorem op_appP {T U e : TypeId} {s b : Nat} {z : List V} {x y : Operand} {x' y' : Opd} (hu : P.underlying T = some (.slice e)) (hU : P.underlying U = some .string ∨ ∃ q, P.underlying U = some (.slice q)) (hsz : szC P e = some s) (hb : byC P e = some b) (hb0 : 0 < b) (hs0 : 0 < s)
    (hz : zeroC P e = some z) (hzs : z.length = s) (hx : opd x = some x') (hy : opd y = some y') (hr : insV tbl base t σ (.appP s b x' y') = some r) (ty : TypeId) :
    Done w0 S0 ρ pin (upds σ r.wr) r.val ((do pure (.value (← Builtin.append_ #[T, U] ty #[a.eval x, a.eval y])) : Sem Next).run P w) := by
  have hr0 : appPV σ base s b (x'.ev t) (y'.ev t) = some r := hr
  have old : appV σ base s b (x'.ev t) (y'.ev t) = some r → Done w0 S0 ρ pin (upds σ r.wr) r.val ((do pure (.value (← Builtin.append_ #[T, U] ty #[a.eval x, a.eval y])) : Sem Next).run P w) := fun h => op_app hs hS hu hU hsz hb hb0 hs0 hz hzs hx hy (show insV tbl base t σ (.app s b x' y') = some r from h) ty
  unfold appPV at hr0
  split at hr0
  case h_2 => exact old hr0
  rename_i iy gy offy m ey hev
  split at hr0
  · exact old hr0
  rename_i hnot
  have hm0 : m ≠ 0 := fun h => hnot (.inr h)
  clear old hnot
  have h1 := opd_sound hs hx
  have h2 := opd_sound hs hy
  rw [hev] at h2
  generalize a.eval x = cx at *
  generalize a.eval y = cy at *
  split at hr0
  case isFalse => cases hr0
  rename_i hc
  obtain ⟨rfl, y1, y2, y3⟩ := hc
  obtain ⟨k1, ⟨news, k2, k3⟩, k4⟩ := ptrs_sound (P := P) hS y1 y2 y3 h2
  obtain ⟨q1, ⟨news', q2, q3⟩, _⟩ := ptrs_sound (P := P) hS.drew y1 y2 y3 h2
  have hycl : (((σ iy).cells.drop offy).take (m * ey)).length = m * ey := by simp; omega
  generalize ((σ iy).cells.drop offy).take (m * ey) = yc at *
  unfold appQ at hr0
  generalize x'.ev t = vx at *
  split at hr0
  · -- to nothing
    rename_i k n0 cs0
    split at hr0
    case isFalse => cases hr0
    rename_i hc
    obtain ⟨c1, c2⟩ := hc
    cases hr0
    have h0 : ∃ p, cx = .slice p 0 0 ∧ (Builtin.firstCells ey 0 (.slice p 0 0)).run P w.drew = .ok #[] w.drew := by
      cases h1
      · exact ⟨none, rfl, rfl⟩
      · exact ⟨some _, rfl, by simp [Builtin.firstCells, run_loadCells0]⟩
      · exact absurd rfl c1
    obtain ⟨p, hp, hfo⟩ := h0
    rw [hp]
    have := app_growsB hs hS false (base := base) (oc := []) (n := 0) hu hU hsz hb hb0 hs0 hz hzs ty q1 k1 hfo (by simpa using RL.nil) (by simp) (by simp) ⟨news', q2, q3⟩ hycl (fun v hv => ⟨k4 v hv, by intro h; cases h⟩) (by omega) (by rw [Nat.zero_add]; exact c2) hS
    simpa [upds_one] using this
  · -- to a row of pointers
    rename_i id g off n es
    split at hr0
    case isFalse => cases hr0
    rename_i hc
    obtain ⟨rfl, c2, c3, c4, c5, c6⟩ := hc
    cases hr0
    cases h1 with
    | sli _ _ _ _ _ cap e' ad he hm hn hcap hlen =>
      obtain ⟨arr, el, fz, r1, r2, r3, r4, r5, r6, r7, r8, r9⟩ := hS.rowOf c2 (by rw [c3]; decide) he hm
      have hSk := hS.kill id
      have hgk : (upd σ id { σ id with st := .dead } base).gen = (σ base).gen := by
        by_cases hk : base = id
        · subst hk; rw [upd_same]
        · rw [upd_ne _ _ hk]
      have hcd : (σ id).cells.drop off = ((σ id).cells.drop off).take (n * es) := by rw [List.take_of_length_le]; simp; omega
      rw [hcd]
      have hocl : (((σ id).cells.drop off).take (n * es)).length = n * es := by simp; omega
      have hcutR := ((RL.ofRow r5 r6).drop off).take (n * es)
      rw [drop_take_drop _ _ _ _ _ (by omega)] at hcutR
      have hok : ∀ v ∈ ((σ id).cells.drop off).take (n * es), v.one = true := fun v hv => r7 v (List.mem_of_mem_drop (List.mem_of_mem_take hv))
      by_cases hroom : n + m ≤ cap
      · -- in place
        obtain ⟨rfl, hfit⟩ := hcap (by omega)
        have hnl : news.toList.length = m * es := by rw [← k3.len, hycl]
        have hmes : 0 < m * es := Nat.mul_pos (by omega) hs0
        have e1 : n * es + m * es = (n + m) * es := by rw [Nat.add_mul]
        have e2 : (n + m) * es ≤ cap * es := Nat.mul_le_mul_right _ hroom
        have hst := run_storeCells_row (P := P) e'.b el fz (e'.base + off + n * es) news.toList 0 w arr r1 r2 (by omega) (k3.oneCells (fun v hv => k4 v hv))
        rw [if_neg (by intro hh; rw [hh, List.length_nil] at hnl; omega), Nat.add_zero] at hst
        obtain ⟨e0, he0, L⟩ := hS.live id (by rw [c3]; decide)
        rw [c2, he] at he0
        cases he0
        have hown := L.rw c3
        have hfree : ∀ j ej, (upd σ id { σ id with st := .dead } j).st = .rw → ρ j (upd σ id { σ id with st := .dead } j).gen = some ej → ej.b ≠ e'.b := fun j ej hj hej => by
          by_cases hji : j = id
          · subst hji; rw [upd_same] at hj; cases hj
          · rw [upd_ne _ _ hji] at hj hej
            exact hS.inj j id ej e' hj c3 hji hej (by rw [c2]; exact he)
        have hS1 := hSk.scribble e'.b arr (setL arr (e'.base + off + n * es) news.toList) el fz r1 (setL_size _ _ _) hown.2 hown.1 hfree
        have hnm := hS1.name base (((σ id).cells.drop off).take (n * es) ++ yc) false ⟨e'.b, e'.base + off, (n + m) * es, e'.size, false⟩ (setL arr (e'.base + off + n * es) news.toList) el fz rfl (putRow_same (lt_of_heap r1)) (by unfold Unfrozen at *; rw [setL_size]; exact r2)
          (by rw [setL_size]; exact r3) (by show e'.base + off + (n + m) * es ≤ e'.size; omega) (by simp only [List.length_append, hocl, hycl]; omega) (fun v hv => (List.mem_append.1 hv).elim (fun h => hok v h) (fun h => k4 v h)) (fun hh => by cases hh)
          hown.2 hown.1 (fun j ej _ hj hej => hfree j ej hj hej) (fun j v c hj hc => by
            rw [setL_get _ _ _ _ (by omega)] at hc
            by_cases hjl : j < n * es
            · rw [List.getElem?_append_left (by omega)] at hj
              rw [if_neg (by show ¬ (e'.base + off + n * es ≤ e'.base + off + j ∧ _); omega)] at hc
              refine hcutR.at_ j v c hj ?_
              rw [List.getElem?_take, if_pos hjl, List.getElem?_drop]
              simpa using hc
            · rw [List.getElem?_append_right (by omega), hocl] at hj
              have hj2 : j - n * es < yc.length := by
                rcases Nat.lt_or_ge (j - n * es) yc.length with h' | h'
                · exact h'
                · rw [List.getElem?_eq_none h'] at hj; cases hj
              rw [if_pos (by show e'.base + off + n * es ≤ e'.base + off + j ∧ e'.base + off + j < _; omega)] at hc
              refine k3.at_ _ v c hj ?_
              rw [← hc]
              congr 1
              show j - n * es = e'.base + off + j - (e'.base + off + n * es)
              omega)
        rw [hgk] at hnm
        have hrun := run_append_fits (P := P) (w := w) (n := n) (m := m) (cap := cap) (p := some ⟨e'.b, e'.base + off, none⟩) hu hU hsz ty k1 k2 hroom (fun ad had => by cases had; rw [addr_add]; exact hst) (fun h => by cases h)
        refine ⟨_, pin, _, .slice (some ⟨e'.b, e'.base + off, none⟩) (n + m) cap, setEnt_ext _ _ _ _ (hS.fresh base), PExt.refl _, hnm, .sli base _ 0 (n + m) es cap _ _ (setEnt_same _ _ _ _) rfl hroom (fun _ => ⟨rfl, by show e'.base + off + 0 + cap * es ≤ e'.size; omega⟩) (by show (n + m) * es ≤ 0 + cap * es; omega), .inl ?_⟩
        rw [Sem.run_bind, hrun]
        rfl
      · -- a new row
        have hfo : ∃ olds, (Builtin.firstCells es n (.slice (some ad) n cap)).run P w.drew = .ok olds w.drew ∧ RL ρ pin (((σ id).cells.drop off).take (n * es)) olds.toList := by
          by_cases hcz : cap = 0
          · obtain rfl : n = 0 := by omega
            exact ⟨#[], by simp [Builtin.firstCells, run_loadCells0], by simpa using RL.nil⟩
          · obtain ⟨rfl, hfit⟩ := hcap hcz
            refine ⟨((arr.toList.drop (e'.base + off)).take (n * es)).toArray, ?_, by simpa using hcutR⟩
            simp only [Builtin.firstCells]
            exact run_loadCells_row (w := w.drew) r1 (by omega)
        obtain ⟨olds, o1, o2⟩ := hfo
        have := app_growsB hs hS false (base := base) hu hU hsz hb hb0 hs0 hz hzs ty q1 k1 o1 o2 hocl (fun v hv => ⟨hok v hv, by intro h; cases h⟩) ⟨news', q2, q3⟩ hycl (fun v hv => ⟨k4 v hv, by intro h; cases h⟩) (by omega) c6 hSk
        rw [hgk] at this
        exact this
  · cases hr0
end
end Go.Vm
