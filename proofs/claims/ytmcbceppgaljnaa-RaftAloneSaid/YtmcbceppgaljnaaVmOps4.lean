/- Each operation of the machine over values does what the given model's does: slicing. -/
import Derived.Test.YtmcbceppgaljnaaVmOps3
set_option linter.unusedSectionVars false
set_option linter.unusedSimpArgs false
set_option linter.unusedVariables false
namespace Go.Vm
variable {P : Program} {w0 w : World} {S0 : Terr} {ρ : Ren} {pin : Pin} {σ : Store} {a : Act} {t : Nat → V}

/-- A bound that may be left out, on both sides. -/
def OR (ρ : Ren) (pin : Pin) (x : Option V) (y : Option Value) : Prop :=
  match x, y with
  | none, none => True
  | some v, some c => R ρ pin v c
  | _, _ => False
theorem opdO_sound (hs : Slots ρ pin t a) {x : Option Operand} {y : Option Opd} (h : opdO x = some y) : OR ρ pin (y.map (·.ev t)) (x.map a.eval) := by
  cases x with
  | none => cases h; trivial
  | some x =>
    simp only [opdO, Option.map_eq_some_iff] at h
    obtain ⟨z, hz, rfl⟩ := h
    exact opd_sound hs hz
def bndS (y : Option Value) (M d : Nat) (code : BoundsCode) : Sem Nat :=
  match y with
  | some v => Instr.sliceBound v M code
  | none => pure d
theorem run_bound {x : Option V} {y : Option Value} (h : OR ρ pin x y) {d m l M : Nat} (hb : bnd x d m = some l) (hM : m ≤ M) (code : BoundsCode) :
    (bndS y M d code).run P w = .ok l w ∧ (x = none → l = d) ∧ (x ≠ none → l ≤ m) := by
  cases x with
  | none => cases y with
    | none => cases hb; exact ⟨rfl, fun _ => rfl, fun h => absurd rfl h⟩
    | some c => exact h.elim
  | some v => cases y with
    | none => exact h.elim
    | some c =>
      unfold bnd at hb
      split at hb
      · simp_all
      · rename_i k i hx
        cases hx
        have hc := R.int_inv h
        subst hc
        split at hb
        · rename_i hi
          cases hb
          refine ⟨?_, by simp, fun _ => by omega⟩
          simp [bndS, Instr.sliceBound, asIntOf, hi.1, show i ≤ (M : Int) by omega]
        · cases hb
      · cases hb

/-- Bounds without a third. -/
theorem run_bounds {x y : Option V} {lo hi : Option Value} (hl : OR ρ pin x lo) (hh : OR ρ pin y hi) {isSlice : Bool} {len cap M h l : Nat} (hlen : len ≤ cap) (hM : M ≤ cap) (hd : len ≤ M) (h1 : bnd y len M = some h) (h2 : bnd x 0 h = some l) :
    (Instr.sliceBounds isSlice len cap lo hi none).run P w = .ok (l, h, cap) w ∧ l ≤ h ∧ h ≤ M := by
  obtain ⟨r1, r2, r3⟩ := run_bound (P := P) (w := w) hh h1 hM (if isSlice then .sliceAcap else .sliceAlen)
  obtain ⟨q1, q2, q3⟩ := run_bound (P := P) (w := w) hl h2 (Nat.le_refl _) .sliceB
  have e1 : (Instr.sliceBounds isSlice len cap lo hi none) = (do
      let h ← bndS hi cap len (if isSlice then .sliceAcap else .sliceAlen)
      let l ← bndS lo h 0 .sliceB
      pure (l, h, cap)) := by
    unfold Instr.sliceBounds
    cases hi <;> cases lo <;> rfl
  refine ⟨?_, ?_, ?_⟩
  · rw [e1, Sem.run_bind, r1]
    simp only [Result.andThen_ok, Sem.run_bind]
    rw [q1]
    rfl
  · by_cases hx : x = none
    · rw [q2 hx]; exact Nat.zero_le _
    · exact q3 hx
  · by_cases hx : y = none
    · rw [r2 hx]; exact hd
    · exact r3 hx

section
variable (hs : Slots ρ pin t a) (hS : Sim w0 S0 ρ pin σ w) {tbl : Tbl} {base : Nat} {r : Res}
include hs hS

theorem op_slS {T : TypeId} {x : Operand} {lo hi : Option Operand} {x' : Opd} {lo' hi' : Option Opd} (hu : P.underlying T = some .string) (hx : opd x = some x') (hlo : opdO lo = some lo') (hhi : opdO hi = some hi')
    (hr : insV tbl base t σ (.slS x' lo' hi') = some r) : Done w0 S0 ρ pin (upds σ r.wr) r.val ((do pure (.value (← Instr.sliceAt T (a.eval x) (lo.map a.eval) (hi.map a.eval) none)) : Sem Next).run P w) := by
  have h1 := opd_sound hs hx
  unfold insV at hr
  simp only at hr
  split at hr
  · rename_i s hev
    rw [hev] at h1
    rw [h1.str_inv]
    simp only [Option.bind_eq_some_iff] at hr
    obtain ⟨h, hh, l, hl, hr⟩ := hr
    obtain ⟨b1, b2, b3⟩ := run_bounds (P := P) (w := w) (isSlice := false) (opdO_sound hs hlo) (opdO_sound hs hhi) (Nat.le_refl _) (Nat.le_refl _) (Nat.le_refl _) hh hl
    refine done_pure hS hr (.str _) ?_
    have hsz : (ByteArray.mk s.toArray).size = s.length := rfl
    simp [Instr.sliceAt, Instr.slice, run_under hu, hsz, b1, ByteArray.extract_mk]
  · cases hr

omit hs hS in
/-- A slice's slice in the model. -/
theorem run_sliceL {T e : TypeId} {n : Nat} (hu : P.underlying T = some (.slice e)) (hn : szC P e = some n) {p : Option Addr} {len cap : Nat} {lo hi : Option Value} {l h : Nat}
    (hb : (Instr.sliceBounds true len cap lo hi none).run P w = .ok (l, h, cap) w) : (Instr.sliceAt T (.slice p len cap) lo hi none).run P w = .ok (.slice (if cap = l then p else p.map (·.add (l * n))) (h - l) (cap - l)) w := by
  simp [Instr.sliceAt, Instr.slice, run_under hu, hb, szC_some hn]

omit hs hS in
theorem mul_sub_le {a b c n : Nat} (h : a ≤ b) (h2 : b ≤ c) : (b - a) * n + a * n ≤ c * n := by
  rw [← Nat.add_mul]
  exact Nat.mul_le_mul_right _ (by omega)

omit hs hS in
theorem run_bounds3 {hi mx : Option Value} {k k' : IntKind} (h1 : hi = some (.int k 0)) (h2 : mx = some (.int k' 0)) {len cap : Nat} : (Instr.sliceBounds true len cap none hi mx).run P w = .ok (0, 0, 0) w := by
  subst h1; subst h2
  simp [Instr.sliceBounds, Instr.sliceBound, asIntOf]
omit hs hS in
theorem run_sliceL3 {T e : TypeId} {n : Nat} (hu : P.underlying T = some (.slice e)) (hn : szC P e = some n) {p : Option Addr} {len cap : Nat} {hi mx : Option Value}
    (hb : (Instr.sliceBounds true len cap none hi mx).run P w = .ok (0, 0, 0) w) : (Instr.sliceAt T (.slice p len cap) none hi mx).run P w = .ok (.slice p 0 0) w := by
  simp [Instr.sliceAt, Instr.slice, run_under hu, hb, szC_some hn]
omit hs hS in
theorem run_sliceK {T e : TypeId} {n : Nat} (hu : P.underlying T = some (.slice e)) (hn : szC P e = some n) {p : Option Addr} {len cap : Nat} {k1 k2 : IntKind} {j : Int} (h0 : 0 ≤ j) (h : j ≤ (cap : Int)) :
    (Instr.sliceAt T (.slice p len cap) none (some (.int k1 j)) (some (.int k2 j))).run P w = .ok (.slice (if j.toNat = 0 then p else p.map (·.add 0)) j.toNat j.toNat) w := by
  have b1 : ∀ (k : IntKind) (x : Int) (y : Nat) (cd : BoundsCode), 0 ≤ x → x ≤ (y : Int) → (Instr.sliceBound (.int k x) y cd).run P w = .ok x.toNat w := fun k x y cd h1 h2 => by
    simp [Instr.sliceBound, asIntOf, h1, h2]
  have hb : (Instr.sliceBounds true len cap none (some (.int k1 j)) (some (.int k2 j))).run P w = .ok (0, j.toNat, j.toNat) w := by
    unfold Instr.sliceBounds
    simp only [Sem.run_bind]
    rw [b1 k2 j cap _ h0 h]
    simp only [Result.andThen_ok, Sem.run_bind]
    rw [b1 k1 j j.toNat _ h0 (by omega)]
    rfl
  simp [Instr.sliceAt, Instr.slice, run_under hu, hb, szC_some hn]
omit hs hS in
theorem run_sliceJ {T e : TypeId} {n : Nat} (hu : P.underlying T = some (.slice e)) (hn : szC P e = some n) {p : Option Addr} {len cap : Nat} {k1 k2 k3 : IntKind} {i j m : Int} (h : 0 ≤ i ∧ i ≤ j ∧ j ≤ m ∧ m ≤ (cap : Int)) :
    ∃ p' n' c', (Instr.sliceAt T (.slice p len cap) (some (.int k1 i)) (some (.int k2 j)) (some (.int k3 m))).run P w = .ok (.slice p' n' c') w := by
  have b1 : ∀ (k : IntKind) (x : Int) (y : Nat) (cd : BoundsCode), 0 ≤ x → x ≤ (y : Int) → (Instr.sliceBound (.int k x) y cd).run P w = .ok x.toNat w := fun k x y cd h1 h2 => by
    simp [Instr.sliceBound, asIntOf, h1, h2]
  have hb : (Instr.sliceBounds true len cap (some (.int k1 i)) (some (.int k2 j)) (some (.int k3 m))).run P w = .ok (i.toNat, j.toNat, m.toNat) w := by
    unfold Instr.sliceBounds
    simp only [Sem.run_bind]
    rw [b1 k3 m cap _ (by omega) (by omega)]
    simp only [Result.andThen_ok, Sem.run_bind]
    rw [b1 k2 j m.toNat _ (by omega) (by omega)]
    simp only [Result.andThen_ok, Sem.run_bind]
    rw [b1 k1 i j.toNat _ (by omega) (by omega)]
    rfl
  exact ⟨_, _, _, by simp [Instr.sliceAt, Instr.slice, run_under hu, hb, szC_some hn]; exact ⟨rfl, rfl, rfl⟩⟩
omit hs hS in
theorem sli_cut {id g off m n cap l h : Nat} {e : Ent} {adr : Addr} (he : ρ id g = some e) (hm : e.mp = false) (hmc : m ≤ cap) (hc : cap ≠ 0 → adr = ⟨e.b, e.base + off, none⟩ ∧ e.base + off + cap * n ≤ e.size) (hlen : e.len ≤ off + cap * n) (hl : l ≤ h) (hh : h ≤ cap) :
    R ρ pin (.sli id g (off + l * n) (h - l) n) (.slice (if cap = l then some adr else (some adr).map (·.add (l * n))) (h - l) (cap - l)) := by
  have e1 : (cap - l) * n + l * n = cap * n := by rw [← Nat.add_mul, Nat.sub_add_cancel (by omega)]
  by_cases hcl : cap = l
  · rw [if_pos hcl]
    exact .sli _ _ _ _ _ _ e adr he hm (by omega) (fun c => absurd c (by omega)) (by omega)
  · rw [if_neg hcl]
    obtain ⟨rfl, h3⟩ := hc (by omega)
    simp only [Option.map_some, addr_add]
    exact .sli _ _ _ _ _ _ e _ he hm (by omega) (fun _ => ⟨by rw [Nat.add_assoc], by omega⟩) (by omega)

theorem op_slL {T e : TypeId} {n : Nat} {x : Operand} {lo hi mx : Option Operand} {x' : Opd} {lo' hi' mx' : Option Opd} (hu : P.underlying T = some (.slice e)) (hn : szC P e = some n) (h0 : 0 < n) (hx : opd x = some x') (hlo : opdO lo = some lo') (hhi : opdO hi = some hi') (hmx : opdO mx = some mx')
    (hr : insV tbl base t σ (.slL n x' lo' hi' mx') = some r) : Done w0 S0 ρ pin (upds σ r.wr) r.val ((do pure (.value (← Instr.sliceAt T (a.eval x) (lo.map a.eval) (hi.map a.eval) (mx.map a.eval))) : Sem Next).run P w) := by
  have h1 := opd_sound hs hx
  have rlo := opdO_sound hs hlo
  have rhi := opdO_sound hs hhi
  have rmx := opdO_sound hs hmx
  unfold insV at hr
  simp only at hr
  split at hr
  · -- read alone
    rename_i k m cs hev
    rw [hev] at h1
    have hmx0 : mx.map a.eval = none := by
      cases hq : mx.map a.eval with
      | none => rfl
      | some c => rw [hq] at rmx; exact rmx.elim
    rw [hmx0]
    simp only [Option.bind_eq_some_iff] at hr
    obtain ⟨h, hh, l, hl, hr⟩ := hr
    split at hr
    case isFalse => cases hr
    rename_i hfit
    generalize a.eval x = c0 at h1
    cases h1 with
    | slnil =>
      obtain ⟨b1, b2, b3⟩ := run_bounds (P := P) (w := w) (isSlice := true) (cap := 0) rlo rhi (Nat.le_refl _) (Nat.le_refl _) (Nat.le_refl _) hh hl
      obtain rfl : h = 0 := by omega
      obtain rfl : l = 0 := by omega
      refine done_pure hS hr ?_ (run_sliceL hu hn b1)
      simpa using R.slnil
    | slzero adr =>
      obtain ⟨b1, b2, b3⟩ := run_bounds (P := P) (w := w) (isSlice := true) (cap := 0) rlo rhi (Nat.le_refl _) (Nat.le_refl _) (Nat.le_refl _) hh hl
      obtain rfl : h = 0 := by omega
      obtain rfl : l = 0 := by omega
      refine done_pure hS hr ?_ (run_sliceL hu hn b1)
      simpa using R.slzero adr
    | slro _ _ adr cap arr el fz hn' hz hp h1' hc =>
      obtain ⟨b1, b2, b3⟩ := run_bounds (P := P) (w := w) (isSlice := true) (cap := cap) rlo rhi hn' hn' (Nat.le_refl _) hh hl
      refine done_pure hS hr ?_ (run_sliceL hu hn b1)
      have hlen : ∀ q, (cs.drop (l * n)).take ((h - l) * n) = q → q.length ≤ cs.length - l * n := fun q hq => by rw [← hq]; simp; omega
      by_cases hz2 : h - l = 0
      · rw [hz2, Nat.zero_mul, List.take_zero]
        by_cases hcl : cap = l
        · rw [if_pos hcl]
          exact .slro 0 [] adr _ #[] 0 (0, 0) (Nat.zero_le _) (fun _ => rfl) (fun c => absurd rfl c) (by simp) (by simp)
        · rw [if_neg hcl]
          exact .slro 0 [] _ _ #[] 0 (0, 0) (Nat.zero_le _) (fun _ => rfl) (fun c => absurd rfl c) (by simp) (by simp)
      · have hm : m ≠ 0 := by omega
        obtain ⟨p1, p2, p3⟩ := hp hm
        obtain ⟨b, o, sp⟩ := adr
        simp only at p1 p2 p3 hc
        subst p1
        rw [if_neg (by omega)]
        simp only [Option.map_some, addr_add]
        have := mul_sub_le (n := n) b2 (Nat.le_refl h)
        refine .slro _ _ ⟨b, o + l * n, none⟩ _ arr el fz (by omega) (fun c => absurd c hz2) (fun _ => ⟨rfl, p2, ?_⟩) (fun v hv => h1' v (List.mem_of_mem_drop (List.mem_of_mem_take hv))) ?_
        · have := hlen _ rfl
          show o + l * n + _ ≤ _
          omega
        · intro j v c hv hcc
          rw [List.getElem?_take] at hv
          split at hv
          · rw [List.getElem?_drop] at hv
            exact hc _ v c hv (by rw [← hcc]; congr 1; show o + (l * n + j) = o + l * n + j; omega)
          · cases hv
  · -- a named one
    rename_i id g off m es hev
    rw [hev] at h1
    have hmx0 : mx.map a.eval = none := by
      cases hq : mx.map a.eval with
      | none => rfl
      | some c => rw [hq] at rmx; exact rmx.elim
    rw [hmx0]
    split at hr
    case isFalse => cases hr
    rename_i hes
    subst hes
    generalize a.eval x = c0 at h1
    cases h1 with
    | sli _ _ _ _ _ cap e' adr he hm hn' hc hlen =>
      split at hr
      · rename_i k i hhi'
        rw [hhi'] at rhi
        have hb1 : 0 ≤ i ∧ i ≤ (m : Int) → bnd (some (V.int k i)) m m = some i.toNat := fun h => by simp [bnd, h.1, h.2]
        have hb2 : ∀ M : Nat, 0 ≤ i ∧ i ≤ (M : Int) → bnd (some (V.int k i)) m M = some i.toNat := fun M h => by simp [bnd, h.1, h.2]
        split at hr
        · rename_i hi2
          simp only [Option.bind_eq_some_iff] at hr
          obtain ⟨l, hl, hr⟩ := hr
          obtain ⟨b1, b2, b3⟩ := run_bounds (P := P) (w := w) (isSlice := true) (cap := cap) rlo rhi hn' hn' (Nat.le_refl _) (hb1 hi2) hl
          exact done_pure hS hr (sli_cut he hm hn' hc hlen b2 (by omega)) (run_sliceL hu hn b1)
        · split at hr
          · rename_i hi2
            obtain ⟨q0, q1, q2, q3, q4⟩ := hi2
            simp only [Option.bind_eq_some_iff] at hr
            obtain ⟨l, hl, hr⟩ := hr
            obtain ⟨arr, el, fz, _, _, _, r4, _⟩ := hS.rowOf q1 q2 he hm
            have hcap : i.toNat ≤ cap := by
              have : i.toNat * es ≤ cap * es := by omega
              exact Nat.le_of_mul_le_mul_right this q4
            obtain ⟨b1, b2, b3⟩ := run_bounds (P := P) (w := w) (isSlice := true) (cap := cap) rlo rhi hn' (Nat.le_refl _) hn' (hb2 cap ⟨q0, by omega⟩) hl
            exact done_read hS hr (sli_cut he hm hn' hc hlen b2 (by omega)) (run_sliceL hu hn b1)
          · cases hr
      · rename_i hhi'
        rw [hhi'] at rhi
        simp only [Option.bind_eq_some_iff] at hr
        obtain ⟨l, hl, hr⟩ := hr
        obtain ⟨b1, b2, b3⟩ := run_bounds (P := P) (w := w) (isSlice := true) (cap := cap) rlo rhi hn' hn' (Nat.le_refl _) (show bnd none m m = some m from rfl) hl
        exact done_pure hS hr (sli_cut he hm hn' hc hlen b2 (by omega)) (run_sliceL hu hn b1)
      · cases hr
  · rename_i k m cs q hev
    rw [hev] at h1
    split at hr
    · rename_i k1 k2 e1 e2
      rw [e1] at rhi
      have e3 : lo.map a.eval = none := by
        cases hq : lo.map a.eval with
        | none => rfl
        | some c => rw [hq] at rlo; exact rlo.elim
      have e4 : ∃ k, hi.map a.eval = some (.int k 0) := by
        cases hq : hi.map a.eval with
        | none => rw [hq] at rhi; exact rhi.elim
        | some c => rw [hq] at rhi; exact ⟨_, congrArg some (R.int_inv rhi)⟩
      have e5 : ∃ k, mx.map a.eval = some (.int k 0) := by
        cases hq : mx.map a.eval with
        | none => rw [hq] at rmx; exact rmx.elim
        | some c => rw [hq] at rmx; simp only [Option.map_some, e2] at rmx; exact ⟨_, congrArg some (R.int_inv rmx)⟩
      obtain ⟨ka, e4⟩ := e4
      obtain ⟨kb, e5⟩ := e5
      rw [e3]
      generalize a.eval x = c0 at h1
      cases h1 with
      | slnil => exact done_pure hS hr (by simpa using R.slnil) (run_sliceL3 hu hn (run_bounds3 e4 e5))
      | slzero adr => exact done_pure hS hr (by simpa using R.slzero adr) (run_sliceL3 hu hn (run_bounds3 e4 e5))
      | slro _ _ adr cap arr el fz => exact done_pure hS hr (by simpa using R.slzero adr) (run_sliceL3 hu hn (run_bounds3 e4 e5))
    · cases hr
  · rename_i id g off nn es0 q hev
    rw [hev] at h1
    split at hr
    · rename_i k1 k2 e0 e1 e2
      rw [e1] at rhi
      rw [e0] at rlo
      have e3 : lo.map a.eval = none := by
        cases hq : lo.map a.eval with
        | none => rfl
        | some c => rw [hq] at rlo; exact rlo.elim
      have e4 : ∃ k, hi.map a.eval = some (.int k 0) := by
        cases hq : hi.map a.eval with
        | none => rw [hq] at rhi; exact rhi.elim
        | some c => rw [hq] at rhi; exact ⟨_, congrArg some (R.int_inv rhi)⟩
      have e5 : ∃ k, mx.map a.eval = some (.int k 0) := by
        cases hq : mx.map a.eval with
        | none => rw [hq] at rmx; exact rmx.elim
        | some c => rw [hq] at rmx; simp only [Option.map_some, e2] at rmx; exact ⟨_, congrArg some (R.int_inv rmx)⟩
      obtain ⟨ka, e4⟩ := e4
      obtain ⟨kb, e5⟩ := e5
      rw [e3]
      generalize a.eval x = c0 at h1
      cases h1 with
      | sli _ _ _ _ _ cap e' adr he hm hn' hc hlen => exact done_pure hS hr (R.slzero adr) (run_sliceL3 hu hn (run_bounds3 e4 e5))
    · rename_i kh jh kq jq hne elo ehi emx
      rw [Option.ite_none_right_eq_some] at hr
      obtain ⟨⟨rfl, hb0, hb1, rfl, hg, hst, harr, hfit⟩, hr⟩ := hr
      rw [ehi] at rhi
      have e3 : lo.map a.eval = none := by
        rw [elo] at rlo
        cases hq : lo.map a.eval with
        | none => rfl
        | some c => rw [hq] at rlo; exact rlo.elim
      have e4 : hi.map a.eval = some (.int kh jh) := by
        cases hq : hi.map a.eval with
        | none => rw [hq] at rhi; exact rhi.elim
        | some c => rw [hq] at rhi; exact congrArg some (R.int_inv rhi)
      have e5 : mx.map a.eval = some (.int kq jh) := by
        cases hq : mx.map a.eval with
        | none => rw [hq] at rmx; exact rmx.elim
        | some c => rw [hq] at rmx; simp only [Option.map_some, emx] at rmx; exact congrArg some (R.int_inv rmx)
      rw [e3, e4, e5]
      generalize a.eval x = c0 at h1
      cases h1 with
      | sli _ _ _ _ _ cap e' adr he hm hn' hc hlen =>
        cases hr
        obtain ⟨arr, el, fz, r1, r2, r3, r4, r5, r6, r7, r8, r9⟩ := hS.rowOf hg (by rw [hst]; decide) he hm
        have hfit2 := hS.fits hg (by rw [hst]; decide) he hm
        obtain ⟨e2, he2, L⟩ := hS.live id (by rw [hst]; decide)
        obtain rfl : e2 = e' := by rw [hg, he] at he2; exact (Option.some.inj he2).symm
        have hS' := hS.name id ((σ id).cells.take (off + jh.toNat * es0)) true ⟨e2.b, e2.base, off + jh.toNat * es0, e2.size, false⟩ arr el fz rfl r1 r2 r3 (by rw [r4] at hfit2; show e2.base + (off + jh.toNat * es0) ≤ e2.size; omega) (by rw [List.length_take]; show off + jh.toNat * es0 = _; omega)
          (fun v hv => r7 v (List.mem_of_mem_take hv)) (fun _ v hv => r8 harr v (List.mem_of_mem_take hv)) (L.rw hst).2 (L.rw hst).1 (fun j ej hj hjs hje => hS.inj j id ej e2 hjs hst hj hje (by rw [hg]; exact he))
          (fun j v c hj hcj => r6 j v c (by rw [List.getElem?_take] at hj; split at hj; exact hj; cases hj) hcj)
        refine ⟨_, pin, w, .slice (if jh.toNat = 0 then some adr else (some adr).map (·.add 0)) jh.toNat jh.toNat, setEnt_ext _ _ _ _ (hS.fresh _), PExt.refl _, hS', ?_, .inl ?_⟩
        rotate_left
        · rw [Sem.run_bind, run_sliceK hu hn hb0 (show jh ≤ (cap : Int) by omega)]
          rfl
        · by_cases hz : jh.toNat = 0
          · rw [if_pos hz]
            exact .sli _ _ _ _ _ _ _ _ (setEnt_same _ _ _ _) rfl (Nat.le_refl _) (fun c => absurd hz c) (Nat.le_refl _)
          · rw [if_neg hz]
            obtain ⟨rfl, h3⟩ := hc (by omega)
            simp only [Option.map_some, addr_add, Nat.add_zero]
            refine .sli _ _ _ _ _ _ _ _ (setEnt_same _ _ _ _) rfl (Nat.le_refl _) (fun _ => ⟨rfl, ?_⟩) (Nat.le_refl _)
            show e2.base + off + jh.toNat * es0 ≤ e2.size
            have : jh.toNat * es0 ≤ cap * es0 := Nat.mul_le_mul_right _ (by omega)
            omega
    · rename_i kl il kh jh kq jq elo ehi emx
      rw [Option.ite_none_right_eq_some] at hr
      obtain ⟨hb, hr⟩ := hr
      rw [ehi] at rhi
      rw [elo] at rlo
      have e3 : lo.map a.eval = some (.int kl il) := by
        cases hq : lo.map a.eval with
        | none => rw [hq] at rlo; exact rlo.elim
        | some c => rw [hq] at rlo; exact congrArg some (R.int_inv rlo)
      have e4 : hi.map a.eval = some (.int kh jh) := by
        cases hq : hi.map a.eval with
        | none => rw [hq] at rhi; exact rhi.elim
        | some c => rw [hq] at rhi; exact congrArg some (R.int_inv rhi)
      have e5 : mx.map a.eval = some (.int kq jq) := by
        cases hq : mx.map a.eval with
        | none => rw [hq] at rmx; exact rmx.elim
        | some c => rw [hq] at rmx; simp only [Option.map_some, emx] at rmx; exact congrArg some (R.int_inv rmx)
      rw [e3, e4, e5]
      generalize a.eval x = c0 at h1
      cases h1 with
      | sli _ _ _ _ _ cap e' adr he hm hn' hc hlen =>
        obtain ⟨p', n', c', hc1⟩ := run_sliceJ (P := P) (w := w) hu hn (p := some adr) (len := _) (cap := cap) (k1 := kl) (k2 := kh) (k3 := kq) (i := il) (j := jh) (m := jq) ⟨hb.1, hb.2.1, hb.2.2.1, by have := hb.2.2.2; omega⟩
        exact done_pure hS hr (.junk p' n' c') hc1
    · cases hr
  · cases hr

theorem op_slA {T e : TypeId} {m n : Nat} {x : Operand} {lo hi : Option Operand} {x' : Opd} {lo' hi' : Option Opd} (hu : P.underlying T = some (.array m e)) (hn : szC P e = some n) (h0 : 0 < n) (hx : opd x = some x') (hlo : opdO lo = some lo') (hhi : opdO hi = some hi')
    (hr : insV tbl base t σ (.slA m n x' lo' hi') = some r) : Done w0 S0 ρ pin (upds σ r.wr) r.val ((do pure (.value (← Instr.sliceAt T (a.eval x) (lo.map a.eval) (hi.map a.eval) none)) : Sem Next).run P w) := by
  have h1 := opd_sound hs hx
  have rlo := opdO_sound hs hlo
  have rhi := opdO_sound hs hhi
  unfold insV at hr
  simp only at hr
  split at hr
  · rename_i id g off hev
    rw [hev] at h1
    simp only [Option.bind_eq_some_iff] at hr
    obtain ⟨h, hh, l, hl, hr⟩ := hr
    split at hr
    · rename_i hq
      obtain ⟨e', he, hm, hc⟩ := h1.ptr_inv
      rw [hc]
      obtain ⟨arr, el, fz, r1, r2, r3, r4, r5, _⟩ := hS.rowOf hq.1 hq.2.1 he hm
      have r10 := hS.fits hq.1 hq.2.1 he hm
      obtain ⟨b1, b2, b3⟩ := run_bounds (P := P) (w := w) (isSlice := false) (cap := m) rlo rhi (Nat.le_refl _) (Nat.le_refl _) (Nat.le_refl _) hh hl
      refine done_read hS hr (sli_cut (cap := m) he hm (Nat.le_refl _) (fun _ => ⟨rfl, by omega⟩) (by omega) b2 b3) ?_
      have : (some (⟨e'.b, e'.base + off, none⟩ : Addr)) = some ⟨e'.b, e'.base + off, none⟩ := rfl
      simp only [Instr.sliceAt, Sem.run_bind, run_under hu, Result.andThen_ok, Instr.sureAddr, Sem.run_pure, b1, szC_some hn]
      by_cases hml : m = l
      · simp [hml]
      · simp [hml]
    · cases hr
  · cases hr
end
end Go.Vm
