/- Values at a call's border: what they own, and how it comes to be blocks. -/
import Derived.Test.YtmcbceppgaljnaaVmIns
set_option linter.unusedSectionVars false
set_option linter.unusedSimpArgs false
set_option linter.unusedVariables false
namespace Go.Vm
variable {P : Program} {w0 w : World} {S0 : Terr} {ρ : Ren} {pin : Pin} {σ : Store} {a : Act} {t : Nat → V}

def noRen : Ren := fun _ _ => none
def V.bone : V → Bool
  | .agg _ | .tup _ => false
  | _ => true

/-- What a border's value stands for, and the rows that it owns. -/
inductive B (pin : Pin) (w : World) : V → Value → List Nat → Prop
  | flat (v : V) (c : Value) (h : NoRef v) (hr : R noRen pin v c) : B pin w v c []
  | agg (cs : List V) (arr : Array Value) (os : List (List Nat)) (hl : cs.length = arr.size) (ho : os.length = cs.length) (h1 : ∀ v ∈ cs, v.bone = true)
      (h : ∀ (j : Nat) (v : V) (c : Value) (o : List Nat), cs[j]? = some v → arr[j]? = some c → os[j]? = some o → B pin w v c o) : B pin w (.agg cs) (.agg arr) os.flatten
  | tup (cs : List V) (arr : Array Value) (os : List (List Nat)) (hl : cs.length = arr.size) (ho : os.length = cs.length)
      (h : ∀ (j : Nat) (v : V) (c : Value) (o : List Nat), cs[j]? = some v → arr[j]? = some c → os[j]? = some o → B pin w v c o) : B pin w (.tup cs) (.tuple arr) os.flatten
  | fn (f : Nat) (cs : List V) (arr : Array Value) (os : List (List Nat)) (hl : cs.length = arr.size) (ho : os.length = cs.length)
      (h : ∀ (j : Nat) (v : V) (c : Value) (o : List Nat), cs[j]? = some v → arr[j]? = some c → os[j]? = some o → B pin w v c o) : B pin w (.fn f cs) (.func (.func f) #[] arr) os.flatten
  | opt (cs : List V) (b base : Nat) (arr : Array Value) (el : TypeId) (fz : Nat × Nat) (os : List (List Nat)) (hrow : w.heap[b]? = some (.cells arr el fz)) (hu : Unfrozen arr fz) (hfit : base + cs.length ≤ arr.size) (ho : os.length = cs.length) (h1 : ∀ v ∈ cs, v.bone = true)
      (h : ∀ (j : Nat) (v : V) (c : Value) (o : List Nat), cs[j]? = some v → arr[base + j]? = some c → os[j]? = some o → B pin w v c o) : B pin w (.opt cs) (.pointer (some ⟨b, base, none⟩)) (b :: os.flatten)
  | osl (esz n cap : Nat) (cs : List V) (ad : Addr) (b base : Nat) (arr : Array Value) (el : TypeId) (fz : Nat × Nat) (hrow : w.heap[b]? = some (.cells arr el fz)) (hu : Unfrozen arr fz) (hfit : base + cs.length ≤ arr.size) (hn : n ≤ cap)
      (hc : cap ≠ 0 → ad = ⟨b, base, none⟩ ∧ base + cap * esz ≤ arr.size) (hlen : cs.length ≤ cap * esz) (h1 : ∀ v ∈ cs, v.one = true ∧ NoRef v)
      (h : ∀ (j : Nat) (v : V) (c : Value), cs[j]? = some v → arr[base + j]? = some c → R noRen pin v c) : B pin w (.osl esz n cs) (.slice (some ad) n cap) [b]
  | omp (es : List (V × V)) (b : Nat) (arr : Array MapEntry) (clock : Nat) (hrow : w.heap[b]? = some (.map arr clock)) (h : EntsOk es arr) : B pin w (.omp es) (.map (some b)) [b]

/-- A value without names is itself at a border. -/
theorem B.ofR {v : V} {c : Value} (hv : NoRef v) (h : R ρ pin v c) : B pin w v c [] := .flat v c hv (h.noref hv)

/-- Lists of such. -/
structure BL (pin : Pin) (w : World) (cs : List V) (vs : List Value) (os : List (List Nat)) : Prop where
  len : cs.length = vs.length
  olen : os.length = cs.length
  at_ : ∀ (j : Nat) (v : V) (c : Value) (o : List Nat), cs[j]? = some v → vs[j]? = some c → os[j]? = some o → B pin w v c o
theorem BL.nil : BL pin w [] [] [] := ⟨rfl, rfl, fun j v c o h => by simp at h⟩
theorem BL.cons {v : V} {c : Value} {o : List Nat} {cs : List V} {vs : List Value} {os : List (List Nat)} (h : B pin w v c o) (k : BL pin w cs vs os) : BL pin w (v :: cs) (c :: vs) (o :: os) :=
  ⟨by simp [k.len], by simp [k.olen], fun j x y z hx hy hz => by
    cases j with
    | zero => simp at hx hy hz; subst hx; subst hy; subst hz; exact h
    | succ j => simp at hx hy hz; exact k.at_ j x y z hx hy hz⟩
theorem BL.inv {v : V} {cs : List V} {vs : List Value} {os : List (List Nat)} (k : BL pin w (v :: cs) vs os) : ∃ c vs' o os', vs = c :: vs' ∧ os = o :: os' ∧ B pin w v c o ∧ BL pin w cs vs' os' := by
  have h1 := k.len
  have h2 := k.olen
  cases vs with
  | nil => simp at h1
  | cons c vs' => cases os with
    | nil => simp at h2
    | cons o os' =>
      exact ⟨c, vs', o, os', rfl, rfl, k.at_ 0 v c o rfl rfl rfl, by simpa using h1, by simpa using h2, fun j x y z hx hy hz => k.at_ (j + 1) x y z (by simpa using hx) (by simpa using hy) (by simpa using hz)⟩

/-- The rows that some numbers name. -/
inductive Rows (ρ : Ren) (σ : Store) : List Nat → List Nat → Prop
  | nil : Rows ρ σ [] []
  | cons {i b : Nat} {is os : List Nat} (h : (σ i).st = .rw ∧ ∃ e, ρ i (σ i).gen = some e ∧ e.b = b) (k : Rows ρ σ is os) : Rows ρ σ (i :: is) (b :: os)
theorem Rows.append {is js os ps : List Nat} (h : Rows ρ σ is os) (k : Rows ρ σ js ps) : Rows ρ σ (is ++ js) (os ++ ps) := by
  induction h with
  | nil => exact k
  | cons h _ ih => exact .cons h ih
theorem Rows.mem {is os : List Nat} (h : Rows ρ σ is os) {b : Nat} (hb : b ∈ os) : ∃ i ∈ is, (σ i).st = .rw ∧ ∃ e, ρ i (σ i).gen = some e ∧ e.b = b := by
  induction h with
  | nil => simp at hb
  | cons h _ ih =>
    rename_i i b' is os _
    rcases List.mem_cons.1 hb with rfl | hb
    · exact ⟨i, by simp, h⟩
    · obtain ⟨j, hj, hh⟩ := ih hb
      exact ⟨j, List.mem_cons_of_mem _ hj, hh⟩
theorem Rows.mem' {is os : List Nat} (h : Rows ρ σ is os) {i : Nat} (hi : i ∈ is) : (σ i).st = .rw ∧ ∃ e, ρ i (σ i).gen = some e ∧ e.b ∈ os := by
  induction h with
  | nil => simp at hi
  | cons h _ ih =>
    rcases List.mem_cons.1 hi with rfl | hi
    · obtain ⟨h1, e, h2, rfl⟩ := h
      exact ⟨h1, e, h2, by simp⟩
    · obtain ⟨h1, e, h2, h3⟩ := ih hi
      exact ⟨h1, e, h2, List.mem_cons_of_mem _ h3⟩
/-- Rows of unlike numbers are unlike. -/
theorem Rows.nodup (hS : Sim w0 S0 ρ pin σ w) {is os : List Nat} (h : Rows ρ σ is os) (hn : is.Nodup) : os.Nodup := by
  induction h with
  | nil => exact List.nodup_nil
  | cons h k ih =>
    rename_i i b is os
    obtain ⟨h1, e, h2, rfl⟩ := h
    rw [List.nodup_cons] at hn ⊢
    refine ⟨fun hb => ?_, ih hn.2⟩
    obtain ⟨j, hj, hj1, ej, hj2, hj3⟩ := k.mem hb
    exact hS.inj i j e ej h1 hj1 (fun c => hn.1 (c ▸ hj)) h2 hj2 hj3.symm

theorem own_bone (σ : Store) : ∀ (d : Nat) {v x : V} {is : List Nat}, ownV σ d v = some (x, is) → x.bone = (match v with | .agg _ | .tup _ => false | _ => true)
  | 0, v, x, is, h => by simp [ownV] at h
  | d + 1, v, x, is, h => by
    cases v <;> (try simp only [ownV] at h)
    case sli id g off n esz =>
      split at h
      · cases h; rfl
      · split at h
        · cases h; rfl
        · cases h
    case mp id g =>
      split at h
      · split at h
        · split at h
          · cases h; rfl
          · cases h; rfl
        · cases h
      · cases h
    case ptr id g off =>
      split at h
      · simp only [Option.map_eq_some_iff] at h; obtain ⟨_, _, h⟩ := h; cases h; rfl
      · split at h
        · simp only [Option.bind_eq_some_iff] at h
          obtain ⟨⟨_, _⟩, _, h⟩ := h
          simp only at h
          split at h
          · cases h; rfl
          · cases h
        · cases h
    all_goals first
      | (cases h; rfl)
      | (simp at h; done)
      | (simp only [Option.map_eq_some_iff] at h; obtain ⟨_, _, h⟩ := h; cases h; rfl)

/-- What is handed over is a border's value. -/
theorem own_sound (hS : Sim w0 S0 ρ pin σ w) {pin2 : Pin} (hp : PExt pin pin2) : ∀ (d : Nat) {v x : V} {is : List Nat} {c : Value}, ownV σ d v = some (x, is) → R ρ pin v c → ∃ os, B pin2 w x c os ∧ Rows ρ σ is os
  | 0, v, x, is, c, h, _ => by simp [ownV] at h
  | d + 1, v, x, is, c, h, hR => by
    have list : ∀ {cs : List V} {vs : List Value} {ys : List V} {js : List Nat}, mapQ (ownV σ d) cs = some (ys, js) → RL ρ pin cs vs → ∃ os, BL pin2 w ys vs os ∧ Rows ρ σ js os.flatten ∧ ys.length = cs.length ∧ ((∀ v ∈ cs, v.one = true) → ∀ y ∈ ys, y.bone = true) := by
      intro cs
      induction cs with
      | nil =>
        intro vs ys js hm hl
        simp only [mapQ, Option.some.injEq, Prod.mk.injEq] at hm
        obtain ⟨rfl, rfl⟩ := hm
        cases vs with
        | nil => exact ⟨[], BL.nil, .nil, rfl, by simp⟩
        | cons _ _ => have := hl.len; simp at this
      | cons v cs ih =>
        intro vs ys js hm hl
        simp only [mapQ, Option.bind_eq_some_iff] at hm
        obtain ⟨⟨y, i1⟩, hy, ⟨ys', j1⟩, hys, hm⟩ := hm
        simp only [Option.some.injEq, Prod.mk.injEq] at hm
        obtain ⟨rfl, rfl⟩ := hm
        cases vs with
        | nil => have := hl.len; simp at this
        | cons c vs =>
          obtain ⟨l1, l2⟩ := hl.inv
          obtain ⟨o, b1, b2⟩ := own_sound hS hp d hy l1
          obtain ⟨os, c1, c2, c3, c4⟩ := ih hys l2
          refine ⟨o :: os, BL.cons b1 c1, by simpa using b2.append c2, by simp [c3], fun h1 y' hy' => ?_⟩
          rcases List.mem_cons.1 hy' with rfl | hy'
          · rw [own_bone σ d hy]
            have := h1 v (by simp)
            cases v <;> first | rfl | (simp [V.one] at this; done)
          · exact c4 (fun v hv => h1 v (List.mem_cons_of_mem _ hv)) y' hy'
    have flat : ∀ {x : V}, NoRef x → R ρ pin x c → ∃ os, B pin2 w x c os ∧ Rows ρ σ [] os := fun hn hr => ⟨[], .ofR hn (hr.mono (RExt.refl _) hp), .nil⟩
    cases v with
    | int k n => simp only [ownV, Option.some.injEq, Prod.mk.injEq] at h; obtain ⟨rfl, rfl⟩ := h; exact flat (.int _ _) hR
    | bool b => simp only [ownV, Option.some.injEq, Prod.mk.injEq] at h; obtain ⟨rfl, rfl⟩ := h; exact flat (.bool _) hR
    | str s => simp only [ownV, Option.some.injEq, Prod.mk.injEq] at h; obtain ⟨rfl, rfl⟩ := h; exact flat (.str _) hR
    | nilp => simp only [ownV, Option.some.injEq, Prod.mk.injEq] at h; obtain ⟨rfl, rfl⟩ := h; exact flat .nilp hR
    | nilfn => simp only [ownV, Option.some.injEq, Prod.mk.injEq] at h; obtain ⟨rfl, rfl⟩ := h; exact flat .nilfn hR
    | sl k n cs => simp only [ownV, Option.some.injEq, Prod.mk.injEq] at h; obtain ⟨rfl, rfl⟩ := h; exact flat (.sl _ _ _) hR
    | pt cs o => simp only [ownV, Option.some.injEq, Prod.mk.injEq] at h; obtain ⟨rfl, rfl⟩ := h; exact flat (.pt _ _) hR
    | opt cs => simp [ownV] at h
    | osl e n cs => simp [ownV] at h
    | omp es => simp [ownV] at h
    | mcell es => simp [ownV] at h
    | nilm => simp only [ownV, Option.some.injEq, Prod.mk.injEq] at h; obtain ⟨rfl, rfl⟩ := h; exact flat .nilm hR
    | itm => simp [ownV] at h
    | mth => simp [ownV] at h
    | junk => simp only [ownV, Option.some.injEq, Prod.mk.injEq] at h; obtain ⟨rfl, rfl⟩ := h; exact flat .junk hR
    | rmp es => simp only [ownV, Option.some.injEq, Prod.mk.injEq] at h; obtain ⟨rfl, rfl⟩ := h; exact flat (.rmp _) hR
    | mp id g =>
      simp only [ownV] at h
      cases hR with
      | mp _ _ e he hm =>
        split at h
        case isFalse => cases h
        rename_i hc
        obtain ⟨q1, q2⟩ := hc
        obtain ⟨e', he', L⟩ := hS.live id q2
        rw [q1, he] at he'
        cases he'
        obtain ⟨es, arr, clock, k1, k2, k3, k4⟩ := L.ents hm
        rw [k1] at h
        simp only at h
        split at h
        · rename_i hrw
          simp only [Option.some.injEq, Prod.mk.injEq] at h
          obtain ⟨rfl, rfl⟩ := h
          exact ⟨[e.b], .omp es e.b arr clock k2 k3, .cons ⟨hrw, e, by rw [q1]; exact he, rfl⟩ .nil⟩
        · rename_i hrw
          simp only [Option.some.injEq, Prod.mk.injEq] at h
          obtain ⟨rfl, rfl⟩ := h
          have hfz : (σ id).st = .fz := by
            rcases hs : (σ id).st with _ | _ | _
            · exact absurd hs q2
            · exact absurd hs hrw
            · rfl
          exact ⟨[], .ofR (.rmp _) (ρ := ρ) (.rmp es e.b arr clock (hp _ _ (k4 hfz)) k3), .nil⟩
    | agg cs =>
      simp only [ownV, Option.map_eq_some_iff] at h
      obtain ⟨⟨ys, js⟩, hm, h⟩ := h
      simp only [Prod.mk.injEq] at h
      obtain ⟨rfl, rfl⟩ := h
      cases hR with
      | agg _ arr hl h1 hh =>
        obtain ⟨os, c1, c2, c3, c4⟩ := list hm (RL.ofArr hl hh)
        exact ⟨os.flatten, .agg ys arr os (by simpa using c1.len) c1.olen (c4 h1) (fun j v c o hv hc ho => c1.at_ j v c o hv (by simpa using hc) ho), c2⟩
    | tup cs =>
      simp only [ownV, Option.map_eq_some_iff] at h
      obtain ⟨⟨ys, js⟩, hm, h⟩ := h
      simp only [Prod.mk.injEq] at h
      obtain ⟨rfl, rfl⟩ := h
      cases hR with
      | tup _ arr hl hh =>
        obtain ⟨os, c1, c2, c3, c4⟩ := list hm (RL.ofArr hl hh)
        exact ⟨os.flatten, .tup ys arr os (by simpa using c1.len) c1.olen (fun j v c o hv hc ho => c1.at_ j v c o hv (by simpa using hc) ho), c2⟩
    | fn f cs =>
      simp only [ownV, Option.map_eq_some_iff] at h
      obtain ⟨⟨ys, js⟩, hm, h⟩ := h
      simp only [Prod.mk.injEq] at h
      obtain ⟨rfl, rfl⟩ := h
      cases hR with
      | fn _ _ arr hl hh =>
        obtain ⟨os, c1, c2, c3, c4⟩ := list hm (RL.ofArr hl hh)
        exact ⟨os.flatten, .fn f ys arr os (by simpa using c1.len) c1.olen (fun j v c o hv hc ho => c1.at_ j v c o hv (by simpa using hc) ho), c2⟩
    | sli id g off n esz =>
      simp only [ownV] at h
      cases hR with
      | sli _ _ _ _ _ cap e adr he hm hn hcap hlen =>
        split at h
        · rename_i hc
          obtain ⟨q1, q2, q3, q4⟩ := hc
          simp only [Option.some.injEq, Prod.mk.injEq] at h
          obtain ⟨rfl, rfl⟩ := h
          obtain ⟨arr, el, fz, r1, r2, r3, r4, r5, r6, r7, r8, r9⟩ := hS.rowOf q1 (by rw [q2]; decide) he hm
          have hcut := ((RL.ofRow r5 r6).drop off).take (n * esz)
          rw [drop_take_drop _ _ _ _ _ (by omega)] at hcut
          have hcl : (((σ id).cells.drop off).take (n * esz)).length = n * esz := by simp; omega
          have hle : n * esz ≤ cap * esz := Nat.mul_le_mul_right _ hn
          refine ⟨[e.b], .osl esz n cap _ adr e.b (e.base + off) arr el fz r1 r2 (by omega) hn (fun h0 => ⟨(hcap h0).1, by have := (hcap h0).2; omega⟩) (by omega)
            (fun v hv => ⟨r7 v (List.mem_of_mem_drop (List.mem_of_mem_take hv)), r8 q3 v (List.mem_of_mem_drop (List.mem_of_mem_take hv))⟩) (fun j v c hv hc => ?_), .cons ⟨q2, e, by rw [q1]; exact he, rfl⟩ .nil⟩
          refine ((hcut.at_ j v c hv ?_).mono (RExt.refl _) hp).noref (r8 q3 v (List.mem_of_mem_drop (List.mem_of_mem_take (List.mem_of_getElem? hv))))
          have hj : j < n * esz := by
            rw [← hcl]
            rcases Nat.lt_or_ge j (((σ id).cells.drop off).take (n * esz)).length with h' | h'
            · exact h'
            · rw [List.getElem?_eq_none h'] at hv; cases hv
          rw [List.getElem?_take, if_pos hj, List.getElem?_drop]
          simpa using hc
        · split at h
          · rename_i hc
            obtain ⟨q1, q2, q3, q4⟩ := hc
            simp only [Option.some.injEq, Prod.mk.injEq] at h
            obtain ⟨rfl, rfl⟩ := h
            have hro : roV σ 1 (.sli id g off n esz) = some (.sl .ro n (((σ id).cells.drop off).take (n * esz)), [id]) := by
              simp only [roV]
              rw [if_pos ⟨q1, by rw [q2]; decide, q4⟩, if_pos q3]
            obtain ⟨arr, el, fz, r1, r2, r3, r4, r5, r6, r7, r8, r9⟩ := hS.rowOf q1 (by rw [q2]; decide) he hm
            obtain ⟨k1, k2, _⟩ := roV_sound hS hp 1 hro (fun i hi e' he' => by
              simp at hi
              subst hi
              rw [q1, he] at he'
              cases he'
              exact ⟨_, r1, hp _ _ (r9 q2)⟩) (.sli id g off n esz cap e adr he hm hn hcap hlen)
            exact ⟨[], .ofR k2 k1, .nil⟩
          · cases h
    | ptr id g off =>
      simp only [ownV] at h
      cases hR with
      | ptr _ _ _ e he hmp =>
        split at h
        · rename_i hc
          obtain ⟨q1, q2, q3, rfl⟩ := hc
          simp only [Option.map_eq_some_iff] at h
          obtain ⟨⟨ys, js⟩, hm, h⟩ := h
          simp only [Prod.mk.injEq] at h
          obtain ⟨rfl, rfl⟩ := h
          obtain ⟨arr, el, fz, r1, r2, r3, r4, r5, r6, r7, r8, r9⟩ := hS.rowOf q1 (by rw [q2]; decide) he hmp
          obtain ⟨os, c1, c2, c3, c4⟩ := list hm (RL.ofRow r5 r6)
          refine ⟨e.b :: os.flatten, .opt ys e.b e.base arr el fz os r1 r2 (by omega) c1.olen (c4 r7) (fun j v c o hv hc ho => c1.at_ j v c o hv ?_ ho), .cons ⟨q2, e, by rw [q1]; exact he, rfl⟩ c2⟩
          have hj : j < (σ id).cells.length := by
            rw [← c3]
            rcases Nat.lt_or_ge j ys.length with h' | h'
            · exact h'
            · rw [List.getElem?_eq_none h'] at hv; cases hv
          rw [List.getElem?_take, if_pos hj, List.getElem?_drop]
          simpa using hc
        · split at h
          · rename_i hc
            obtain ⟨q1, q2, _⟩ := hc
            simp only [Option.bind_eq_some_iff] at h
            obtain ⟨⟨ys, js⟩, hm, h⟩ := h
            simp only at h
            split at h
            case isFalse => cases h
            rename_i hall
            simp only [Option.some.injEq, Prod.mk.injEq] at h
            obtain ⟨rfl, rfl⟩ := h
            obtain ⟨arr, el, fz, r1, r2, r3, r4, r5, r6, r7, r8, r9⟩ := hS.rowOf q1 (by rw [q2]; decide) he hmp
            have hpin : PinsAll ρ σ w pin2 js := fun i hi e' he' => by
              have hfz : (σ i).st = .fz := by simpa using List.all_eq_true.1 hall i hi
              obtain ⟨e2, he2, L2⟩ := hS.live i (by rw [hfz]; decide)
              rw [he'] at he2
              cases he2
              obtain ⟨_, s1, s9⟩ := L2.obj
              exact ⟨_, s1, hp _ _ (s9 hfz)⟩
            obtain ⟨l1, l2, l3, l4⟩ := roL_sound hS hp d hm hpin (RL.ofRow r5 r6)
            refine ⟨[], .ofR (.pt _ _) (ρ := ρ) (.pt ys off e.b e.base arr el fz (hp _ _ (r9 q2)) (by omega) (fun y hy => ⟨l3 r7 y hy, l2 y hy⟩) fun j y cc hy hcc => l1.at_ j y cc hy ?_), .nil⟩
            have hj : j < (σ id).cells.length := by
              rw [← l4]
              rcases Nat.lt_or_ge j ys.length with h' | h'
              · exact h'
              · rw [List.getElem?_eq_none h'] at hy; cases hy
            rw [List.getElem?_take, if_pos hj, List.getElem?_drop]
            simpa using hcc
          · cases h
end Go.Vm
