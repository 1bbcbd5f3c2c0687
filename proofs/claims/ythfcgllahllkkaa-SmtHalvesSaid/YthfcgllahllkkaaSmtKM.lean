/- Sparse trees: Prove as the machine takes it: shown by hand, upon the table of the other functions. -/
import Derived.Test.YthfcgllahllkkaaSmtIJ
import Derived.Test.YthfcgllahllkkaaSmtV
import Derived.Test.YthfcgllahllkkaaSmtT
import Derived.Test.YthfcgllahllkkaaVmLayer
set_option linter.unusedSectionVars false
set_option linter.unusedSimpArgs false
set_option linter.unusedVariables false
set_option maxHeartbeats 4000000
set_option maxRecDepth 10000
namespace Go.Vm
open Go.Proofs
/-- A tree that is read alone, as a tree. -/
def toT : Nat → V → Option SmtU.T
  | 0, _ => none
  | f + 1, v => match v with
    | .nilp => some .nil
    | .pt [a, b, l, .str h] 0 => match l with
      | .pt [.str p, .str v] 0 => some (.leaf (lb p) (lb v) (lb h))
      | .nilp => (toT f a).bind fun x => (toT f b).bind fun y => some (.node x y (lb h))
      | _ => none
    | _ => none
theorem pin_cells {pin : Pin} {w : World} (hp : ∀ b o, pin b = some o → w.heap[b]? = some o) {cs : List V} {off : Nat} {c : Value} (h : R noRen pin (.pt cs off) c) :
    ∃ b base, c = .pointer (some ⟨b, base + off, none⟩) ∧ b < w.heap.size ∧ ∀ j v, cs[j]? = some v → ∃ x, w.cell? ⟨b, base + j, none⟩ = some x ∧ R noRen pin v x := by
  cases h with
  | pt _ _ b base arr el fz hb hs h1 h =>
    have hw := hp _ _ hb
    refine ⟨b, base, rfl, (Array.getElem?_eq_some_iff.1 hw).1, fun j v hj => ?_⟩
    have hlt : base + j < arr.size := by have := (List.getElem?_eq_some_iff.1 hj).1; omega
    refine ⟨arr[base + j], ?_, h j v _ hj (Array.getElem?_eq_getElem hlt)⟩
    unfold World.cell?
    simp only [hw]
    exact Array.getElem?_eq_getElem hlt
theorem r_str {pin : Pin} {l : List UInt8} {x : Value} (h : R noRen pin (.str l) x) : x = .string (lb l) := by cases h; rfl
theorem r_nilp {pin : Pin} {x : Value} (h : R noRen pin .nilp x) : x = .pointer none := by cases h; rfl
theorem toT_at {pin : Pin} {w : World} (hp : ∀ b o, pin b = some o → w.heap[b]? = some o) : ∀ (f : Nat) (v : V) (c : Value) (t : SmtU.T), toT f v = some t → R noRen pin v c → t.At w c := by
  intro f
  induction f with
  | zero => intro v c t h; cases h
  | succ f ih =>
    intro v c t h hr
    unfold toT at h
    split at h
    · cases h
      exact r_nilp hr
    · rename_i a b l hh
      obtain ⟨k, base, rfl, hk, hc⟩ := pin_cells hp hr
      obtain ⟨xa, ca, ra⟩ := hc 0 _ rfl
      obtain ⟨xb, cb, rb⟩ := hc 1 _ rfl
      obtain ⟨xl, cl, rl⟩ := hc 2 _ rfl
      obtain ⟨xh, chh, rh⟩ := hc 3 _ rfl
      obtain rfl := r_str rh
      split at h
      · cases h
        obtain ⟨k2, base2, rfl, hk2, hc2⟩ := pin_cells hp rl
        obtain ⟨x0, c0, r0⟩ := hc2 0 _ rfl
        obtain ⟨x1, c1, r1⟩ := hc2 1 _ rfl
        obtain rfl := r_str r0
        obtain rfl := r_str r1
        exact ⟨k, base, k2, base2, rfl, hk, hk2, cl, c0, c1, chh⟩
      · obtain ⟨x, hx, h⟩ := Option.bind_eq_some_iff.1 h
        obtain ⟨y, hy, h⟩ := Option.bind_eq_some_iff.1 h
        cases h
        obtain rfl := r_nilp rl
        exact ⟨k, base, xa, xb, rfl, hk, ca, cb, cl, chh, ih a xa x hx ra, ih b xb y hy rb⟩
      · cases h
    · cases h
/-- What Prove answers. -/
def proveV (r : SmtU.T × List ByteArray) : Option (V × List V) :=
  match r with
  | (.leaf p v _, s :: l) => some (.agg [.osl 1 (l.length + 1) ((s :: l).map fun x => .str (bl x)), .bool true, .str (bl p), .str (bl v)], [])
  | _ => none
def proveG (xs : List V) : Option (V × List V) :=
  match xs with
  | [.pt [root, .int .i64 n] 0, .str key] => if key.length ≤ 1000000 then (toT 300 root).bind fun t => proveV (SmtU.run (SmtW.bitV (lb (pathS key))) t (List.range 256)) else none
  | _ => none
open Go.RowKit in
theorem bitV_pbit (s : List UInt8) (hs : s.length = 32) (k : Nat) (hk : k < 256) : SmtW.bitV (lb s) k = (pbit s k : Int) := by
  have hl : k / 8 < (lb s).size := by show k / 8 < s.toArray.size; simp; omega
  unfold SmtW.bitV
  rw [dif_pos hl]
  have e : (lb s)[k / 8]'hl = gt s (k / 8) := by
    rw [gt_eq (by omega)]
    rfl
  have : ∀ (x : Fin 256) (j : Fin 8), bits .and .i64 (wrap64 ((x.val : Int) / 2 ^ (7 - j.val))) 1 = (((UInt8.ofNat x.val >>> UInt8.ofNat (7 - j.val)).toNat % 2 : Nat) : Int) := by decide +kernel
  have h := this ⟨(gt s (k / 8)).toNat, UInt8.toNat_lt _⟩ ⟨k % 8, by omega⟩
  rw [e]
  simp only [UInt8.ofNat_toNat] at h
  exact h
end Go.Vm
namespace Go.Vm.Ythfcgllahllkkaa
open Go.Proofs
theorem empty_con : SmtY.Con 18 #[] (.string SmtU.z32) := fun w => con_of Empty_ok rfl rfl w noPin noPin_ok ⟨[], .nil, rfl⟩ rstr
theorem prove_good : Good Try.prog 19 ⟨[.bor, .bor], proveG, none⟩ := by
  refine ⟨(T_ok 19 _ (tabW_ent at19)).1.1, ?_⟩
  intro w pin xs vals os r ios hG hB hnd hfree hpin hl
  unfold proveG at hG
  simp only at hG
  split at hG
  rotate_left
  · cases hG
  rename_i root n key
  split at hG
  rotate_left
  · cases hG
  rename_i hk
  obtain ⟨t, ht, hG⟩ := Option.bind_eq_some_iff.1 hG
  unfold proveV at hG
  split at hG
  rotate_left
  · cases hG
  rename_i p v h s l hrun
  cases hG
  obtain ⟨c1, vals1, o1, os1, hvl1, ho1, hB1, hB⟩ := hB.inv
  obtain ⟨c2, vals2, o2, os2, hvl2, ho2, hB2, hB⟩ := hB.inv
  have hv0 : vals2 = [] := List.length_eq_zero_iff.1 (by simpa using hB.len.symm)
  obtain rfl := rstr _ _ _ _ hB2
  subst hv0
  subst hvl2
  subst hvl1
  have hr : R noRen pin (.pt [root, .int .i64 n] 0) c1 := by cases hB1 with | flat _ _ _ hr => exact hr
  obtain ⟨b, base, rfl, hb, hc⟩ := pin_cells hpin hr
  obtain ⟨xr, cr, rr⟩ := hc 0 _ rfl
  have hA := toT_at hpin 300 root xr t ht rr
  obtain ⟨x0, rfl⟩ := hA.ptr
  refine (SmtT.prove_in t p v h (s :: l) (lb key) (lb (pathS key)) (by show (pathS key).toArray.size = 32; simp [pathS_len]) (path_con key hk) (SmtT.hash_in empty_con) hrun b base x0 w cr hb hA).mono ?_
  rintro e W' ⟨sv, rfl, hown, hbel⟩
  obtain ⟨g, cap, rfl⟩ := ownsRow_succ hown
  obtain ⟨hlen, hrow⟩ := hown
  rcases hrow with ⟨h0, _⟩ | ⟨g', cap', cur, e, hg, hgb, hcap, hmax, hsz, htk⟩
  · cases h0
  cases e
  have lt : ∀ {b : Nat} {x : Obj}, w.heap[b]? = some x → b < w.heap.size := fun hx => (Array.getElem?_eq_some_iff.1 hx).1
  have png : pin g = none := by
    cases hp : pin g with
    | none => rfl
    | some o =>
      have := lt (hpin _ _ hp)
      omega
  have hcell : ∀ (j : Nat) (x : V) (c : Value), ((s :: l).map fun x => V.str (bl x))[j]? = some x → cur[0 + j]? = some c → R noRen pin x c := by
    intro j x c h1 h2
    rw [Nat.zero_add] at h2
    rw [List.getElem?_map] at h1
    obtain ⟨y, hy, rfl⟩ := Option.map_eq_some_iff.1 h1
    have hjl : j < (s :: l).length := (List.getElem?_eq_some_iff.1 hy).1
    have : ((s :: l).map Value.string)[j]? = some c := by
      rw [← htk, List.getElem?_take_of_lt (by simp only [Nat.mul_one]; exact hjl)]
      simpa using h2
    rw [List.getElem?_map, hy] at this
    cases this
    rw [show Value.string y = .string (lb (bl y)) by rw [lb_bl]]
    exact .str _
  refine ⟨_, pin, [g], [], rfl, PExt.refl _, fun b' x hb' => ?_, fun b' x hb' => .inl hb', ⟨hbel.os, hbel.tape, hbel.output, hbel.size, fun k hk _ => hbel.block k hk, fun b' arr el fz hb' => ⟨arr, el, fz, (hbel.block b' (lt hb')).trans hb', Nat.le_refl _⟩⟩, ?_, BL.nil, by simp, ?_⟩
  · rw [hbel.block b' (lt (hpin b' x hb'))]
    exact hpin b' x hb'
  · have := B.agg (pin := pin) (w := W') [.osl 1 (l.length + 1) ((s :: l).map fun x => .str (bl x)), .bool true, .str (bl p), .str (bl v)] #[.slice (some ⟨g, 0, none⟩) (l.length + 1) cap, .bool true, .string p, .string v] [[g], [], [], []] rfl rfl
      (by intro v hv; simp only [List.mem_cons, List.not_mem_nil, or_false] at hv; rcases hv with rfl | rfl | rfl | rfl <;> rfl)
      (by
        intro j v c o h1 h2 h3
        match j with
        | 0 =>
          cases h1; cases h2; cases h3
          refine .osl 1 (l.length + 1) cap _ ⟨g, 0, none⟩ g 0 cur 9 (0, 0) hgb (.inl (Nat.le_refl _)) ?_ hcap (fun _ => ⟨rfl, by omega⟩) ?_ ?_ hcell
          · simp only [List.length_map, List.length_cons, Nat.zero_add]
            simp only [List.length_cons] at hcap
            omega
          · simp only [List.length_map, List.length_cons]
            simp only [List.length_cons] at hcap
            omega
          · intro v hv
            obtain ⟨y, _, rfl⟩ := List.mem_map.1 hv
            exact ⟨rfl, .str _⟩
        | 1 => cases h1; cases h2; cases h3; exact bbool _
        | 2 => cases h1; cases h2; cases h3; exact bstr _
        | 3 => cases h1; cases h2; cases h3; exact bstr _
        | j + 4 => simp at h1)
    simpa using this
  · intro b' hb'
    simp only [List.flatten_nil, List.append_nil, List.mem_singleton] at hb'
    subst hb'
    exact ⟨png, .inr hg⟩
end Go.Vm.Ythfcgllahllkkaa
/- Sparse trees: the second table, with Prove and awake; Prove of two leaves. -/
namespace Go.Vm
open Go.Proofs
def chT (p v q v2 : List UInt8) : Nat → Nat → SmtU.T
  | 0, a => if pbit p a = 0 then .node (.leaf (lb p) (lb v) (lb (leafS p v))) (.leaf (lb q) (lb v2) (lb (leafS q v2))) (lb (chH p v q v2 0 a)) else .node (.leaf (lb q) (lb v2) (lb (leafS q v2))) (.leaf (lb p) (lb v) (lb (leafS p v))) (lb (chH p v q v2 0 a))
  | m + 1, a => if pbit p a = 0 then .node (chT p v q v2 m (a + 1)) .nil (lb (chH p v q v2 (m + 1) a)) else .node .nil (chT p v q v2 m (a + 1)) (lb (chH p v q v2 (m + 1) a))
theorem toT_ch (p v q v2 : List UInt8) : ∀ (m a f : Nat), m + 2 ≤ f → toT f (.pt (chC p v q v2 m a) 0) = some (chT p v q v2 m a) := by
  intro m
  induction m with
  | zero =>
    intro a f hf
    obtain ⟨g, rfl⟩ : ∃ g, f = g + 2 := ⟨f - 2, by omega⟩
    simp only [chC, chT]
    split <;> simp [toT, nodeR]
  | succ m ih =>
    intro a f hf
    obtain ⟨g, rfl⟩ : ∃ g, f = g + 1 := ⟨f - 1, by omega⟩
    have h := ih (a + 1) g (by omega)
    have hn : toT g .nilp = some .nil := by
      obtain ⟨k, rfl⟩ : ∃ k, g = k + 1 := ⟨g - 1, by omega⟩
      rfl
    simp only [chC, chT]
    split <;> simp [toT, h, hn]
theorem run_ch (p v q v2 : List UInt8) (b : Nat → Int) : ∀ (m a n : Nat) (l0 : List ByteArray), m + 1 ≤ n → (∀ j, a ≤ j → j < a + m → b j = (pbit p j : Int)) →
    ∃ p' v' h' l, (List.range' a n).foldl (SmtU.step b) (chT p v q v2 m a, l0) = (.leaf p' v' h', l0 ++ l) ∧ l.length = m + 1 := by
  intro m
  induction m with
  | zero =>
    intro a n l0 hn hb
    obtain ⟨k, rfl⟩ : ∃ k, n = k + 1 := ⟨n - 1, by omega⟩
    rw [List.range'_succ, List.foldl_cons]
    have fx : ∀ (p v h : ByteArray) (l : List ByteArray) (r : List Nat), r.foldl (SmtU.step b) (.leaf p v h, l) = (.leaf p v h, l) := fun p v h l r => SmtT.run_fix (by intro x y h e; cases e) r
    have hst : ∃ p' v' h' s, SmtU.step b (chT p v q v2 0 a, l0) a = (.leaf p' v' h', l0 ++ [s]) := by
      rcases pbit_cases p a with e | e <;> by_cases h0 : b a = 0
      · exact ⟨lb p, lb v, lb (leafS p v), lb (leafS q v2), by simp [chT, e, SmtU.step, h0, SmtU.T.hash]⟩
      · exact ⟨lb q, lb v2, lb (leafS q v2), lb (leafS p v), by simp [chT, e, SmtU.step, h0, SmtU.T.hash]⟩
      · exact ⟨lb q, lb v2, lb (leafS q v2), lb (leafS p v), by simp [chT, e, SmtU.step, h0, SmtU.T.hash]⟩
      · exact ⟨lb p, lb v, lb (leafS p v), lb (leafS q v2), by simp [chT, e, SmtU.step, h0, SmtU.T.hash]⟩
    obtain ⟨p', v', h', s, hs⟩ := hst
    rw [hs, fx]
    exact ⟨_, _, _, [s], rfl, rfl⟩
  | succ m ih =>
    intro a n l0 hn hb
    obtain ⟨k, rfl⟩ : ∃ k, n = k + 1 := ⟨n - 1, by omega⟩
    rw [List.range'_succ, List.foldl_cons]
    have hba := hb a (Nat.le_refl _) (by omega)
    have hst : ∃ s, SmtU.step b (chT p v q v2 (m + 1) a, l0) a = (chT p v q v2 m (a + 1), l0 ++ [s]) := by
      rcases pbit_cases p a with e | e
      · refine ⟨SmtU.T.nil.hash, ?_⟩
        simp [chT, e, SmtU.step, hba]
      · refine ⟨SmtU.T.nil.hash, ?_⟩
        simp [chT, e, SmtU.step, hba]
    obtain ⟨s, hs⟩ := hst
    rw [hs]
    obtain ⟨p', v', h', l, h1, h2⟩ := ih (a + 1) k (l0 ++ [s]) (by omega) (fun j h1 h2 => hb j (by omega) (by omega))
    rw [h1]
    exact ⟨p', v', h', s :: l, by simp, by simp [h2]⟩
theorem proveG_ch (p v q v2 k : List UInt8) (n : Int) (m : Nat) (hm : m < 256) (hk : k.length ≤ 1000000) (hs : ∀ j, j < m → pbit (pathS k) j = pbit p j) :
    ∃ (L : List (List UInt8)) (a b : List UInt8), L.length = m + 1 ∧ proveG [.pt [.pt (chC p v q v2 m 0) 0, .int .i64 n] 0, .str k] = some (.agg [.osl 1 (m + 1) (L.map V.str), .bool true, .str a, .str b], []) := by
  obtain ⟨p', v', h', l, h1, h2⟩ := run_ch p v q v2 (SmtW.bitV (lb (pathS k))) m 0 256 [] (by omega) (fun j _ hj => by rw [bitV_pbit _ (pathS_len k) j (by omega), hs j (by omega)])
  rw [← List.range_eq_range', List.nil_append] at h1
  cases l with
  | nil => simp at h2
  | cons s l =>
    simp only [List.length_cons] at h2
    refine ⟨(s :: l).map bl, bl p', bl v', by simp [h2], ?_⟩
    unfold proveG
    simp only [hk, if_true]
    rw [toT_ch p v q v2 m 0 300 (by omega), Option.bind_some]
    unfold SmtU.run
    rw [h1]
    simp only [proveV, List.map_map]
    rw [h2]
    rfl
end Go.Vm
namespace Go.Vm.Ythfcgllahllkkaa
open Go.Proofs
variable {σ : Store} {base : Nat}
def awakeG (xs : List V) : Option (V × List V) := if xs.isEmpty then some (.bool true, []) else none
theorem awake_good : Good Try.prog 7 ⟨[], awakeG, none⟩ := by
  refine ⟨(T_ok 7 _ (tabW_ent at7)).1.1, ?_⟩
  intro w pin xs vals os r ios hG hB hnd hfree hpin hl
  obtain rfl : xs = [] := List.length_eq_zero_iff.1 hl
  cases hG
  obtain rfl : vals = [] := List.length_eq_zero_iff.1 (by simpa using hB.len.symm)
  refine (awake_con w).mono ?_
  rintro e W' ⟨rfl, hb⟩
  exact after_flat hb hpin (bbool _) rfl
def top : Fns := fun f => if f = 4 then fns 4 else if f = 7 then some (some [], handF [] awakeG) else if f = 19 then some (some [.bor, .bor], handF [.bor, .bor] proveG) else none
noncomputable def fns2 : Fns := layer fns top
theorem top_ok : ∀ f p, top f = some p → FnOk Try.prog f p.2 := by
  intro f p h
  unfold top at h
  split at h
  · rename_i e
    subst e
    exact fns_ok _ _ h
  · split at h
    · rename_i e
      subst e
      cases h
      exact .inr ⟨_, _, rfl, awake_good⟩
    · split at h
      · rename_i e
        subst e
        cases h
        exact .inr ⟨_, _, rfl, prove_good⟩
      · cases h
theorem T2_ok : TblOk Try.prog (tabW fns2) := tabW_ok mixed (layer_ok T_ok top_ok)
@[go_sem] theorem l2call5 (vs : List V) : callV (tabW fns2) σ base 5 vs = callP σ base [.bor] vs (Gf fns 5) (passV σ [.bor] vs) := layer_call rfl at5 vs
@[go_sem] theorem l2callr5 (vs : List V) : callR (tabW fns2) σ base 5 vs = outS σ (callP σ base [.bor] vs (Gf fns 5) (passV σ [.bor] vs)) := layer_callr rfl at5 vs
@[go_sem] theorem l2call6 (vs : List V) : callV (tabW fns2) σ base 6 vs = callP σ base [.bor, .bor] vs (Gf fns 6) (passV σ [.bor, .bor] vs) := layer_call rfl at6 vs
@[go_sem] theorem l2callr6 (vs : List V) : callR (tabW fns2) σ base 6 vs = outS σ (callP σ base [.bor, .bor] vs (Gf fns 6) (passV σ [.bor, .bor] vs)) := layer_callr rfl at6 vs
@[go_sem] theorem l2call10 (vs : List V) : callV (tabW fns2) σ base 10 vs = callP σ base [.bor] vs (Gf fns 10) (passV σ [.bor] vs) := layer_call rfl at10 vs
@[go_sem] theorem l2callr10 (vs : List V) : callR (tabW fns2) σ base 10 vs = outS σ (callP σ base [.bor] vs (Gf fns 10) (passV σ [.bor] vs)) := layer_callr rfl at10 vs
@[go_sem] theorem l2call11 (vs : List V) : callV (tabW fns2) σ base 11 vs = callP σ base [.bor] vs (Gf fns 11) (passV σ [.bor] vs) := layer_call rfl at11 vs
@[go_sem] theorem l2callr11 (vs : List V) : callR (tabW fns2) σ base 11 vs = outS σ (callP σ base [.bor] vs (Gf fns 11) (passV σ [.bor] vs)) := layer_callr rfl at11 vs
@[go_sem] theorem l2call12 (vs : List V) : callV (tabW fns2) σ base 12 vs = callP σ base [.bor, .bor] vs (Gf fns 12) (passV σ [.bor, .bor] vs) := layer_call rfl at12 vs
@[go_sem] theorem l2callr12 (vs : List V) : callR (tabW fns2) σ base 12 vs = outS σ (callP σ base [.bor, .bor] vs (Gf fns 12) (passV σ [.bor, .bor] vs)) := layer_callr rfl at12 vs
@[go_sem] theorem l2call14 (vs : List V) : callV (tabW fns2) σ base 14 vs = callP σ base [] vs (Gf fns 14) (passV σ [] vs) := layer_call rfl at14 vs
@[go_sem] theorem l2callr14 (vs : List V) : callR (tabW fns2) σ base 14 vs = outS σ (callP σ base [] vs (Gf fns 14) (passV σ [] vs)) := layer_callr rfl at14 vs
theorem l2call15 (vs : List V) : callV (tabW fns2) σ base 15 vs = callP σ base [.io, .bor, .bor] vs (Gf fns 15) (passV σ [.io, .bor, .bor] vs) := layer_call rfl at15 vs
theorem l2callr15 (vs : List V) : callR (tabW fns2) σ base 15 vs = outS σ (callP σ base [.io, .bor, .bor] vs (Gf fns 15) (passV σ [.io, .bor, .bor] vs)) := layer_callr rfl at15 vs
@[go_sem] theorem l2call16 (vs : List V) : callV (tabW fns2) σ base 16 vs = callP σ base [.bor] vs (Gf fns 16) (passV σ [.bor] vs) := layer_call rfl at16 vs
@[go_sem] theorem l2callr16 (vs : List V) : callR (tabW fns2) σ base 16 vs = outS σ (callP σ base [.bor] vs (Gf fns 16) (passV σ [.bor] vs)) := layer_callr rfl at16 vs
@[go_sem] theorem l2call17 (vs : List V) : callV (tabW fns2) σ base 17 vs = callP σ base [.bor, .bor] vs (Gf fns 17) (passV σ [.bor, .bor] vs) := layer_call rfl at17 vs
@[go_sem] theorem l2callr17 (vs : List V) : callR (tabW fns2) σ base 17 vs = outS σ (callP σ base [.bor, .bor] vs (Gf fns 17) (passV σ [.bor, .bor] vs)) := layer_callr rfl at17 vs
@[go_sem] theorem l2call18 (vs : List V) : callV (tabW fns2) σ base 18 vs = callP σ base [] vs (Gf fns 18) (passV σ [] vs) := layer_call rfl at18 vs
@[go_sem] theorem l2callr18 (vs : List V) : callR (tabW fns2) σ base 18 vs = outS σ (callP σ base [] vs (Gf fns 18) (passV σ [] vs)) := layer_callr rfl at18 vs
@[go_sem] theorem l2call7 (vs : List V) : callV (tabW fns2) σ base 7 vs = callP σ base [] vs awakeG (passV σ [] vs) := layer_callH rfl vs
@[go_sem] theorem l2callr7 (vs : List V) : callR (tabW fns2) σ base 7 vs = outS σ (callP σ base [] vs awakeG (passV σ [] vs)) := layer_callHr rfl vs
@[go_sem] theorem l2call19 (vs : List V) : callV (tabW fns2) σ base 19 vs = callP σ base [.bor, .bor] vs proveG (passV σ [.bor, .bor] vs) := layer_callH rfl vs
@[go_sem] theorem l2callr19 (vs : List V) : callR (tabW fns2) σ base 19 vs = outS σ (callP σ base [.bor, .bor] vs proveG (passV σ [.bor, .bor] vs)) := layer_callHr rfl vs
end Go.Vm.Ythfcgllahllkkaa
