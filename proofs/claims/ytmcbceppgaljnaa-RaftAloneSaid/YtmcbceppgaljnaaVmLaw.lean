/- A law's arguments as the machine over values has them, by their types; and the law. -/
import Derived.Test.YtmcbceppgaljnaaVmDraw
import Derived.ChangeArms
import Derived.OpenShut
import Derived.ChangeBears
import Derived.SizedLaws
import Derived.WideShapes
import Derived.Carry
import Derived.ChangeOld
set_option linter.unusedSectionVars false
set_option linter.unusedSimpArgs false
set_option linter.unusedVariables false
namespace Go.Vm
variable {P : Program}

/-- Types that are read by value. -/
def plainT (P : Program) : Nat → TypeId → Bool
  | 0, _ => false
  | d + 1, t => decide (t < P.types.size) && match P.underlying t with
    | some .bool | some (.int _) | some .string => true
    | some (.slice e) | some (.pointer e) => plainT P d e && P.cellsOf e != 0
    | some (.struct fs) => fs.toList.all fun f => plainT P d f.type
    | some (.array _ e) => plainT P d e
    | _ => false

/-- Cells of a type. -/
def Fits (P : Program) : Nat → TypeId → List V → Prop
  | 0, _, _ => False
  | d + 1, t, vs => match P.underlying t with
    | some .bool => ∃ b, vs = [.bool b]
    | some (.int k) => ∃ n, vs = [.int k n] ∧ (Lit.int k n).wf = true
    | some .string => ∃ s, vs = [.str s] ∧ s.length ≤ reachBytes
    | some (.slice e) => vs = [.sl .nil 0 []] ∨ ∃ rows : List (List V), vs = [.sl .ro rows.length rows.flatten] ∧ rows.length * P.bytesOf e ≤ reachBytes ∧ ∀ r ∈ rows, r.length = P.cellsOf e ∧ Fits P d e r
    | some (.pointer e) => vs = [.nilp] ∨ ∃ cs, vs = [.pt cs 0] ∧ cs.length = P.cellsOf e ∧ Fits P d e cs
    | some (.struct fs) => (fs.toList.map (·.type)).foldr (fun t K vs => ∃ a b, vs = a ++ b ∧ Fits P d t a ∧ K b) (fun vs => vs = []) vs
    | some (.array n e) => ∃ rows : List (List V), vs = rows.flatten ∧ rows.length = n ∧ ∀ r ∈ rows, r.length = P.cellsOf e ∧ Fits P d e r
    | _ => False

theorem choose_rows {α : Type} {p : Nat → α → Prop} : ∀ (n : Nat), (∀ i, i < n → ∃ x, p i x) → ∃ l : List α, l.length = n ∧ ∀ i x, l[i]? = some x → p i x
  | 0, _ => ⟨[], rfl, fun i x h => by simp at h⟩
  | n + 1, h => by
    obtain ⟨l, h1, h2⟩ := choose_rows n fun i hi => h i (by omega)
    obtain ⟨x, hx⟩ := h n (by omega)
    refine ⟨l ++ [x], by simp [h1], fun i y hy => ?_⟩
    rcases Nat.lt_trichotomy i n with hi | hi | hi
    · rw [List.getElem?_append_left (by omega)] at hy; exact h2 i y hy
    · subst hi
      rw [List.getElem?_append_right (by omega)] at hy
      simp [h1] at hy
      subst hy
      exact hx
    · rw [List.getElem?_append_right (by omega), List.getElem?_eq_none (by simp; omega)] at hy
      cases hy

theorem flatten_len {α : Type} {c : Nat} : ∀ {rows : List (List α)}, (∀ r ∈ rows, r.length = c) → rows.flatten.length = rows.length * c
  | [], _ => by simp
  | r :: rows, h => by
    rw [List.flatten_cons, List.length_append, h r (by simp), flatten_len fun x hx => h x (List.mem_cons_of_mem _ hx), List.length_cons, Nat.add_mul]
    omega
theorem flatten_at {α : Type} {c : Nat} : ∀ {rows : List (List α)}, (∀ r ∈ rows, r.length = c) → ∀ {j : Nat} {v : α}, rows.flatten[j]? = some v → ∃ r, rows[j / c]? = some r ∧ r[j % c]? = some v
  | [], _, j, v, h => by simp at h
  | r :: rows, h, j, v, hv => by
    have hr := h r (by simp)
    rw [List.flatten_cons] at hv
    rcases Nat.lt_or_ge j c with hj | hj
    · rw [List.getElem?_append_left (by omega)] at hv
      rw [Nat.div_eq_of_lt hj, Nat.mod_eq_of_lt hj]
      exact ⟨r, rfl, hv⟩
    · rw [List.getElem?_append_right (by omega), hr] at hv
      obtain ⟨r', h1, h2⟩ := flatten_at (fun x hx => h x (List.mem_cons_of_mem _ hx)) hv
      have hc : 0 < c := by
        rcases Nat.eq_zero_or_pos c with h0 | h0
        · subst h0
          have := flatten_len (fun x hx => h x (List.mem_cons_of_mem _ hx))
          have h3 := (List.getElem?_eq_some_iff.1 hv).1
          omega
        · exact h0
      obtain ⟨k, rfl⟩ := Nat.exists_eq_add_of_le hj
      rw [Nat.add_sub_cancel_left] at h1 h2
      refine ⟨r', ?_, ?_⟩
      · rw [Nat.add_div_left _ hc]; simpa using h1
      · rw [Nat.add_mod_left]; exact h2

section
variable {H : Type} {enc : TypeId × Value → H} {w : World} {base : Nat} {spare : Nat → Bool} {held : Bool}

theorem cells_at {a : Addr} {n : Nat} {cs : List Value} (h : w.cells? base a n = some cs) : cs.length = n ∧ ∀ i c, cs[i]? = some c → w.cell? (a.add i) = some c := by
  unfold World.cells? at h
  rw [Option.ite_none_right_eq_some] at h
  refine ⟨by simpa using mapM_some_length h.2, fun i c hc => ?_⟩
  have hi : i < n := by
    have := (List.getElem?_eq_some_iff.1 hc).1
    have h2 : cs.length = n := by simpa using mapM_some_length h.2
    omega
  have := mapM_some_get h.2 i i (by simp [hi])
  rw [this, hc]

theorem weights_mem_all {P : Program} {e : TypeId} : ∀ {ds : List (DataW H)} {d : DataW H}, d ∈ ds → ∀ n ∈ d.weights P e, n ∈ DataW.weightsAll P e ds
  | d0 :: ds, d, hd, n, hn => by
    simp only [DataW.weightsAll, List.mem_append]
    rcases List.mem_cons.1 hd with rfl | hd
    · exact .inl hn
    · exact .inr (weights_mem_all hd n hn)

theorem cell_row {a : Addr} {c0 : Value} (h0 : w.cell? a = some c0) {j : Nat} {c : Value} (h : w.cell? (a.add j) = some c) : a.spot = none ∧ ∃ arr el fz, w.heap[a.block]? = some (.cells arr el fz) ∧ arr[a.off + j]? = some c := by
  have hs := World.cell?_spot h0
  have e : a.add j = ⟨a.block, a.off + j, none⟩ := by
    obtain ⟨b, o, s⟩ := a
    simp only at hs
    subst hs
    simp only [Addr.add]
    split
    · rename_i hj; subst hj; rfl
    · rfl
  rw [e] at h
  unfold World.cell? at h
  simp only at h
  split at h
  · rename_i arr el fz hh
    exact ⟨hs, arr, el, fz, hh, by simpa using h⟩
  · cases h
theorem add_add (a : Addr) (i j : Nat) : (a.add i).add j = a.add (i + j) := by
  simp only [Addr.add]
  by_cases hi : i = 0
  · subst hi; simp
  · by_cases hj : j = 0
    · subst hj; simp
    · rw [if_neg hi, if_neg hj, if_neg (by omega)]; simp; omega

/-- What stands for some cells. -/
structure Stands (P : Program) (w : World) (d : Nat) (t : TypeId) (cs : List Value) (vs : List V) : Prop where
  rl : RL noRen (fun b => w.heap[b]?) vs cs
  one : ∀ v ∈ vs, v.one = true ∧ NoRef v
  len : cs.length = P.cellsOf t
  fits : Fits P d t vs

theorem each_stands {d n : Nat} {cs : List Value} : ∀ (fs : List Field) (off : Nat) (xs : List (DataW H × List MemPlace)),
    cs.length = off + (fs.map fun f => P.cellsOf f.type).sum → (∀ (j : Nat) f, fs[j]? = some f → f.offset = off + ((fs.take j).map fun f => P.cellsOf f.type).sum) →
    (∀ (j : Nat) f, fs[j]? = some f → ∃ vs, Stands P w d f.type ((cs.drop f.offset).take (P.cellsOf f.type)) vs) →
    ∃ vs, RL noRen (fun b => w.heap[b]?) vs (cs.drop off) ∧ (∀ v ∈ vs, v.one = true ∧ NoRef v) ∧ (fs.map (·.type)).foldr (fun t K vs => ∃ a b, vs = a ++ b ∧ Fits P d t a ∧ K b) (fun vs => vs = []) vs
  | [], off, xs, hl, _, _ => by
    refine ⟨[], ?_, by simp, rfl⟩
    rw [List.drop_of_length_le (by simp at hl; omega)]
    exact RL.nil
  | f :: fs, off, xs, hl, ho, hs => by
    have h0 : f.offset = off := by simpa using ho 0 f rfl
    obtain ⟨vs1, s1⟩ := hs 0 f rfl
    rw [h0] at s1
    simp only [List.map_cons, List.sum_cons] at hl
    obtain ⟨vs2, r1, r2, r3⟩ := each_stands (d := d) (n := n) (cs := cs) fs (off + P.cellsOf f.type) xs (by omega) (fun j g hg => by
      have := ho (j + 1) g (by simpa using hg)
      simp only [List.take_succ_cons, List.map_cons, List.sum_cons] at this
      omega) (fun j g hg => hs (j + 1) g (by simpa using hg))
    refine ⟨vs1 ++ vs2, ?_, fun v hv => ?_, ?_⟩
    · have := s1.rl.append r1
      rwa [← List.drop_drop, List.take_append_drop] at this
    · rcases List.mem_append.1 hv with h | h
      · exact s1.one v h
      · exact r2 v h
    · exact ⟨vs1, vs2, rfl, s1.fits, r3⟩

/-- Rows, one behind another. -/
theorem rows_RL {c : Nat} {rows : List (List V)} {cs : List Value} (hl : cs.length = rows.length * c) (hr : ∀ i r, rows[i]? = some r → r.length = c ∧ RL noRen (fun b => w.heap[b]?) r ((cs.drop (i * c)).take c)) : RL noRen (fun b => w.heap[b]?) rows.flatten cs := by
  have hlen : ∀ r ∈ rows, r.length = c := fun r hr' => by
    obtain ⟨i, hi⟩ := List.mem_iff_getElem?.1 hr'
    exact (hr i r hi).1
  refine ⟨by rw [flatten_len hlen, hl], fun j v x hv hx => ?_⟩
  obtain ⟨r, h1, h2⟩ := flatten_at hlen hv
  refine (hr _ r h1).2.at_ _ v x h2 ?_
  have hc : j % c < c := by
    have := (List.getElem?_eq_some_iff.1 h2).1
    rw [(hr _ r h1).1] at this
    exact this
  rw [List.getElem?_take, if_pos hc, List.getElem?_drop]
  have : j / c * c + j % c = j := by rw [Nat.mul_comm]; exact Nat.div_add_mod j c
  rw [this]
  exact hx

theorem trod_stands (hl : laidOutB P = true) : ∀ (d : Nat) {fuel : Nat} {t : TypeId} {cs : List Value} {x : DataW H × List MemPlace}, plainT P d t = true → DataW.trod enc P w base spare held fuel t cs = some x →
    (∀ n ∈ x.1.weights P t, n ≤ reachBytes) → ∃ vs, Stands P w d t cs vs
  | 0, _, _, _, _, h, _, _ => by cases h
  | d + 1, fuel, t, cs, x, hp, h, hw => by
    simp only [plainT, Bool.and_eq_true, decide_eq_true_eq] at hp
    obtain ⟨ht, hp⟩ := hp
    have hrow := rowFine_of hl ht
    split at hp
    · rename_i hu
      obtain ⟨b, rfl, rfl⟩ := DataW.trod_bool hu h
      simp [rowFine, isVar, ht, hu, kindOk] at hrow
      exact ⟨[.bool b], RL.cons (.bool b) RL.nil, by simp [V.one, NoRef.bool], by simp [hrow], by simp only [Fits, hu]; exact ⟨b, rfl⟩⟩
    · rename_i k hu
      obtain ⟨n, rfl, rfl, hn⟩ := DataW.trod_int hu h
      simp [rowFine, isVar, ht, hu, kindOk] at hrow
      exact ⟨[.int k n], RL.cons (.int k n) RL.nil, by simp [V.one, NoRef.int], by simp [hrow], by simp only [Fits, hu]; exact ⟨n, rfl, hn⟩⟩
    · rename_i hu
      obtain ⟨s, rfl, rfl, hn⟩ := DataW.trod_string hu h
      simp [rowFine, isVar, ht, hu, kindOk] at hrow
      refine ⟨[.str s.data.toList], RL.cons (.str s.data.toList) RL.nil, by simp [V.one, NoRef.str], by simp [hrow], ?_⟩
      simp only [Fits, hu]
      exact ⟨_, rfl, hw _ (by simp [DataW.weights])⟩
    · rename_i e hu
      simp only [Bool.and_eq_true, bne_iff_ne, ne_eq] at hp
      simp [rowFine, isVar, ht, hu, kindOk] at hrow
      rcases DataW.trod_slice hu h with ⟨rfl, rfl⟩ | ⟨a, len, cap, elems, rest, n, rfl, rfl, rfl, hb, hlc, hm, hlen, hel, _, _⟩
      · exact ⟨[.sl .nil 0 []], RL.cons .slnil RL.nil, by simp [V.one, NoRef.sl], by simp [hrow.2], by simp [Fits, hu]⟩
      · have hsz : (elems.length + rest.length) * P.bytesOf e ≤ reachBytes := hw _ (by simp [DataW.weights, hu])
        have each : ∀ i, i < len → ∃ ci vs, w.cells? base (a.add (i * P.cellsOf e)) (P.cellsOf e) = some ci ∧ Stands P w d e ci vs := fun i hi => by
          have h1 := hel i hi
          rw [List.getElem?_eq_getElem (by omega)] at h1
          obtain ⟨ci, h2, h3⟩ := Option.bind_eq_some_iff.1 h1
          obtain ⟨vs, h4⟩ := trod_stands hl d hp.1 h3 (fun m hm => hw m (by
            simp only [DataW.weights, hu, List.mem_cons, List.mem_append]
            exact .inr (.inl (weights_mem_all (List.mem_map.2 ⟨_, List.getElem_mem (by omega), rfl⟩) m hm))))
          exact ⟨ci, vs, h2, h4⟩
        obtain ⟨rows, hrl, hrows⟩ := choose_rows (p := fun i (vs : List V) => ∃ ci, w.cells? base (a.add (i * P.cellsOf e)) (P.cellsOf e) = some ci ∧ Stands P w d e ci vs) len (fun i hi => by
          obtain ⟨ci, vs, h1, h2⟩ := each i hi
          exact ⟨vs, ci, h1, h2⟩)
        have hrlen : ∀ r ∈ rows, r.length = P.cellsOf e := fun r hr => by
          obtain ⟨i, hi⟩ := List.mem_iff_getElem?.1 hr
          obtain ⟨ci, _, h2⟩ := hrows i r hi
          rw [h2.rl.len, h2.len]
        have cell : ∀ j v, rows.flatten[j]? = some v → ∃ c, w.cell? (a.add j) = some c ∧ R noRen (fun b => w.heap[b]?) v c := fun j v hv => by
          obtain ⟨r, h1, h2⟩ := flatten_at hrlen hv
          obtain ⟨ci, h3, h4⟩ := hrows _ r h1
          obtain ⟨h5, h6⟩ := cells_at h3
          have hlt : j % P.cellsOf e < ci.length := by
            rw [← h4.rl.len]
            exact (List.getElem?_eq_some_iff.1 h2).1
          have h7 := h6 _ _ (List.getElem?_eq_getElem hlt)
          refine ⟨_, ?_, h4.rl.at_ _ _ _ h2 (List.getElem?_eq_getElem hlt)⟩
          have e1 : (a.add (j / P.cellsOf e * P.cellsOf e)).add (j % P.cellsOf e) = a.add j := by
            rw [add_add, Nat.mul_comm, Nat.div_add_mod]
          rw [e1] at h7
          exact h7
        have hfl : rows.flatten.length = len * P.cellsOf e := by rw [flatten_len hrlen, hrl]
        have main : len ≠ 0 → ∃ arr el fz, a.spot = none ∧ w.heap[a.block]? = some (.cells arr el fz) ∧ a.off + rows.flatten.length ≤ arr.size ∧ ∀ j v c, rows.flatten[j]? = some v → arr[a.off + j]? = some c → R noRen (fun b => w.heap[b]?) v c := fun h0 => by
          have hpos : 0 < rows.flatten.length := by rw [hfl]; exact Nat.mul_pos (by omega) (by omega)
          have split : ∀ j v, rows.flatten[j]? = some v → ∃ c arr el fz, a.spot = none ∧ w.heap[a.block]? = some (.cells arr el fz) ∧ arr[a.off + j]? = some c ∧ R noRen (fun b => w.heap[b]?) v c := fun j v hv => by
            obtain ⟨c, h1, h2⟩ := cell j v hv
            obtain ⟨c0, hc0, _⟩ := cell 0 _ (List.getElem?_eq_getElem hpos)
            rw [show a.add 0 = a from by simp [Addr.add]] at hc0
            obtain ⟨hsp, arr, el, fz, hh, hk⟩ := cell_row hc0 h1
            exact ⟨c, arr, el, fz, hsp, hh, hk, h2⟩
          obtain ⟨c, arr, el, fz, q1, q2, q3, q4⟩ := split (rows.flatten.length - 1) _ (List.getElem?_eq_getElem (by omega))
          refine ⟨arr, el, fz, q1, q2, ?_, fun j v c hv hc => ?_⟩
          · have := (Array.getElem?_eq_some_iff.1 q3).1
            omega
          · obtain ⟨c', arr', el', fz', _, s2, s3, s4⟩ := split j v hv
            rw [q2] at s2
            cases s2
            rw [hc] at s3
            cases s3
            exact s4
        have hone : ∀ v ∈ rows.flatten, v.one = true ∧ NoRef v := fun v hv => by
          obtain ⟨r, h1, h2⟩ := List.mem_flatten.1 hv
          obtain ⟨i, hi⟩ := List.mem_iff_getElem?.1 h1
          obtain ⟨ci, _, h4⟩ := hrows i r hi
          exact h4.one v h2
        refine ⟨[.sl .ro rows.length rows.flatten], RL.cons ?_ RL.nil, by simp [V.one, NoRef.sl], by simp [hrow.2], ?_⟩
        · rw [hrl]
          by_cases h0 : len = 0
          · have hnil : rows.flatten = [] := List.eq_nil_of_length_eq_zero (by rw [hfl, h0]; simp)
            rw [hnil]
            exact .slro len [] a cap #[] 0 (0, 0) hlc (fun _ => rfl) (fun h => absurd h0 h) (by simp) (by simp)
          · obtain ⟨arr, el, fz, m1, m2, m3, m4⟩ := main h0
            exact .slro len _ a cap arr el fz hlc (fun h => absurd h h0) (fun _ => ⟨m1, m2, m3⟩) hone m4
        · simp only [Fits, hu]
          refine .inr ⟨rows, rfl, ?_, fun r hr => ?_⟩
          · rw [hrl]
            refine Nat.le_trans (Nat.mul_le_mul_right _ ?_) hsz
            omega
          · obtain ⟨i, hi⟩ := List.mem_iff_getElem?.1 hr
            obtain ⟨ci, _, h4⟩ := hrows i r hi
            exact ⟨hrlen r hr, h4.fits⟩
    · rename_i e hu
      simp only [Bool.and_eq_true, bne_iff_ne, ne_eq] at hp
      simp [rowFine, isVar, ht, hu, kindOk] at hrow
      rcases DataW.trod_pointer hu h with ⟨rfl, rfl⟩ | ⟨a, cs', y, n, rfl, rfl, rfl, hc, hy⟩
      · exact ⟨[.nilp], RL.cons .nilp RL.nil, by simp [V.one, NoRef.nilp], by simp [hrow.2], by simp [Fits, hu]⟩
      · obtain ⟨vs, hS⟩ := trod_stands hl d hp.1 hy (fun m hm => hw m (by simp only [DataW.weights, hu]; exact hm))
        obtain ⟨h5, h6⟩ := cells_at hc
        have split : ∀ j c, cs'[j]? = some c → ∃ arr el fz, a.spot = none ∧ w.heap[a.block]? = some (.cells arr el fz) ∧ arr[a.off + j]? = some c := fun j c hj => by
          have hc0 := h6 0 _ (List.getElem?_eq_getElem (by omega))
          rw [show a.add 0 = a from by simp [Addr.add]] at hc0
          obtain ⟨hsp, arr, el, fz, hh, hk⟩ := cell_row hc0 (h6 j c hj)
          exact ⟨arr, el, fz, hsp, hh, hk⟩
        obtain ⟨arr, el, fz, q1, q2, q3⟩ := split (cs'.length - 1) _ (List.getElem?_eq_getElem (by omega))
        have hsz : a.off + vs.length ≤ arr.size := by
          have := (Array.getElem?_eq_some_iff.1 q3).1
          have := hS.rl.len
          omega
        refine ⟨[.pt vs 0], RL.cons ?_ RL.nil, by simp [V.one, NoRef.pt], by simp [hrow.2], by simp only [Fits, hu]; exact .inr ⟨vs, rfl, by rw [hS.rl.len, hS.len], hS.fits⟩⟩
        have hk := R.pt (ρ := noRen) (pin := fun b => w.heap[b]?) vs 0 a.block a.off arr el fz q2 hsz hS.one (fun j v c hv hcc => by
          have hj : j < cs'.length := by
            rw [← hS.rl.len]
            exact (List.getElem?_eq_some_iff.1 hv).1
          obtain ⟨arr', el', fz', _, s2, s3⟩ := split j _ (List.getElem?_eq_getElem hj)
          rw [q2] at s2
          cases s2
          rw [hcc] at s3
          exact hS.rl.at_ j v c hv (by rw [List.getElem?_eq_getElem hj, s3]))
        have e1 : (⟨a.block, a.off + 0, none⟩ : Addr) = a := by
          cases a
          simp only at q1
          subst q1
          rfl
        rw [e1] at hk
        exact hk
    · rename_i fs hu
      obtain ⟨xs, n, rfl, rfl, hcl, hxl, hx⟩ := DataW.trod_struct hu h
      obtain ⟨k1, k2, k3⟩ := kid_struct hl ht hu
      obtain ⟨vs, r1, r2, r3⟩ := each_stands (P := P) (w := w) (d := d) (n := n) (cs := cs) fs.toList 0 xs (by omega) (fun j f hf => by rw [k3 j f hf]; omega) (fun j f hf => by
        have h1 := hx j f (by simpa using hf)
        have hj : j < xs.length := by
          have := (List.getElem?_eq_some_iff.1 hf).1
          simp at this
          omega
        rw [List.getElem?_eq_getElem hj] at h1
        exact trod_stands hl d (List.all_eq_true.1 hp f (List.mem_of_getElem? hf)) h1 (fun m hm => hw m (by
          simp only [DataW.weights, hu]
          exact DataW.weights_mem_each (j := j) (by simp; exact ⟨f, by simpa using hf, rfl⟩) (by simp [List.getElem?_eq_getElem hj]) m hm)))
      exact ⟨vs, by simpa using r1, r2, hcl, by simp only [Fits, hu]; exact r3⟩
    · rename_i n e hu
      obtain ⟨xs, m, rfl, rfl, hcl, hxl, hx⟩ := DataW.trod_array hu h
      obtain ⟨k1, k2⟩ := kid_array hl ht hu
      obtain ⟨rows, hrl, hrows⟩ := choose_rows (p := fun i (vs : List V) => Stands P w d e ((cs.drop (i * P.cellsOf e)).take (P.cellsOf e)) vs) n (fun i hi => by
        have h1 := hx i hi
        have hj : i < xs.length := by omega
        rw [List.getElem?_eq_getElem hj] at h1
        exact trod_stands hl d hp h1 (fun m hm => hw m (by
          simp only [DataW.weights, hu]
          exact weights_mem_all (List.mem_map.2 ⟨_, List.getElem_mem hj, rfl⟩) m hm)))
      have hlen : ∀ (i : Nat) (r : List V), rows[i]? = some r → r.length = P.cellsOf e := fun i r hr => by
        have := hrows i r hr
        rw [this.rl.len, this.len]
      refine ⟨rows.flatten, rows_RL (by rw [hcl, k2, hrl]) (fun i r hr => ⟨hlen i r hr, (hrows i r hr).rl⟩), fun v hv => ?_, hcl, ?_⟩
      · obtain ⟨r, h1, h2⟩ := List.mem_flatten.1 hv
        obtain ⟨i, hi⟩ := List.mem_iff_getElem?.1 h1
        exact (hrows i r hi).one v h2
      · simp only [Fits, hu]
        refine ⟨rows, rfl, hrl, fun r hr => ?_⟩
        obtain ⟨i, hi⟩ := List.mem_iff_getElem?.1 hr
        exact ⟨hlen i r hi, (hrows i r hi).fits⟩
    · cases hp

/-- An argument of a type. -/
def FitsV (P : Program) (d : Nat) (t : TypeId) (v : V) : Prop :=
  match P.underlying t with
  | some (.struct _) | some (.array _ _) => ∃ vs, v = .agg vs ∧ Fits P d t vs
  | _ => Fits P d t [v]
def FitsA (P : Program) (d : Nat) : List TypeId → List V → Prop
  | [], [] => True
  | t :: ts, v :: vs => FitsV P d t v ∧ FitsA P d ts vs
  | _, _ => False

theorem arg_stands (hl : laidOutB P = true) {d : Nat} {b : Nat} {t : TypeId} {v : Value} {x : DataW H} {ps : List MemPlace} (hp : plainT P d t = true) (hv : Value.okWide P w .any b t v) (h : DataW.Trod enc P w base spare held t v x ps)
    (hw : ∀ n ∈ x.weights P t, n ≤ reachBytes) : ∃ y, R noRen (fun b => w.heap[b]?) y v ∧ NoRef y ∧ FitsV P d t y := by
  obtain ⟨fuel, h⟩ := h
  obtain ⟨vs, hS⟩ := trod_stands hl d hp h hw
  cases d with
  | zero => cases hp
  | succ d =>
  have hp' := hp
  simp only [plainT, Bool.and_eq_true, decide_eq_true_eq] at hp'
  obtain ⟨ht, hp'⟩ := hp'
  have single : v.cells.toList = [v] → (match P.underlying t with | some (.struct _) | some (.array _ _) => False | _ => True) → ∃ y, R noRen (fun b => w.heap[b]?) y v ∧ NoRef y ∧ FitsV P (d + 1) t y := fun hc hk => by
    have hlen := hS.rl.len
    rw [hc] at hlen
    match vs, hlen with
    | [y], _ =>
      refine ⟨y, hS.rl.at_ 0 y v rfl (by rw [hc]; rfl), (hS.one y (by simp)).2, ?_⟩
      have := hS.fits
      unfold FitsV
      split at hk
      · exact hk.elim
      · exact hk.elim
      · exact this
  have whole : ∀ arr : Array Value, v = .agg arr → (match P.underlying t with | some (.struct _) | some (.array _ _) => True | _ => False) → ∃ y, R noRen (fun b => w.heap[b]?) y v ∧ NoRef y ∧ FitsV P (d + 1) t y := fun arr he hk => by
    subst he
    have hrl := hS.rl
    simp only [Value.cells] at hrl
    refine ⟨.agg vs, .agg vs arr (by simpa using hrl.len) (fun v hv => (hS.one v hv).1) (fun j v c hv hc => hrl.at_ j v c hv (by simpa using hc)), .agg _ fun v hv => (hS.one v hv).2, ?_⟩
    have := hS.fits
    unfold FitsV
    split at hk
    · exact ⟨vs, rfl, this⟩
    · exact ⟨vs, rfl, this⟩
    · exact hk.elim
  split at hp'
  · rename_i hu; obtain ⟨b, rfl⟩ := WideShapes.okWide_bool hu hv; exact single rfl (by simp [hu])
  · rename_i k hu; obtain ⟨b, rfl⟩ := WideShapes.okWide_int hu hv; exact single rfl (by simp [hu])
  · rename_i hu; obtain ⟨b, rfl⟩ := WideShapes.okWide_string hu hv; exact single rfl (by simp [hu])
  · rename_i e hu; obtain ⟨a, l, c, rfl⟩ := WideShapes.okWide_slice hu hv; exact single rfl (by simp [hu])
  · rename_i e hu; obtain ⟨a, rfl⟩ := WideShapes.okWide_pointer hu hv; exact single rfl (by simp [hu])
  · rename_i fs hu
    obtain ⟨cs, rfl, _⟩ := WideShapes.okWide_struct hu hv
    exact whole cs rfl (by simp [hu])
  · rename_i n e hu
    unfold Value.okWide at hv
    rw [hu] at hv
    obtain ⟨cs, rfl, _⟩ := hv
    exact whole cs rfl (by simp [hu])
  · cases hp'

theorem args_stand (hl : laidOutB P = true) {d : Nat} {b : Nat} : ∀ {ts : List TypeId} {vals : List Value} {ds : List (DataW H)} {ps : List MemPlace}, (∀ t ∈ ts, plainT P d t = true) → (∀ (j : Nat) t v, ts[j]? = some t → vals[j]? = some v → Value.okWide P w .any b t v) →
    DataW.TrodAll enc P w base spare held ts vals ds ps → (∀ n ∈ DataW.weightsEach P ts ds, n ≤ reachBytes) → ∃ xs oss, BL (fun b => w.heap[b]?) w xs vals oss ∧ FitsA P d ts xs ∧ oss.flatten = [] ∧ xs.length = ts.length
  | [], [], [], ps, _, _, _, _ => ⟨[], [], BL.nil, trivial, rfl, rfl⟩
  | t :: ts, v :: vals, x :: ds, ps, hp, hv, h, hw => by
    obtain ⟨p, q, h1, h2, rfl⟩ := h
    obtain ⟨y, r1, r2, r3⟩ := arg_stands hl (hp t (by simp)) (hv 0 t v rfl rfl) h1 (fun n hn => hw n (by simp only [DataW.weightsEach, List.mem_append]; exact .inl hn))
    obtain ⟨xs, oss, k1, k2, k3, k4⟩ := args_stand hl (fun t ht => hp t (List.mem_cons_of_mem _ ht)) (fun j t v h1 h2 => hv (j + 1) t v (by simpa using h1) (by simpa using h2)) h2 (fun n hn => hw n (by simp only [DataW.weightsEach, List.mem_append]; exact .inr hn))
    exact ⟨y :: xs, [] :: oss, BL.cons (.flat y v r2 r1) k1, ⟨r3, k2⟩, by simpa using k3, by simp [k4]⟩
  | [], _ :: _, _, _, _, _, h, _ => h.elim
  | _ :: _, [], _, _, _, _, h, _ => h.elim
  | [], [], _ :: _, _, _, _, h, _ => h.elim
  | _ :: _, _ :: _, [], _, _, _, h, _ => h.elim

/-- The arguments' reading stands behind the call. -/
theorem args_stay (hl : laidOutB P = true) {w' : World} (hb : RowKit.Below w.heap.size w w') : ∀ {ts : List TypeId} {vals : List Value} {ds : List (DataW H)} {ps : List MemPlace}, (∀ t ∈ ts, P.readableRec t = true ∧ t < P.types.size) →
    DataW.TrodAll enc P w 0 (fun _ => true) true ts vals ds ps → DataW.TrodAll enc P w' 0 (fun b => decide (b < w.heap.size)) true ts vals ds ps
  | [], [], [], _, _, h => h
  | t :: ts, v :: vals, x :: ds, ps, hp, h => by
    obtain ⟨p, q, h1, h2, rfl⟩ := h
    have lt : ∀ x ∈ p, x.block < w.heap.size := by obtain ⟨m, hm⟩ := h1; exact DataW.trod_lt m _ _ _ hm
    exact ⟨p, q, RowKit.Below.trod hl (hp t (by simp)).1 (hp t (by simp)).2 h1 hb lt, args_stay hl hb (fun t ht => hp t (List.mem_cons_of_mem _ ht)) h2, rfl⟩
  | [], _ :: _, _, _, _, h => h.elim
  | _ :: _, [], _, _, _, h => h.elim
  | [], [], _ :: _, _, _, h => h.elim
  | _ :: _, _ :: _, [], _, _, h => h.elim

/-- A law: what the machine over values reckons for all arguments of the types, the program answers. -/
theorem law_calls (hl : laidOutB P = true) {tbl : Tbl} (hT : TblOk P tbl) (hm : P.follows .mixedOrders = true) {f : FuncId} {fn : Func} (hf : P.funcs[f]? = some fn) (hname : (fn.name == "runtime.NumGoroutine") = false) {β : Nat} {F : IFun} (hc : compF P β fn = some F)
    {d : Nat} {b : Nat} {ts : List TypeId} (hp : ∀ t ∈ ts, plainT P d t = true) (hmain : ∀ xs, FitsA P d ts xs → fnA tbl (ts.map fun _ => .bor) F xs (fun p => p = (.bool true, [])))
    {vals : Array Value} {ds : List (DataW H)} {ps : List MemPlace} (hv : ∀ (j : Nat) t v, ts[j]? = some t → vals[j]? = some v → Value.okWide P w .any b t v)
    (h : DataW.TrodAll enc P w base spare held ts vals.toList ds ps) (hw : ∀ n ∈ DataW.weightsEach P ts ds, n ≤ reachBytes) :
    Calls P f vals w (fun e w' => e = .returned (.bool true) ∧ RowKit.Below w.heap.size w w') := by
  classical
  obtain ⟨xs, oss, hB, hF, ho, hxl⟩ := args_stand hl hp (fun j t v h1 h2 => hv j t v h1 (by simpa using h2)) h hw
  have hG := fn_good hT (draw_ok hT hm) hf hname hc (E := ⟨ts.map fun _ => .bor, fun xs => if FitsA P d ts xs then some (.bool true, []) else none, none⟩) (fun xs r ios hx => by
    simp only at hx
    rw [Option.ite_none_right_eq_some] at hx
    obtain ⟨h1, h2⟩ := hx
    cases h2
    exact hmain xs h1)
  have := hG.2 w (fun b => w.heap[b]?) xs vals.toList oss (.bool true) [] (by simp [hF]) hB (by rw [ho]; exact List.nodup_nil) (by rw [ho]; simp) (fun _ _ h => h) (by simp [hxl])
  simp only [Array.toArray_toList] at this
  refine this.mono fun e w' ha => ?_
  obtain ⟨c, pin', o, oss', rfl, _, _, _, hFr, hB', _, _, _⟩ := ha
  refine ⟨?_, ⟨hFr.os, hFr.tape, hFr.output, hFr.size, fun k hk => hFr.block k hk (by rw [ho]; simp)⟩⟩
  cases hB' with
  | flat _ _ _ hr => cases hr; rfl
end
end Go.Vm
