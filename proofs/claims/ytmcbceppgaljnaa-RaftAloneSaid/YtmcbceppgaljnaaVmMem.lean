/- Rows of the given model's memory: what reading and writing several cells does. -/
import Derived.Test.YtmcbceppgaljnaaVmRel
set_option linter.unusedSectionVars false
set_option linter.unusedSimpArgs false
set_option linter.unusedVariables false
namespace Go.Vm

variable {P : Program} {w : World}

/-- Cells laid one behind another. -/
def setL (arr : Array Value) (o : Nat) : List Value → Array Value
  | [] => arr
  | v :: vs => setL (arr.setIfInBounds o v) (o + 1) vs
theorem setL_size (vs : List Value) : ∀ (arr : Array Value) (o : Nat), (setL arr o vs).size = arr.size := by
  induction vs with
  | nil => intro arr o; rfl
  | cons v vs ih => intro arr o; rw [setL, ih]; simp
theorem setL_get (vs : List Value) : ∀ (arr : Array Value) (o k : Nat), o + vs.length ≤ arr.size → (setL arr o vs)[k]? = if o ≤ k ∧ k < o + vs.length then vs[k - o]? else arr[k]? := by
  induction vs with
  | nil =>
    intro arr o k _
    have h : ¬ (o ≤ k ∧ k < o + ([] : List Value).length) := by rintro ⟨h1, h2⟩; simp at h2; omega
    rw [setL, if_neg h]
  | cons v vs ih =>
    intro arr o k h
    simp only [List.length_cons] at h
    rw [setL, ih _ _ _ (by simp; omega), Array.getElem?_setIfInBounds]
    simp only [List.length_cons]
    by_cases h1 : o = k
    · subst h1
      rw [if_neg (by omega), if_pos rfl, if_pos (by omega), if_pos (by omega)]
      simp
    · by_cases h2 : o + 1 ≤ k ∧ k < o + 1 + vs.length
      · rw [if_pos h2, if_pos (by omega)]
        rw [show k - o = (k - (o + 1)) + 1 by omega]
        simp
      · rw [if_neg h2, if_neg h1, if_neg (by omega)]

theorem cell_of {b o : Nat} {arr : Array Value} {el : TypeId} {fz : Nat × Nat} (h : w.heap[b]? = some (.cells arr el fz)) : w.cell? ⟨b, o, none⟩ = arr[o]? := by
  simp [World.cell?, h]
theorem frozen_of {b o : Nat} {arr : Array Value} {el : TypeId} {fz : Nat × Nat} (h : w.heap[b]? = some (.cells arr el fz)) (hu : Unfrozen arr fz) (ho : o < arr.size) : w.frozen? ⟨b, o, none⟩ = false := by
  unfold Unfrozen at hu
  simp only [World.frozen?, h]
  obtain ⟨lo, hi⟩ := fz
  simp only at *
  simp
  omega
theorem addr_add (b o n : Nat) : Addr.add ⟨b, o, none⟩ n = ⟨b, o + n, none⟩ := by
  unfold Addr.add
  split
  · subst_vars; rfl
  · rfl
theorem setCell_of {b o : Nat} {arr : Array Value} {el : TypeId} {fz : Nat × Nat} {v : Value} (h : w.heap[b]? = some (.cells arr el fz)) : w.setCell ⟨b, o, none⟩ v = putRow w b (.cells (arr.setIfInBounds o v) el fz) := by
  have hb := lt_of_heap h
  unfold World.setCell putRow
  congr 1
  apply Array.ext_getElem?
  intro i
  rw [Array.getElem?_modify, Array.getElem?_setIfInBounds]
  by_cases hi : b = i
  · subst hi
    rw [if_pos rfl, if_pos rfl, if_pos hb, h]
    rfl
  · rw [if_neg hi, if_neg hi]
theorem putRow_putRow {b : Nat} {o1 o2 : Obj} : putRow (putRow w b o1) b o2 = putRow w b o2 := by
  unfold putRow
  simp

theorem run_storeCells_row (b : Nat) (el : TypeId) (fz : Nat × Nat) (o : Nat) (vs : List Value) : ∀ (i : Nat) (w : World) (arr : Array Value), w.heap[b]? = some (.cells arr el fz) → Unfrozen arr fz → o + i + vs.length ≤ arr.size →
    (∀ v ∈ vs, v.oneCell' = true) → (storeCells ⟨b, o, none⟩ vs i).run P w = .ok () (if vs = [] then w else putRow w b (.cells (setL arr (o + i) vs) el fz)) := by
  induction vs with
  | nil => intro i w arr _ _ _ _; simp [storeCells]
  | cons v vs ih =>
    intro i w arr h hu hl h1
    simp only [List.length_cons] at hl
    have hs : (store (Addr.add ⟨b, o, none⟩ i) v .plain).run P w = .ok () (w.setCell ⟨b, o + i, none⟩ v) := by
      rw [addr_add, run_store _ _ _ _ _ (h1 v (by simp)), cell_of h, Array.getElem?_eq_getElem (by omega : o + i < arr.size)]
      simp [frozen_of h hu (by omega : o + i < arr.size)]
    simp only [storeCells, Sem.run_bind]
    rw [hs, setCell_of h]
    have hb := lt_of_heap h
    simp only [Result.andThen_ok]
    have hz : (arr.setIfInBounds (o + i) v).size = arr.size := by simp
    rw [ih (i + 1) _ (arr.setIfInBounds (o + i) v) (putRow_same hb) (by unfold Unfrozen at *; rw [hz]; exact hu) (by rw [hz]; omega) (fun u hu => h1 u (by simp [hu]))]
    by_cases hv : vs = []
    · subst hv
      simp [setL]
    · rw [if_neg hv, if_neg (by simp), putRow_putRow, setL, show o + (i + 1) = o + i + 1 by omega]

theorem run_loadCells_row {b o n : Nat} {arr : Array Value} {el : TypeId} {fz : Nat × Nat} (h : w.heap[b]? = some (.cells arr el fz)) (hl : o + n ≤ arr.size) :
    (loadCells ⟨b, o, none⟩ n).run P w = .ok ((arr.toList.drop o).take n).toArray w := by
  have hlen : ((arr.toList.drop o).take n).length = n := by simp; omega
  have := run_loadCells_list (P := P) (w := w) ⟨b, o, none⟩ ((arr.toList.drop o).take n) (fun j v hj => by
    rw [addr_add, cell_of h]
    rw [List.getElem?_take] at hj
    split at hj
    · rw [List.getElem?_drop] at hj
      simpa using hj
    · cases hj)
  rw [hlen] at this
  exact this

/-- Values of cells, one for one. -/
structure RL (ρ : Ren) (pin : Pin) (cs : List V) (vs : List Value) : Prop where
  len : cs.length = vs.length
  at_ : ∀ (j : Nat) (v : V) (c : Value), cs[j]? = some v → vs[j]? = some c → R ρ pin v c
variable {ρ : Ren} {pin : Pin}
theorem RL.nil : RL ρ pin [] [] := ⟨rfl, fun j v c h => by simp at h⟩
theorem RL.cons {v : V} {c : Value} {cs : List V} {vs : List Value} (h : R ρ pin v c) (k : RL ρ pin cs vs) : RL ρ pin (v :: cs) (c :: vs) :=
  ⟨by simp [k.len], fun j x y hx hy => by
    cases j with
    | zero => simp at hx hy; subst hx; subst hy; exact h
    | succ j => simp at hx hy; exact k.at_ j x y hx hy⟩
theorem RL.inv {v : V} {c : Value} {cs : List V} {vs : List Value} (k : RL ρ pin (v :: cs) (c :: vs)) : R ρ pin v c ∧ RL ρ pin cs vs :=
  ⟨k.at_ 0 v c rfl rfl, by simpa using k.len, fun j x y hx hy => k.at_ (j + 1) x y (by simpa using hx) (by simpa using hy)⟩
theorem RL.mono {ρ' : Ren} {pin' : Pin} {cs : List V} {vs : List Value} (k : RL ρ pin cs vs) (hr : RExt ρ ρ') (hp : PExt pin pin') : RL ρ' pin' cs vs := ⟨k.len, fun j v c a b => (k.at_ j v c a b).mono hr hp⟩
theorem RL.append {cs ds : List V} {vs us : List Value} (h : RL ρ pin cs vs) (k : RL ρ pin ds us) : RL ρ pin (cs ++ ds) (vs ++ us) := by
  refine ⟨by simp [h.len, k.len], fun j v c hj hc => ?_⟩
  rcases Nat.lt_or_ge j cs.length with hlt | hge
  · rw [List.getElem?_append_left hlt] at hj
    rw [List.getElem?_append_left (by rw [← h.len]; exact hlt)] at hc
    exact h.at_ j v c hj hc
  · rw [List.getElem?_append_right hge] at hj
    rw [List.getElem?_append_right (by rw [← h.len]; exact hge)] at hc
    rw [← h.len] at hc
    exact k.at_ _ v c hj hc
theorem RL.drop {cs : List V} {vs : List Value} (h : RL ρ pin cs vs) (n : Nat) : RL ρ pin (cs.drop n) (vs.drop n) :=
  ⟨by simp [h.len], fun j v c hj hc => h.at_ (n + j) v c (by simpa [List.getElem?_drop] using hj) (by simpa [List.getElem?_drop] using hc)⟩
theorem RL.take {cs : List V} {vs : List Value} (h : RL ρ pin cs vs) (n : Nat) : RL ρ pin (cs.take n) (vs.take n) :=
  ⟨by simp [h.len], fun j v c hj hc => by
    rw [List.getElem?_take] at hj hc
    split at hj
    · rw [if_pos (by assumption)] at hc; exact h.at_ j v c hj hc
    · cases hj⟩
theorem RL.ofArr {cs : List V} {arr : Array Value} (hl : cs.length = arr.size) (h : ∀ (j : Nat) (v : V) (c : Value), cs[j]? = some v → arr[j]? = some c → R ρ pin v c) : RL ρ pin cs arr.toList :=
  ⟨by simpa using hl, fun j v c a b => h j v c a (by simpa using b)⟩
/-- Out of a row: so many cells from a place on. -/
theorem RL.ofRow {cs : List V} {arr : Array Value} {base : Nat} (hfit : base + cs.length ≤ arr.size) (h : ∀ (j : Nat) (v : V) (c : Value), cs[j]? = some v → arr[base + j]? = some c → R ρ pin v c) :
    RL ρ pin cs ((arr.toList.drop base).take cs.length) :=
  ⟨by simp; omega, fun j v c a b => by
    rw [List.getElem?_take] at b
    split at b
    · rw [List.getElem?_drop] at b; exact h j v c a (by simpa using b)
    · cases b⟩
theorem drop_take_drop {α : Type} (l : List α) (a b n m : Nat) (h : b + m ≤ n) : (((l.drop a).take n).drop b).take m = (l.drop (a + b)).take m := by
  rw [List.drop_take, List.drop_drop, List.take_take, Nat.min_eq_left (by omega)]

theorem R.one {v : V} {c : Value} (h : R ρ pin v c) (hv : v.one = true) : c.oneCell' = true := by
  cases h <;> first | rfl | (simp [V.one] at hv; done)
theorem RL.oneCells {cs : List V} {vs : List Value} (h : RL ρ pin cs vs) (h1 : ∀ v ∈ cs, v.one = true) : ∀ c ∈ vs, c.oneCell' = true := by
  intro c hc
  obtain ⟨j, hj⟩ := List.getElem?_of_mem hc
  have hlt : j < cs.length := by
    rw [h.len]
    rcases Nat.lt_or_ge j vs.length with h' | h'
    · exact h'
    · rw [List.getElem?_eq_none h'] at hj; cases hj
  exact (h.at_ j cs[j] c (List.getElem?_eq_getElem hlt) hj).one (h1 _ (List.getElem_mem hlt))
/-- A value's cells. -/
theorem R.cells {v : V} {c : Value} (h : R ρ pin v c) (hn : 0 < v.cells.length) : RL ρ pin v.cells c.cells.toList ∧ (∀ x ∈ v.cells, x.one = true) := by
  cases h with
  | agg cs arr hl h1 hh => exact ⟨RL.ofArr hl hh, h1⟩
  | tup => simp [V.cells] at hn
  | int k n => exact ⟨RL.cons (.int k n) RL.nil, by simp [V.cells, V.one]⟩
  | bool b => exact ⟨RL.cons (.bool b) RL.nil, by simp [V.cells, V.one]⟩
  | str l => exact ⟨RL.cons (.str l) RL.nil, by simp [V.cells, V.one]⟩
  | nilp => exact ⟨RL.cons .nilp RL.nil, by simp [V.cells, V.one]⟩
  | nilfn => exact ⟨RL.cons .nilfn RL.nil, by simp [V.cells, V.one]⟩
  | nilm => exact ⟨RL.cons .nilm RL.nil, by simp [V.cells, V.one]⟩
  | junk p n c => exact ⟨RL.cons (.junk p n c) RL.nil, by simp [V.cells, V.one]⟩
  | rmp es b arr clock hp h => exact ⟨RL.cons (.rmp es b arr clock hp h) RL.nil, by simp [V.cells, V.one]⟩
  | mp id g e he hm => exact ⟨RL.cons (.mp id g e he hm) RL.nil, by simp [V.cells, V.one]⟩
  | itm id g e r s l he hm hp => exact ⟨RL.cons (.itm id g e r s l he hm hp) RL.nil, by simp [V.cells, V.one]⟩
  | mth f id g off e he hm => exact ⟨RL.cons (.mth f id g off e he hm) RL.nil, by simp [V.cells, V.one]⟩
  | fn f cs arr hl hh => exact ⟨RL.cons (.fn f cs arr hl hh) RL.nil, by simp [V.cells, V.one]⟩
  | slnil => exact ⟨RL.cons .slnil RL.nil, by simp [V.cells, V.one]⟩
  | slzero a => exact ⟨RL.cons (.slzero a) RL.nil, by simp [V.cells, V.one]⟩
  | slro n cs a cap arr el fz hn2 h0 hp h1 hh => exact ⟨RL.cons (.slro n cs a cap arr el fz hn2 h0 hp h1 hh) RL.nil, by simp [V.cells, V.one]⟩
  | pt cs off b base arr el fz hp hs h1 hh => exact ⟨RL.cons (.pt cs off b base arr el fz hp hs h1 hh) RL.nil, by simp [V.cells, V.one]⟩
  | sli id g off n esz cap e a he hm hn' hc hl => exact ⟨RL.cons (.sli id g off n esz cap e a he hm hn' hc hl) RL.nil, by simp [V.cells, V.one]⟩
  | ptr id g off e he hm => exact ⟨RL.cons (.ptr id g off e he hm) RL.nil, by simp [V.cells, V.one]⟩

theorem splice_get (l : List V) (off : Nat) (cs : List V) (h : off + cs.length ≤ l.length) (k : Nat) : (splice l off cs)[k]? = if off ≤ k ∧ k < off + cs.length then cs[k - off]? else l[k]? := by
  unfold splice
  have hl : (l.take off).length = off := by simp; omega
  by_cases h1 : k < off
  · rw [List.append_assoc, List.getElem?_append_left (by omega), List.getElem?_take, if_pos h1, if_neg (by omega)]
  · by_cases h2 : k < off + cs.length
    · rw [if_pos ⟨by omega, h2⟩, List.append_assoc, List.getElem?_append_right (by omega), hl, List.getElem?_append_left (by omega)]
    · rw [if_neg (by omega), List.getElem?_append_right (by simp; omega), List.getElem?_drop]
      congr 1
      simp
      omega
theorem splice_length (l : List V) (off : Nat) (cs : List V) (h : off + cs.length ≤ l.length) : (splice l off cs).length = l.length := by
  unfold splice
  simp
  omega
theorem mem_splice {l : List V} {off : Nat} {cs : List V} {v : V} (h : v ∈ splice l off cs) : v ∈ l ∨ v ∈ cs := by
  unfold splice at h
  simp only [List.mem_append] at h
  rcases h with (h | h) | h
  · exact .inl (List.mem_of_mem_take h)
  · exact .inr h
  · exact .inl (List.mem_of_mem_drop h)
/-- A row with so many cells laid anew, on both sides. -/
theorem splice_R {cells cs : List V} {arr : Array Value} {vs : List Value} {base off : Nat} (hfit : base + cells.length ≤ arr.size) (ho : off + cs.length ≤ cells.length) (hcs : RL ρ pin cs vs)
    (h : ∀ (j : Nat) (v : V) (c : Value), cells[j]? = some v → arr[base + j]? = some c → R ρ pin v c) :
    ∀ (j : Nat) (v : V) (c : Value), (splice cells off cs)[j]? = some v → (setL arr (base + off) vs)[base + j]? = some c → R ρ pin v c := by
  intro j v c hv hc
  have hlen := hcs.len
  rw [splice_get _ _ _ ho] at hv
  rw [setL_get _ _ _ _ (by omega)] at hc
  by_cases hj : off ≤ j ∧ j < off + cs.length
  · rw [if_pos hj] at hv
    rw [if_pos (by omega), show base + j - (base + off) = j - off by omega] at hc
    exact hcs.at_ _ v c hv hc
  · rw [if_neg hj] at hv
    rw [if_neg (by omega)] at hc
    exact h j v c hv hc
theorem set_eq_splice (l : List V) (off : Nat) (v : V) (h : off < l.length) : l.set off v = splice l off [v] := by
  apply List.ext_getElem?
  intro k
  rw [splice_get _ _ _ (by simp; omega), List.getElem?_set]
  simp only [List.length_singleton]
  by_cases hk : off = k
  · subst hk; simp [h]
  · rw [if_neg hk, if_neg (by omega)]
end Go.Vm
