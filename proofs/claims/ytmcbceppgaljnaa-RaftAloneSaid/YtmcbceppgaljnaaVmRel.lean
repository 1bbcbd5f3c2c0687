/- What values of the machine over values stand for in the given model's memory. -/
import Derived.Test.YtmcbceppgaljnaaVmCore
import Derived.WalkKit
set_option linter.unusedSectionVars false
set_option linter.unusedSimpArgs false
set_option linter.unusedVariables false
namespace Go.Vm

/-- A block's place in the model's memory: the row, the first cell, how many cells, the row's size; is it a map? -/
structure Ent where
  b : Nat
  base : Nat
  len : Nat
  size : Nat
  mp : Bool
abbrev Ren := Nat → Nat → Option Ent
abbrev Pin := Nat → Option Obj

/-- Things without names, as the model has them. -/
def cvb : V → Value
  | .int k n => .int k n
  | .bool b => .bool b
  | .str s => .string ⟨s.toArray⟩
  | _ => undef
def cvt : V → Value
  | .agg cs => .agg (cs.map cvb).toArray
  | v => cvb v
/-- A map's things, as the model has them. -/
def EntsOk (es : List (V × V)) (arr : Array MapEntry) : Prop :=
  arr.toList.map (fun e => (e.key, e.val)) = es.map (fun e => (cvt e.1, cvt e.2)) ∧ ∀ e ∈ es, flatB e.1 = true ∧ flatB e.2 = true

/-- No name of a block within. -/
inductive NoRef : V → Prop
  | int (k n) : NoRef (.int k n)
  | bool (b) : NoRef (.bool b)
  | str (s) : NoRef (.str s)
  | nilp : NoRef .nilp
  | nilfn : NoRef .nilfn
  | nilm : NoRef .nilm
  | rmp (es) : NoRef (.rmp es)
  | junk : NoRef .junk
  | sl (k n cs) : NoRef (.sl k n cs)
  | pt (cs o) : NoRef (.pt cs o)
  | agg (cs) (h : ∀ v ∈ cs, NoRef v) : NoRef (.agg cs)
  | tup (cs) (h : ∀ v ∈ cs, NoRef v) : NoRef (.tup cs)
  | fn (f cs) (h : ∀ v ∈ cs, NoRef v) : NoRef (.fn f cs)

inductive R (ρ : Ren) (pin : Pin) : V → Value → Prop
  | int (k n) : R ρ pin (.int k n) (.int k n)
  | bool (b) : R ρ pin (.bool b) (.bool b)
  | str (l : List UInt8) : R ρ pin (.str l) (.string ⟨l.toArray⟩)
  | nilp : R ρ pin .nilp (.pointer none)
  | nilfn : R ρ pin .nilfn .nilFunc
  | nilm : R ρ pin .nilm (.map none)
  | junk (p : Option Addr) (n c : Nat) : R ρ pin .junk (.slice p n c)
  | rmp (es : List (V × V)) (b : Nat) (arr : Array MapEntry) (clock : Nat) (hp : pin b = some (.map arr clock)) (h : EntsOk es arr) : R ρ pin (.rmp es) (.map (some b))
  | mp (id g : Nat) (e : Ent) (he : ρ id g = some e) (hm : e.mp = true) : R ρ pin (.mp id g) (.map (some e.b))
  | itm (id g : Nat) (e : Ent) (r s l : Nat) (he : ρ id g = some e) (hm : e.mp = true) (hp : pin r = some (.mapIter (some e.b) s #[] l)) : R ρ pin (.itm id g) (.pointer (some ⟨r, 0, none⟩))
  | mth (f id g off : Nat) (e : Ent) (he : ρ id g = some e) (hm : e.mp = false) : R ρ pin (.mth f id g off) (.func (.func f) #[.pointer (some ⟨e.b, e.base + off, none⟩)] #[])
  | agg (cs : List V) (arr : Array Value) (hl : cs.length = arr.size) (h1 : ∀ v ∈ cs, v.one = true) (h : ∀ (j : Nat) (v : V) (c : Value), cs[j]? = some v → arr[j]? = some c → R ρ pin v c) : R ρ pin (.agg cs) (.agg arr)
  | tup (cs : List V) (arr : Array Value) (hl : cs.length = arr.size) (h : ∀ (j : Nat) (v : V) (c : Value), cs[j]? = some v → arr[j]? = some c → R ρ pin v c) : R ρ pin (.tup cs) (.tuple arr)
  | fn (f : Nat) (cs : List V) (arr : Array Value) (hl : cs.length = arr.size) (h : ∀ (j : Nat) (v : V) (c : Value), cs[j]? = some v → arr[j]? = some c → R ρ pin v c) : R ρ pin (.fn f cs) (.func (.func f) #[] arr)
  | slnil : R ρ pin (.sl .nil 0 []) (.slice none 0 0)
  | slzero (a : Addr) : R ρ pin (.sl .zero 0 []) (.slice (some a) 0 0)
  | slro (n : Nat) (cs : List V) (a : Addr) (cap : Nat) (arr : Array Value) (el : TypeId) (fz : Nat × Nat) (hn : n ≤ cap) (h0 : n = 0 → cs = [])
      (hp : n ≠ 0 → a.spot = none ∧ pin a.block = some (.cells arr el fz) ∧ a.off + cs.length ≤ arr.size) (h1 : ∀ v ∈ cs, v.one = true ∧ NoRef v)
      (h : ∀ (j : Nat) (v : V) (c : Value), cs[j]? = some v → arr[a.off + j]? = some c → R ρ pin v c) : R ρ pin (.sl .ro n cs) (.slice (some a) n cap)
  | pt (cs : List V) (off b base : Nat) (arr : Array Value) (el : TypeId) (fz : Nat × Nat) (hp : pin b = some (.cells arr el fz)) (hs : base + cs.length ≤ arr.size) (h1 : ∀ v ∈ cs, v.one = true ∧ NoRef v)
      (h : ∀ (j : Nat) (v : V) (c : Value), cs[j]? = some v → arr[base + j]? = some c → R ρ pin v c) : R ρ pin (.pt cs off) (.pointer (some ⟨b, base + off, none⟩))
  | sli (id g off n esz cap : Nat) (e : Ent) (a : Addr) (he : ρ id g = some e) (hm : e.mp = false) (hn : n ≤ cap) (hc : cap ≠ 0 → a = ⟨e.b, e.base + off, none⟩ ∧ e.base + off + cap * esz ≤ e.size) (hlen : e.len ≤ off + cap * esz) :
      R ρ pin (.sli id g off n esz) (.slice (some a) n cap)
  | ptr (id g off : Nat) (e : Ent) (he : ρ id g = some e) (hm : e.mp = false) : R ρ pin (.ptr id g off) (.pointer (some ⟨e.b, e.base + off, none⟩))

def RExt (ρ ρ' : Ren) : Prop := ∀ id g e, ρ id g = some e → ρ' id g = some e
def PExt (p p' : Pin) : Prop := ∀ b o, p b = some o → p' b = some o
theorem RExt.refl (ρ : Ren) : RExt ρ ρ := fun _ _ _ h => h
theorem PExt.refl (p : Pin) : PExt p p := fun _ _ h => h
theorem RExt.trans {a b c : Ren} (h : RExt a b) (k : RExt b c) : RExt a c := fun i g e x => k i g e (h i g e x)
theorem PExt.trans {a b c : Pin} (h : PExt a b) (k : PExt b c) : PExt a c := fun i e x => k i e (h i e x)

theorem R.mono {ρ ρ' : Ren} {pin pin' : Pin} {v : V} {c : Value} (hr : RExt ρ ρ') (hp : PExt pin pin') (h : R ρ pin v c) : R ρ' pin' v c := by
  induction h with
  | int => exact .int _ _
  | bool => exact .bool _
  | str => exact .str _
  | nilp => exact .nilp
  | nilfn => exact .nilfn
  | nilm => exact .nilm
  | junk p n c => exact .junk p n c
  | rmp es b arr clock hq h => exact .rmp es b arr clock (hp _ _ hq) h
  | mp id g e he hm => exact .mp id g e (hr _ _ _ he) hm
  | itm id g e r s l he hm hq => exact .itm id g e r s l (hr _ _ _ he) hm (hp _ _ hq)
  | mth f id g off e he hm => exact .mth f id g off e (hr _ _ _ he) hm
  | agg cs arr hl h1 _ ih => exact .agg cs arr hl h1 ih
  | tup cs arr hl _ ih => exact .tup cs arr hl ih
  | fn f cs arr hl _ ih => exact .fn f cs arr hl ih
  | slnil => exact .slnil
  | slzero a => exact .slzero a
  | slro n cs a cap arr el fz hn h0 hq h1 _ ih => exact .slro n cs a cap arr el fz hn h0 (fun x => ⟨(hq x).1, hp _ _ (hq x).2.1, (hq x).2.2⟩) h1 ih
  | pt cs off b base arr el fz hq hs h1 _ ih => exact .pt cs off b base arr el fz (hp _ _ hq) hs h1 ih
  | sli id g off n esz cap e a he hm hn hc hl => exact .sli id g off n esz cap e a (hr _ _ _ he) hm hn hc hl
  | ptr id g off e he hm => exact .ptr id g off e (hr _ _ _ he) hm

theorem R.noref {ρ ρ' : Ren} {pin : Pin} {v : V} {c : Value} (hv : NoRef v) (h : R ρ pin v c) : R ρ' pin v c := by
  induction h with
  | int => exact .int _ _
  | bool => exact .bool _
  | str => exact .str _
  | nilp => exact .nilp
  | nilfn => exact .nilfn
  | nilm => exact .nilm
  | junk p n c => exact .junk p n c
  | rmp es b arr clock hq h => exact .rmp es b arr clock hq h
  | mp => cases hv
  | itm => cases hv
  | mth => cases hv
  | agg cs arr hl h1 _ ih =>
    cases hv with | agg _ hv => exact .agg cs arr hl h1 fun j v c hj hc => ih j v c hj hc (hv v (List.mem_of_getElem? hj))
  | tup cs arr hl _ ih =>
    cases hv with | tup _ hv => exact .tup cs arr hl fun j v c hj hc => ih j v c hj hc (hv v (List.mem_of_getElem? hj))
  | fn f cs arr hl _ ih =>
    cases hv with | fn _ _ hv => exact .fn f cs arr hl fun j v c hj hc => ih j v c hj hc (hv v (List.mem_of_getElem? hj))
  | slnil => exact .slnil
  | slzero a => exact .slzero a
  | slro n cs a cap arr el fz hn h0 hq h1 _ ih => exact .slro n cs a cap arr el fz hn h0 hq h1 fun j v c hj hc => ih j v c hj hc (h1 v (List.mem_of_getElem? hj)).2
  | pt cs off b base arr el fz hq hs h1 _ ih => exact .pt cs off b base arr el fz hq hs h1 fun j v c hj hc => ih j v c hj hc (h1 v (List.mem_of_getElem? hj)).2
  | sli => cases hv
  | ptr => cases hv

/-- What a call may have done to memory: all blocks that were there are as they were, but those of S. -/
structure Fr (w0 w : World) (S : Nat → Prop) : Prop where
  os : w.os = w0.os
  tape : w.tape = w0.tape
  output : w.output = w0.output
  size : w0.heap.size ≤ w.heap.size
  block : ∀ k, k < w0.heap.size → ¬ S k → w.heap[k]? = w0.heap[k]?
  rows : ∀ (b : Nat) (arr : Array Value) (el : TypeId) (fz : Nat × Nat), w0.heap[b]? = some (.cells arr el fz) → ∃ arr' el' fz', w.heap[b]? = some (.cells arr' el' fz') ∧ arr.size ≤ arr'.size
theorem Fr.refl (w : World) (S : Nat → Prop) : Fr w w S := ⟨rfl, rfl, rfl, Nat.le_refl _, fun _ _ _ => rfl, fun _ arr el fz h => ⟨arr, el, fz, h, Nat.le_refl _⟩⟩
theorem Fr.trans {w0 w1 w2 : World} {S T : Nat → Prop} (h : Fr w0 w1 S) (k : Fr w1 w2 T) (ht : ∀ j, j < w0.heap.size → T j → S j) : Fr w0 w2 S :=
  ⟨k.os.trans h.os, k.tape.trans h.tape, k.output.trans h.output, Nat.le_trans h.size k.size, fun j hj hs => (k.block j (Nat.lt_of_lt_of_le hj h.size) (fun c => hs (ht j hj c))).trans (h.block j hj hs), fun b arr el fz hb => by
    obtain ⟨a1, e1, f1, h1, l1⟩ := h.rows b arr el fz hb
    obtain ⟨a2, e2, f2, h2, l2⟩ := k.rows b a1 e1 f1 h1
    exact ⟨a2, e2, f2, h2, Nat.le_trans l1 l2⟩⟩

/-- May the row's cells be written? -/
def Unfrozen (arr : Array Value) (fz : Nat × Nat) : Prop := fz.2 ≤ fz.1 ∨ (strsB = true ∧ arr.size ≤ fz.1)

/-- The blocks that are ours at first, and those that are told by value at first. -/
structure Terr where
  own : Nat → Prop
  old : Nat → Prop
instance : CoeFun Terr (fun _ => Nat → Prop) := ⟨Terr.own⟩

/-- A block that stands for a row of cells, or a map. -/
structure Live (ρ : Ren) (pin : Pin) (S0 : Terr) (N0 : Nat) (B : Blk) (e : Ent) (w : World) : Prop where
  row : e.mp = false → ∃ arr el fz, w.heap[e.b]? = some (.cells arr el fz) ∧ Unfrozen arr fz ∧ e.size ≤ arr.size ∧ e.base + e.len ≤ e.size ∧
    (∀ (j : Nat) (v : V) (c : Value), B.cells[j]? = some v → arr[e.base + j]? = some c → R ρ pin v c) ∧ (B.st = .fz → pin e.b = some (.cells arr el fz))
  ents : e.mp = true → ∃ es arr clock, B.cells = [.mcell es] ∧ w.heap[e.b]? = some (.map arr clock) ∧ EntsOk es arr ∧ (B.st = .fz → pin e.b = some (.map arr clock))
  len : e.len = B.cells.length
  one : e.mp = false → ∀ v ∈ B.cells, v.one = true
  rw : B.st = .rw → pin e.b = none ∧ (S0 e.b ∨ N0 ≤ e.b)
  arr : B.arr = true → ∀ v ∈ B.cells, NoRef v

/-- A store, and the model's memory that it stands for. -/
structure Sim (w0 : World) (S0 : Terr) (ρ : Ren) (pin : Pin) (σ : Store) (w : World) : Prop where
  fr : Fr w0 w S0.own
  live : ∀ id, (σ id).st ≠ .dead → ∃ e, ρ id (σ id).gen = some e ∧ Live ρ pin S0 w0.heap.size (σ id) e w
  inj : ∀ i j ei ej, (σ i).st = .rw → (σ j).st = .rw → i ≠ j → ρ i (σ i).gen = some ei → ρ j (σ j).gen = some ej → ei.b ≠ ej.b
  pinned : ∀ b o, pin b = some o → w.heap[b]? = some o
  young : ∀ id g e, ρ id g = some e → g ≤ (σ id).gen
  news : ∀ b o, pin b = some o → S0.old b ∨ S0 b ∨ w0.heap.size ≤ b

/-- The object that a block stands for. -/
theorem Live.obj {ρ : Ren} {pin : Pin} {S0 : Terr} {N0 : Nat} {B : Blk} {e : Ent} {w : World} (h : Live ρ pin S0 N0 B e w) : ∃ o, w.heap[e.b]? = some o ∧ (B.st = .fz → pin e.b = some o) := by
  cases hm : e.mp with
  | false => obtain ⟨arr, el, fz, h1, _, _, _, _, h6⟩ := h.row hm; exact ⟨_, h1, h6⟩
  | true => obtain ⟨es, arr, clock, _, h1, _, h6⟩ := h.ents hm; exact ⟨_, h1, h6⟩
theorem Live.mono {ρ ρ' : Ren} {pin pin' : Pin} {S0 : Terr} {N0 : Nat} {B : Blk} {e : Ent} {w w' : World} (h : Live ρ pin S0 N0 B e w) (hr : RExt ρ ρ') (hp : PExt pin pin')
    (hw : w'.heap[e.b]? = w.heap[e.b]?) (hq : B.st = .rw → pin' e.b = none) : Live ρ' pin' S0 N0 B e w' := by
  refine ⟨fun hm => ?_, fun hm => ?_, h.len, h.one, fun x => ⟨hq x, (h.rw x).2⟩, h.arr⟩
  · obtain ⟨arr, el, fz, h1, h2, h3, h4, h5, h6⟩ := h.row hm
    exact ⟨arr, el, fz, hw.trans h1, h2, h3, h4, fun j v c a b => (h5 j v c a b).mono hr hp, fun x => hp _ _ (h6 x)⟩
  · obtain ⟨es, arr, clock, h1, h2, h3, h4⟩ := h.ents hm
    exact ⟨es, arr, clock, h1, hw.trans h2, h3, fun x => hp _ _ (h4 x)⟩

theorem lt_of_heap {w : World} {b : Nat} {o : Obj} (h : w.heap[b]? = some o) : b < w.heap.size := by
  rcases Nat.lt_or_ge b w.heap.size with h' | h'
  · exact h'
  · rw [Array.getElem?_eq_none h'] at h; cases h

/-- One row laid anew. -/
def putRow (w : World) (b : Nat) (o : Obj) : World := { w with heap := w.heap.setIfInBounds b o }
theorem putRow_same {w : World} {b : Nat} {o : Obj} (h : b < w.heap.size) : (putRow w b o).heap[b]? = some o := by simp [putRow, h]
theorem putRow_other {w : World} {b k : Nat} {o : Obj} (h : k ≠ b) : (putRow w b o).heap[k]? = w.heap[k]? := by
  simp only [putRow, Array.getElem?_setIfInBounds]
  rw [if_neg (fun e => h e.symm)]
theorem putRow_size {w : World} {b : Nat} {o : Obj} : (putRow w b o).heap.size = w.heap.size := by simp [putRow]

/-- A row of the same size in a row's place. -/
theorem Fr.put {w0 w : World} {S : Nat → Prop} (h : Fr w0 w S) {b : Nat} {arr arr' : Array Value} {el : TypeId} {fz : Nat × Nat} (hrow : w.heap[b]? = some (.cells arr el fz)) (hsz : arr'.size = arr.size) (hb : S b ∨ w0.heap.size ≤ b) : Fr w0 (putRow w b (.cells arr' el fz)) S := by
  refine ⟨h.os, h.tape, h.output, by rw [putRow_size]; exact h.size, fun k hk hS => ?_, fun k a0 e0 f0 hk => ?_⟩
  · have hne : k ≠ b := by
      rintro rfl
      rcases hb with hh | hh
      · exact hS hh
      · omega
    rw [putRow_other hne]
    exact h.block k hk hS
  · obtain ⟨a1, e1, f1, h1, l1⟩ := h.rows k a0 e0 f0 hk
    by_cases hkb : k = b
    · subst hkb
      rw [hrow] at h1
      cases h1
      exact ⟨arr', el, fz, putRow_same (lt_of_heap hrow), by omega⟩
    · exact ⟨a1, e1, f1, by rw [putRow_other hkb]; exact h1, l1⟩

variable {w0 w : World} {S0 : Terr} {ρ : Ren} {pin : Pin} {σ : Store}

theorem upd_same {α : Type} (f : Nat → α) (i : Nat) (x : α) : upd f i x i = x := by simp [upd]
theorem upd_ne {α : Type} (f : Nat → α) {i j : Nat} (x : α) (h : j ≠ i) : upd f i x j = f j := by simp [upd, h]

/-- A block that may be written is laid anew in its row. -/
theorem Sim.write (h : Sim w0 S0 ρ pin σ w) {id : Nat} {e : Ent} (hst : (σ id).st = .rw) (he : ρ id (σ id).gen = some e) (hm : e.mp = false) (cells' : List V) (arr arr' : Array Value) (el : TypeId) (fz : Nat × Nat)
    (hrow : w.heap[e.b]? = some (.cells arr el fz)) (hsz : arr'.size = arr.size) (hlen : cells'.length = (σ id).cells.length) (hone : ∀ v ∈ cells', v.one = true) (hno : (σ id).arr = true → ∀ v ∈ cells', NoRef v)
    (hR : ∀ (j : Nat) (v : V) (c : Value), cells'[j]? = some v → arr'[e.base + j]? = some c → R ρ pin v c) :
    Sim w0 S0 ρ pin (upd σ id { σ id with cells := cells' }) (putRow w e.b (.cells arr' el fz)) := by
  obtain ⟨e', he', L⟩ := h.live id (by rw [hst]; decide)
  obtain rfl : e' = e := by rw [he] at he'; exact (Option.some.inj he').symm
  have hb := lt_of_heap hrow
  obtain ⟨arr0, el0, fz0, h1, h2, h3, h4, h5, h6⟩ := L.row hm
  obtain ⟨rfl, rfl, rfl⟩ : arr0 = arr ∧ el0 = el ∧ fz0 = fz := by rw [hrow] at h1; cases h1; exact ⟨rfl, rfl, rfl⟩
  have hown := L.rw hst
  refine ⟨?_, ?_, ?_, ?_, ?_, h.news⟩
  · exact h.fr.put hrow hsz hown.2
  · intro i hi
    by_cases hid : i = id
    · subst hid
      rw [upd_same]
      exact ⟨e', he, ⟨fun _ => ⟨arr', el0, fz0, putRow_same hb, by unfold Unfrozen at *; rw [hsz]; exact h2, by rw [hsz]; exact h3, h4, hR, fun x => by rw [show ({ σ i with cells := cells' } : Blk).st = (σ i).st from rfl, hst] at x; cases x⟩, (fun c => by rw [hm] at c; cases c), by rw [hlen]; exact L.len, fun _ => hone, L.rw, hno⟩⟩
    · rw [upd_ne _ _ hid] at hi ⊢
      obtain ⟨e1, he1, L1⟩ := h.live i hi
      refine ⟨e1, he1, L1.mono (RExt.refl _) (PExt.refl _) (putRow_other ?_) (fun x => (L1.rw x).1)⟩
      intro hb1
      rcases hs1 : (σ i).st with _ | _ | _
      · exact hi hs1
      · exact h.inj i id e1 e' hs1 hst hid he1 he hb1
      · obtain ⟨_, _, h6⟩ := L1.obj
        have := h6 hs1
        rw [hb1, hown.1] at this
        cases this
  · intro i j ei ej hi hj hij hei hej
    have key : ∀ k, (upd σ id { σ id with cells := cells' } k).st = (σ k).st ∧ (upd σ id { σ id with cells := cells' } k).gen = (σ k).gen := fun k => by
      by_cases hk : k = id
      · subst hk; rw [upd_same]; exact ⟨rfl, rfl⟩
      · rw [upd_ne _ _ hk]; exact ⟨rfl, rfl⟩
    rw [(key i).1] at hi
    rw [(key j).1] at hj
    rw [(key i).2] at hei
    rw [(key j).2] at hej
    exact h.inj i j ei ej hi hj hij hei hej
  · intro b o hb1
    have hne : b ≠ e'.b := by rintro rfl; rw [hown.1] at hb1; cases hb1
    rw [putRow_other hne]
    exact h.pinned b o hb1
  · intro i g e1 h1
    by_cases hid : i = id
    · subst hid; rw [upd_same]; exact h.young i g e1 h1
    · rw [upd_ne _ _ hid]; exact h.young i g e1 h1

/-- A map in a map's place. -/
theorem Fr.putM {w0 w : World} {S : Nat → Prop} (h : Fr w0 w S) {b : Nat} {arr arr' : Array MapEntry} {clock clock' : Nat} (hrow : w.heap[b]? = some (.map arr clock)) (hb : S b ∨ w0.heap.size ≤ b) : Fr w0 (putRow w b (.map arr' clock')) S := by
  refine ⟨h.os, h.tape, h.output, by rw [putRow_size]; exact h.size, fun k hk hS => ?_, fun k a0 e0 f0 hk => ?_⟩
  · have hne : k ≠ b := by
      rintro rfl
      rcases hb with hh | hh
      · exact hS hh
      · omega
    rw [putRow_other hne]
    exact h.block k hk hS
  · obtain ⟨a1, e1, f1, h1, l1⟩ := h.rows k a0 e0 f0 hk
    by_cases hkb : k = b
    · subst hkb
      rw [hrow] at h1
      cases h1
    · exact ⟨a1, e1, f1, by rw [putRow_other hkb]; exact h1, l1⟩
/-- A map that may be written is laid anew in its place. -/
theorem Sim.writeM (h : Sim w0 S0 ρ pin σ w) {id : Nat} {e : Ent} (hst : (σ id).st = .rw) (he : ρ id (σ id).gen = some e) (hm : e.mp = true) (es' : List (V × V)) (arr arr' : Array MapEntry) (clock clock' : Nat)
    (hrow : w.heap[e.b]? = some (.map arr clock)) (hE : EntsOk es' arr') :
    Sim w0 S0 ρ pin (upd σ id { σ id with cells := [.mcell es'] }) (putRow w e.b (.map arr' clock')) := by
  obtain ⟨e', he', L⟩ := h.live id (by rw [hst]; decide)
  obtain rfl : e' = e := by rw [he] at he'; exact (Option.some.inj he').symm
  have hb := lt_of_heap hrow
  obtain ⟨es0, arr0, clock0, h1, h2, h3, h4⟩ := L.ents hm
  have hown := L.rw hst
  have hlen := L.len
  rw [h1] at hlen
  refine ⟨?_, ?_, ?_, ?_, ?_, h.news⟩
  · exact h.fr.putM hrow hown.2
  · intro i hi
    by_cases hid : i = id
    · subst hid
      rw [upd_same]
      refine ⟨e', he, ⟨(fun c => by rw [hm] at c; cases c), fun _ => ⟨es', arr', clock', rfl, putRow_same hb, hE, fun x => by rw [show ({ σ i with cells := [V.mcell es'] } : Blk).st = (σ i).st from rfl, hst] at x; cases x⟩, by simpa using hlen, (fun c => by rw [hm] at c; cases c), L.rw, fun x v hv => ?_⟩⟩
      have := L.arr x (.mcell es0) (by rw [h1]; simp)
      cases this
    · rw [upd_ne _ _ hid] at hi ⊢
      obtain ⟨e1, he1, L1⟩ := h.live i hi
      refine ⟨e1, he1, L1.mono (RExt.refl _) (PExt.refl _) (putRow_other ?_) (fun x => (L1.rw x).1)⟩
      intro hb1
      rcases hs1 : (σ i).st with _ | _ | _
      · exact hi hs1
      · exact h.inj i id e1 e' hs1 hst hid he1 he hb1
      · obtain ⟨_, _, h6⟩ := L1.obj
        have := h6 hs1
        rw [hb1, hown.1] at this
        cases this
  · intro i j ei ej hi hj hij hei hej
    have key : ∀ k, (upd σ id { σ id with cells := [V.mcell es'] } k).st = (σ k).st ∧ (upd σ id { σ id with cells := [V.mcell es'] } k).gen = (σ k).gen := fun k => by
      by_cases hk : k = id
      · subst hk; rw [upd_same]; exact ⟨rfl, rfl⟩
      · rw [upd_ne _ _ hk]; exact ⟨rfl, rfl⟩
    rw [(key i).1] at hi
    rw [(key j).1] at hj
    rw [(key i).2] at hei
    rw [(key j).2] at hej
    exact h.inj i j ei ej hi hj hij hei hej
  · intro b o hb1
    have hne : b ≠ e'.b := by rintro rfl; rw [hown.1] at hb1; cases hb1
    rw [putRow_other hne]
    exact h.pinned b o hb1
  · intro i g e1 h5
    by_cases hid : i = id
    · subst hid; rw [upd_same]; exact h.young i g e1 h5
    · rw [upd_ne _ _ hid]; exact h.young i g e1 h5

def setEnt (ρ : Ren) (id g : Nat) (e : Ent) : Ren := fun i k => if i = id ∧ k = g then some e else ρ i k
theorem setEnt_same (ρ : Ren) (id g : Nat) (e : Ent) : setEnt ρ id g e id g = some e := by simp [setEnt]
theorem setEnt_ne (ρ : Ren) {id g i k : Nat} (e : Ent) (h : i ≠ id ∨ k ≠ g) : setEnt ρ id g e i k = ρ i k := by
  unfold setEnt; rw [if_neg]; rintro ⟨rfl, rfl⟩; simp at h
theorem setEnt_ext (ρ : Ren) (id g : Nat) (e : Ent) (h : ρ id g = none) : RExt ρ (setEnt ρ id g e) := fun i k e' h' => by
  rw [setEnt_ne]; exact h'
  by_cases hi : i = id
  · refine .inr ?_; rintro rfl; subst hi; rw [h] at h'; cases h'
  · exact .inl hi

/-- The next age of a number has no place yet. -/
theorem Sim.fresh (h : Sim w0 S0 ρ pin σ w) (id : Nat) : ρ id ((σ id).gen + 1) = none := by
  cases hh : ρ id ((σ id).gen + 1) with
  | none => rfl
  | some e => have := h.young _ _ _ hh; omega

/-- A number takes a new place: a row that nobody else writes. -/
theorem Sim.name (h : Sim w0 S0 ρ pin σ w) (id : Nat) (cells : List V) (isArr : Bool) (e : Ent) (arr : Array Value) (el : TypeId) (fz : Nat × Nat)
    (hm : e.mp = false) (hrow : w.heap[e.b]? = some (.cells arr el fz)) (hfz : Unfrozen arr fz) (hsize : e.size ≤ arr.size) (hfit : e.base + e.len ≤ e.size) (hlen : e.len = cells.length)
    (hone : ∀ v ∈ cells, v.one = true) (hno : isArr = true → ∀ v ∈ cells, NoRef v)
    (hown : S0 e.b ∨ w0.heap.size ≤ e.b) (hpin : pin e.b = none) (hfree : ∀ j ej, j ≠ id → (σ j).st = .rw → ρ j (σ j).gen = some ej → ej.b ≠ e.b)
    (hR : ∀ (j : Nat) (v : V) (c : Value), cells[j]? = some v → arr[e.base + j]? = some c → R ρ pin v c) :
    Sim w0 S0 (setEnt ρ id ((σ id).gen + 1) e) pin (upd σ id ⟨(σ id).gen + 1, .rw, isArr, cells⟩) w := by
  have hx := setEnt_ext ρ id ((σ id).gen + 1) e (h.fresh id)
  refine ⟨h.fr, ?_, ?_, h.pinned, ?_, h.news⟩
  · intro i hi
    by_cases hid : i = id
    · subst hid
      rw [upd_same]
      exact ⟨e, setEnt_same _ _ _ _, ⟨fun _ => ⟨arr, el, fz, hrow, hfz, hsize, hfit, fun j v c a b => (hR j v c a b).mono hx (PExt.refl _), fun x => by cases x⟩, (fun c => by rw [hm] at c; cases c), hlen, fun _ => hone, fun _ => ⟨hpin, hown⟩, hno⟩⟩
    · rw [upd_ne _ _ hid] at hi ⊢
      obtain ⟨e1, he1, L1⟩ := h.live i hi
      exact ⟨e1, hx _ _ _ he1, L1.mono hx (PExt.refl _) rfl (fun x => (L1.rw x).1)⟩
  · intro i j ei ej hi hj hij hei hej
    by_cases h1 : i = id
    · subst h1
      rw [upd_same] at hi hei
      rw [upd_ne _ _ (fun c => hij c.symm)] at hj hej
      rw [setEnt_same] at hei
      rw [setEnt_ne _ _ (.inl (fun c => hij c.symm))] at hej
      cases hei
      exact fun c => hfree j ej (fun c => hij c.symm) hj hej c.symm
    · rw [upd_ne _ _ h1] at hi hei
      rw [setEnt_ne _ _ (.inl h1)] at hei
      by_cases h2 : j = id
      · subst h2
        rw [upd_same] at hj hej
        rw [setEnt_same] at hej
        cases hej
        exact hfree i ei h1 hi hei
      · rw [upd_ne _ _ h2] at hj hej
        rw [setEnt_ne _ _ (.inl h2)] at hej
        exact h.inj i j ei ej hi hj hij hei hej
  · intro i g e1 h1
    by_cases hid : i = id
    · subst hid
      rw [upd_same]
      by_cases hg : g = (σ i).gen + 1
      · rw [hg]; exact Nat.le_refl _
      · rw [setEnt_ne _ _ (.inr hg)] at h1
        have := h.young _ _ _ h1
        show g ≤ (σ i).gen + 1
        omega
    · rw [upd_ne _ _ hid]
      rw [setEnt_ne _ _ (.inl hid)] at h1
      exact h.young _ _ _ h1

/-- A number takes a new place: a map that nobody else writes. -/
theorem Sim.nameM (h : Sim w0 S0 ρ pin σ w) (id : Nat) (es : List (V × V)) (e : Ent) (arr : Array MapEntry) (clock : Nat)
    (hm : e.mp = true) (hrow : w.heap[e.b]? = some (.map arr clock)) (hE : EntsOk es arr) (hlen : e.len = 1)
    (hown : S0 e.b ∨ w0.heap.size ≤ e.b) (hpin : pin e.b = none) (hfree : ∀ j ej, j ≠ id → (σ j).st = .rw → ρ j (σ j).gen = some ej → ej.b ≠ e.b) :
    Sim w0 S0 (setEnt ρ id ((σ id).gen + 1) e) pin (upd σ id ⟨(σ id).gen + 1, .rw, false, [.mcell es]⟩) w := by
  have hx := setEnt_ext ρ id ((σ id).gen + 1) e (h.fresh id)
  refine ⟨h.fr, ?_, ?_, h.pinned, ?_, h.news⟩
  · intro i hi
    by_cases hid : i = id
    · subst hid
      rw [upd_same]
      exact ⟨e, setEnt_same _ _ _ _, ⟨(fun c => by rw [hm] at c; cases c), fun _ => ⟨es, arr, clock, rfl, hrow, hE, fun x => by cases x⟩, by simpa using hlen, (fun c => by rw [hm] at c; cases c), fun _ => ⟨hpin, hown⟩, fun x => by cases x⟩⟩
    · rw [upd_ne _ _ hid] at hi ⊢
      obtain ⟨e1, he1, L1⟩ := h.live i hi
      exact ⟨e1, hx _ _ _ he1, L1.mono hx (PExt.refl _) rfl (fun x => (L1.rw x).1)⟩
  · intro i j ei ej hi hj hij hei hej
    by_cases h1 : i = id
    · subst h1
      rw [upd_same] at hi hei
      rw [upd_ne _ _ (fun c => hij c.symm)] at hj hej
      rw [setEnt_same] at hei
      rw [setEnt_ne _ _ (.inl (fun c => hij c.symm))] at hej
      cases hei
      exact fun c => hfree j ej (fun c => hij c.symm) hj hej c.symm
    · rw [upd_ne _ _ h1] at hi hei
      rw [setEnt_ne _ _ (.inl h1)] at hei
      by_cases h2 : j = id
      · subst h2
        rw [upd_same] at hj hej
        rw [setEnt_same] at hej
        cases hej
        exact hfree i ei h1 hi hei
      · rw [upd_ne _ _ h2] at hj hej
        rw [setEnt_ne _ _ (.inl h2)] at hej
        exact h.inj i j ei ej hi hj hij hei hej
  · intro i g e1 h1
    by_cases hid : i = id
    · subst hid
      rw [upd_same]
      by_cases hg : g = (σ i).gen + 1
      · rw [hg]; exact Nat.le_refl _
      · rw [setEnt_ne _ _ (.inr hg)] at h1
        have := h.young _ _ _ h1
        show g ≤ (σ i).gen + 1
        omega
    · rw [upd_ne _ _ hid]
      rw [setEnt_ne _ _ (.inl hid)] at h1
      exact h.young _ _ _ h1

/-- Memory with a new row, or other counts of draws. -/
theorem Sim.grow (h : Sim w0 S0 ρ pin σ w) {w' : World} (hos : w'.os = w.os) (ht : w'.tape = w.tape) (ho : w'.output = w.output) (hs : w.heap.size ≤ w'.heap.size) (hb : ∀ k, k < w.heap.size → w'.heap[k]? = w.heap[k]?) : Sim w0 S0 ρ pin σ w' := by
  refine ⟨h.fr.trans (T := fun _ => False) ⟨hos, ht, ho, hs, fun k hk _ => hb k hk, fun b arr el fz hh => ⟨arr, el, fz, by rw [hb b (lt_of_heap hh)]; exact hh, Nat.le_refl _⟩⟩ (fun _ _ c => c.elim), ?_, h.inj, ?_, h.young, h.news⟩
  · intro i hi
    obtain ⟨e, he, L⟩ := h.live i hi
    obtain ⟨o, hr, _⟩ := L.obj
    exact ⟨e, he, L.mono (RExt.refl _) (PExt.refl _) (hb _ (lt_of_heap hr)) (fun x => (L.rw x).1)⟩
  · intro b o hp
    have := h.pinned b o hp
    rw [hb _ (lt_of_heap this)]
    exact this
theorem Sim.drew (h : Sim w0 S0 ρ pin σ w) : Sim w0 S0 ρ pin σ w.drew := h.grow rfl rfl rfl (Nat.le_refl _) (fun _ _ => rfl)
theorem Sim.alloc (h : Sim w0 S0 ρ pin σ w) (o : Obj) : Sim w0 S0 ρ pin σ (w.alloc o) := h.grow rfl rfl rfl (by simp) (fun k hk => heap_alloc_old w o hk)

/-- A block is let go. -/
theorem Sim.kill (h : Sim w0 S0 ρ pin σ w) (id : Nat) : Sim w0 S0 ρ pin (upd σ id { σ id with st := .dead }) w := by
  have key : ∀ k, k ≠ id → upd σ id { σ id with st := .dead } k = σ k := fun k hk => upd_ne _ _ hk
  have kd : (upd σ id { σ id with st := .dead } id).st = .dead := by rw [upd_same]
  have kg : ∀ k, (upd σ id { σ id with st := .dead } k).gen = (σ k).gen := fun k => by
    by_cases hk : k = id
    · subst hk; rw [upd_same]
    · rw [key k hk]
  refine ⟨h.fr, ?_, ?_, h.pinned, ?_, h.news⟩
  · intro i hi
    have hne : i ≠ id := by rintro rfl; exact hi kd
    rw [key i hne] at hi ⊢
    exact h.live i hi
  · intro i j ei ej hi hj hij hei hej
    have h1 : i ≠ id := by rintro rfl; rw [kd] at hi; cases hi
    have h2 : j ≠ id := by rintro rfl; rw [kd] at hj; cases hj
    rw [key i h1] at hi hei
    rw [key j h2] at hj hej
    exact h.inj i j ei ej hi hj hij hei hej
  · intro i g e h1
    rw [kg]
    exact h.young i g e h1

/-- A row that some number may write. -/
def Used (ρ : Ren) (σ : Store) (b : Nat) : Prop := ∃ j e, (σ j).st = .rw ∧ ρ j (σ j).gen = some e ∧ e.b = b
def setPin (pin : Pin) (b : Nat) (o : Obj) : Pin := fun k => if k = b then some o else pin k
/-- A block becomes one that is read alone. -/
theorem Sim.freeze1 (h : Sim w0 S0 ρ pin σ w) (id : Nat) (hst : (σ id).st ≠ .dead) : ∃ pin', PExt pin pin' ∧ Sim w0 S0 ρ pin' (upd σ id { σ id with st := .fz }) w ∧ (∀ b o, pin' b = some o → pin b = some o ∨ Used ρ σ b) := by
  obtain ⟨e, he, L⟩ := h.live id hst
  obtain ⟨ob, h1, h6⟩ := L.obj
  have hx : PExt pin (setPin pin e.b ob) := fun b o hb => by
    unfold setPin
    by_cases hbe : b = e.b
    · subst hbe
      rw [if_pos rfl]
      have := h.pinned _ _ hb
      rw [h1] at this
      exact this
    · rw [if_neg hbe]; exact hb
  have hset : setPin pin e.b ob e.b = some ob := by simp [setPin]
  refine ⟨_, hx, ⟨h.fr, ?_, ?_, ?_, ?_, ?_⟩, fun b o hb => ?_⟩
  rotate_right
  · unfold setPin at hb
    by_cases hbe : b = e.b
    · rw [hbe]
      rw [if_pos hbe] at hb
      cases hb
      rcases hs1 : (σ id).st with _ | _ | _
      · exact absurd hs1 hst
      · exact .inr ⟨id, e, hs1, he, rfl⟩
      · exact .inl (h6 hs1)
    · rw [if_neg hbe] at hb
      exact .inl hb
  · intro i hi
    by_cases hid : i = id
    · subst hid
      rw [upd_same]
      refine ⟨e, he, ⟨fun hm => ?_, fun hm => ?_, L.len, L.one, fun x => (by cases x), L.arr⟩⟩
      · obtain ⟨arr, el, fz, k1, k2, k3, k4, k5, k6⟩ := L.row hm
        rw [h1] at k1
        cases k1
        exact ⟨arr, el, fz, h1, k2, k3, k4, fun j v c a b => (k5 j v c a b).mono (RExt.refl _) hx, fun _ => hset⟩
      · obtain ⟨es, arr, clock, k1, k2, k3, k4⟩ := L.ents hm
        rw [h1] at k2
        cases k2
        exact ⟨es, arr, clock, k1, h1, k3, fun _ => hset⟩
    · rw [upd_ne _ _ hid] at hi ⊢
      obtain ⟨e1, he1, L1⟩ := h.live i hi
      refine ⟨e1, he1, L1.mono (RExt.refl _) hx rfl fun x => ?_⟩
      unfold setPin
      rw [if_neg]
      · exact (L1.rw x).1
      · intro hbe
        rcases hs1 : (σ id).st with _ | _ | _
        · exact hst hs1
        · exact h.inj i id e1 e x hs1 hid he1 he hbe
        · have := h6 hs1
          rw [← hbe, (L1.rw x).1] at this
          cases this
  · intro i j ei ej hi hj hij hei hej
    have n1 : i ≠ id := by rintro rfl; rw [upd_same] at hi; cases hi
    have n2 : j ≠ id := by rintro rfl; rw [upd_same] at hj; cases hj
    rw [upd_ne _ _ n1] at hi hei
    rw [upd_ne _ _ n2] at hj hej
    exact h.inj i j ei ej hi hj hij hei hej
  · intro b o hb
    unfold setPin at hb
    by_cases hbe : b = e.b
    · rw [if_pos hbe] at hb
      cases hb
      rw [hbe]
      exact h1
    · rw [if_neg hbe] at hb
      exact h.pinned b o hb
  · intro i g e1 h1
    by_cases hid : i = id
    · subst hid; rw [upd_same]; exact h.young i g e1 h1
    · rw [upd_ne _ _ hid]; exact h.young i g e1 h1
  · intro b o hb
    unfold setPin at hb
    by_cases hbe : b = e.b
    · rw [hbe]
      rcases hs1 : (σ id).st with _ | _ | _
      · exact absurd hs1 hst
      · exact .inr (L.rw hs1).2
      · exact h.news _ _ (h6 hs1)
    · rw [if_neg hbe] at hb
      exact h.news b o hb
/-- A thing of its own, laid anew, that stays as it is. -/
theorem Sim.pinNew (h : Sim w0 S0 ρ pin σ w) (o : Obj) {w' : World} (hos : w'.os = w.os) (ht : w'.tape = w.tape) (ho : w'.output = w.output) (hw : w.heap.size ≤ w'.heap.size) (hold : ∀ k, k < w.heap.size → w'.heap[k]? = w.heap[k]?) (hnew : w'.heap[w.heap.size]? = some o) : PExt pin (setPin pin w.heap.size o) ∧ Sim w0 S0 ρ (setPin pin w.heap.size o) σ w' := by
  have hno : pin w.heap.size = none := by
    cases hp : pin w.heap.size with
    | none => rfl
    | some x => have := lt_of_heap (h.pinned _ _ hp); omega
  have hx : PExt pin (setPin pin w.heap.size o) := fun b x hb => by
    unfold setPin
    by_cases hbe : b = w.heap.size
    · rw [hbe, hno] at hb; cases hb
    · rw [if_neg hbe]; exact hb
  have h' := h.grow hos ht ho hw hold
  refine ⟨hx, h'.fr, ?_, h'.inj, ?_, h'.young, ?_⟩
  · intro i hi
    obtain ⟨e, he, L⟩ := h'.live i hi
    obtain ⟨e2, he2, L2⟩ := h.live i hi
    rw [he] at he2
    cases he2
    obtain ⟨ob, k1, _⟩ := L2.obj
    refine ⟨e, he, L.mono (RExt.refl _) hx rfl fun x => ?_⟩
    unfold setPin
    rw [if_neg (Nat.ne_of_lt (lt_of_heap k1))]
    exact (L.rw x).1
  · intro b x hb
    unfold setPin at hb
    by_cases hbe : b = w.heap.size
    · rw [if_pos hbe] at hb
      cases hb
      rw [hbe]
      exact hnew
    · rw [if_neg hbe] at hb
      exact h'.pinned b x hb
  · intro b x hb
    unfold setPin at hb
    by_cases hbe : b = w.heap.size
    · rw [hbe]
      exact .inr (.inr h.fr.size)
    · rw [if_neg hbe] at hb
      exact h.news b x hb
theorem Sim.pinAlloc (h : Sim w0 S0 ρ pin σ w) (o : Obj) : PExt pin (setPin pin w.heap.size o) ∧ Sim w0 S0 ρ (setPin pin w.heap.size o) σ (w.alloc o) := by
  have hno : pin w.heap.size = none := by
    cases hp : pin w.heap.size with
    | none => rfl
    | some x => have := lt_of_heap (h.pinned _ _ hp); omega
  have hx : PExt pin (setPin pin w.heap.size o) := fun b x hb => by
    unfold setPin
    by_cases hbe : b = w.heap.size
    · rw [hbe, hno] at hb; cases hb
    · rw [if_neg hbe]; exact hb
  have h' := h.alloc o
  refine ⟨hx, h'.fr, ?_, h'.inj, ?_, h'.young, ?_⟩
  · intro i hi
    obtain ⟨e, he, L⟩ := h'.live i hi
    obtain ⟨e2, he2, L2⟩ := h.live i hi
    rw [he] at he2
    cases he2
    obtain ⟨ob, k1, _⟩ := L2.obj
    refine ⟨e, he, L.mono (RExt.refl _) hx rfl fun x => ?_⟩
    unfold setPin
    rw [if_neg (Nat.ne_of_lt (lt_of_heap k1))]
    exact (L.rw x).1
  · intro b x hb
    unfold setPin at hb
    by_cases hbe : b = w.heap.size
    · rw [if_pos hbe] at hb
      cases hb
      rw [hbe]
      exact heap_alloc_new w o
    · rw [if_neg hbe] at hb
      exact h'.pinned b x hb
  · intro b x hb
    unfold setPin at hb
    by_cases hbe : b = w.heap.size
    · rw [hbe]; exact .inr (.inr h.fr.size)
    · rw [if_neg hbe] at hb
      exact h.news b x hb
end Go.Vm
