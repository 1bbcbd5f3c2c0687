/- Files, sorted by their names: plain facts. -/
import Derived.Test.YtclcadpmkkeaeaaVmFit
set_option linter.unusedSectionVars false
set_option linter.unusedSimpArgs false
set_option linter.unusedVariables false
namespace Go.Vm
abbrev Tx := List UInt8
abbrev tl (a b : Tx) : Bool := Op.bytesLess a b
theorem tl_irr : ∀ a : Tx, tl a a = false
  | [] => rfl
  | a :: x => by simp [tl, Op.bytesLess]; exact tl_irr x
theorem tl_trans : ∀ {a b c : Tx}, tl a b = true → tl b c = true → tl a c = true
  | [], b, [], _, h => by cases b <;> simp [tl, Op.bytesLess] at h
  | _ :: _, b, [], _, h => by cases b <;> simp [tl, Op.bytesLess] at h
  | [], _, _ :: _, _, _ => rfl
  | _ :: _, [], _, h, _ => by simp [tl, Op.bytesLess] at h
  | a :: x, b :: y, c :: z, h, k => by
    simp only [tl, Op.bytesLess, Bool.or_eq_true, decide_eq_true_eq, Bool.and_eq_true, beq_iff_eq] at h k ⊢
    rcases h with h | ⟨rfl, h⟩ <;> rcases k with k | ⟨rfl, k⟩
    · exact .inl (UInt8.lt_trans h k)
    · exact .inl h
    · exact .inl k
    · exact .inr ⟨rfl, tl_trans h k⟩
theorem tl_tri : ∀ {a b : Tx}, tl a b = false → a ≠ b → tl b a = true
  | [], [], _, h => absurd rfl h
  | [], _ :: _, h, _ => by simp [tl, Op.bytesLess] at h
  | _ :: _, [], _, _ => rfl
  | a :: x, b :: y, h, hn => by
    simp only [tl, Op.bytesLess, Bool.or_eq_false_iff, decide_eq_false_iff_not, Bool.and_eq_false_iff, beq_eq_false_iff_ne] at h
    simp only [tl, Op.bytesLess, Bool.or_eq_true, decide_eq_true_eq, Bool.and_eq_true, beq_iff_eq]
    obtain ⟨h1, h2⟩ := h
    by_cases hab : a = b
    · subst hab
      refine .inr ⟨rfl, tl_tri (h2.resolve_left (fun c => c rfl)) (fun c => hn (by rw [c]))⟩
    · refine .inl ?_
      rw [UInt8.lt_iff_toNat_lt] at h1 ⊢
      have : a.toNat ≠ b.toNat := fun c => hab (UInt8.toNat_inj.1 c)
      omega
theorem tl_asym {a b : Tx} (h : tl a b = true) : tl b a = false := by
  cases hb : tl b a
  · rfl
  · have := tl_trans h hb
    rw [tl_irr] at this
    cases this
theorem tl_ne {a b : Tx} (h : tl a b = true) : a ≠ b := fun c => by rw [c, tl_irr] at h; cases h
theorem cmpS_tl : ∀ a b : Tx, cmpS a b = if a = b then 0 else if tl a b = true then -1 else 1
  | [], [] => rfl
  | [], _ :: _ => by simp [cmpS, tl, Op.bytesLess]
  | _ :: _, [] => by simp [cmpS, tl, Op.bytesLess]
  | a :: x, b :: y => by
    unfold cmpS
    have ih := cmpS_tl x y
    by_cases h1 : a < b
    · have hne : ¬ a = b := fun c => by rw [c] at h1; exact absurd h1 (UInt8.lt_irrefl b)
      rw [if_pos h1, if_neg (by simp [hne])]
      simp [tl, Op.bytesLess, h1]
    · rw [if_neg h1]
      by_cases h2 : b < a
      · have hne : ¬ a = b := fun c => by rw [c] at h2; exact absurd h2 (UInt8.lt_irrefl b)
        rw [if_pos h2, if_neg (by simp [hne])]
        simp [tl, Op.bytesLess, h1, hne]
      · have he : a = b := by
          apply UInt8.toNat_inj.1
          rw [UInt8.lt_iff_toNat_lt] at h1 h2
          omega
        subst he
        rw [if_neg h2, ih]
        simp [tl, Op.bytesLess]

/-! ### Sorted by a name -/
section
variable {α : Type} (key : α → Tx)
def Srt (l : List α) : Prop := l.Pairwise fun x y => tl (key x) (key y) = true
variable {key}
theorem Srt.filter {l : List α} (h : Srt key l) (p : α → Bool) : Srt key (l.filter p) := List.Pairwise.filter p h
theorem Srt.uniq : ∀ {l : List α}, Srt key l → ∀ {x y : α}, x ∈ l → y ∈ l → key x = key y → x = y
  | z :: l, h, x, y, hx, hy, he => by
    unfold Srt at h
    rw [List.pairwise_cons] at h
    rcases List.mem_cons.1 hx with h1 | h1 <;> rcases List.mem_cons.1 hy with h2 | h2
    · rw [h1, h2]
    · rw [h1] at he
      exact absurd he (tl_ne (h.1 y h2))
    · rw [h2] at he
      exact absurd he.symm (tl_ne (h.1 x h1))
    · exact Srt.uniq (l := l) h.2 h1 h2 he
theorem Srt.ext : ∀ {a b : List α}, Srt key a → Srt key b → (∀ x, x ∈ a ↔ x ∈ b) → a = b
  | [], [], _, _, _ => rfl
  | [], y :: b, _, _, h => absurd ((h y).2 (by simp)) (by simp)
  | x :: a, [], _, _, h => absurd ((h x).1 (by simp)) (by simp)
  | x :: a, y :: b, ha, hb, h => by
    unfold Srt at ha hb
    rw [List.pairwise_cons] at ha hb
    have hxy : x = y := by
      rcases List.mem_cons.1 ((h x).1 (by simp)) with h1 | h1
      · exact h1
      · rcases List.mem_cons.1 ((h y).2 (by simp)) with h2 | h2
        · exact h2.symm
        · have h3 := hb.1 x h1
          have h4 := ha.1 y h2
          rw [tl_asym h3] at h4
          cases h4
    subst hxy
    congr 1
    refine Srt.ext (a := a) (b := b) ha.2 hb.2 fun z => ⟨fun hz => ?_, fun hz => ?_⟩
    · rcases List.mem_cons.1 ((h z).1 (List.mem_cons_of_mem _ hz)) with h1 | h1
      · have := ha.1 z hz
        rw [h1, tl_irr] at this
        cases this
      · exact h1
    · rcases List.mem_cons.1 ((h z).2 (List.mem_cons_of_mem _ hz)) with h1 | h1
      · have := hb.1 z hz
        rw [h1, tl_irr] at this
        cases this
      · exact h1
theorem Srt.map {β : Type} {kb : β → Tx} {f : α → β} (hf : ∀ x, kb (f x) = key x) {l : List α} (h : Srt key l) : Srt kb (l.map f) := by
  unfold Srt
  rw [List.pairwise_map]
  exact h.imp fun {a b} hab => by rw [hf, hf]; exact hab
/-- How many stand ahead of a name. -/
def pos (key : α → Tx) (l : List α) (x : Tx) : Nat := (l.takeWhile fun e => tl (key e) x).length
theorem pos_le (l : List α) (x : Tx) : pos key l x ≤ l.length := (List.takeWhile_sublist _).length_le
theorem mem_tw {p : α → Bool} : ∀ {l : List α} {e : α}, e ∈ l.takeWhile p → p e = true
  | [], e, h => by simp at h
  | a :: l, e, h => by
    rw [List.takeWhile_cons] at h
    split at h
    · rename_i ha
      rcases List.mem_cons.1 h with rfl | h
      · exact ha
      · exact mem_tw h
    · cases h
theorem tw_take (p : α → Bool) : ∀ l : List α, l.take (l.takeWhile p).length = l.takeWhile p
  | [] => rfl
  | a :: l => by
    rw [List.takeWhile_cons]
    split
    · rw [List.length_cons, List.take_succ_cons, tw_take p l]
    · rfl
theorem tw_drop (p : α → Bool) : ∀ l : List α, l.drop (l.takeWhile p).length = l.dropWhile p
  | [] => rfl
  | a :: l => by
    rw [List.takeWhile_cons, List.dropWhile_cons]
    split
    · rw [List.length_cons, List.drop_succ_cons, tw_drop p l]
    · rfl
theorem pos_take (l : List α) (x : Tx) : ∀ e ∈ l.take (pos key l x), tl (key e) x = true := by
  intro e he
  unfold pos at he
  rw [tw_take] at he
  exact mem_tw (p := fun e => tl (key e) x) he
theorem Srt.pos_drop {l : List α} (h : Srt key l) (x : Tx) : ∀ e ∈ l.drop (pos key l x), tl (key e) x = false := by
  intro e he
  have hd : l.drop (pos key l x) = l.dropWhile fun e => tl (key e) x := tw_drop _ l
  rw [hd] at he
  cases hq : l.dropWhile (fun e => tl (key e) x) with
  | nil => rw [hq] at he; cases he
  | cons y r =>
    have hy : tl (key y) x = false := by
      have := List.head?_dropWhile_not (fun e => tl (key e) x) l
      rw [hq] at this
      simpa using this
    rw [hq] at he
    have hs : Srt key (y :: r) := by
      rw [← hq, ← hd]
      exact List.Pairwise.sublist (List.drop_sublist _ _) h
    unfold Srt at hs
    rw [List.pairwise_cons] at hs
    rcases List.mem_cons.1 he with rfl | he
    · exact hy
    · cases hc : tl (key e) x
      · rfl
      · rw [tl_trans (hs.1 e he) hc] at hy
        cases hy
/-- A place that parts what is ahead of a name from the rest is that place. -/
theorem pos_eq {l : List α} {x : Tx} {i : Nat} (hi : i ≤ l.length) (h1 : ∀ e ∈ l.take i, tl (key e) x = true) (h2 : ∀ e ∈ l.drop i, tl (key e) x = false) : pos key l x = i := by
  unfold pos
  conv => lhs; rw [← List.take_append_drop i l]
  rw [List.takeWhile_append_of_pos h1]
  have : (l.drop i).takeWhile (fun e => tl (key e) x) = [] := by
    cases hd : l.drop i with
    | nil => rfl
    | cons y r => rw [List.takeWhile_cons_of_neg (by rw [h2 y (by rw [hd]; simp)]; simp)]
  rw [this, List.append_nil, List.length_take]
  omega
/-- One put at its place. -/
theorem Srt.ins {l : List α} (h : Srt key l) (f : α) (hn : ∀ e ∈ l, key e ≠ key f) : Srt key (l.take (pos key l (key f)) ++ f :: l.drop (pos key l (key f))) := by
  have h1 := pos_take (key := key) l (key f)
  have h2 := h.pos_drop (key f)
  have hs := h
  generalize pos key l (key f) = i at *
  unfold Srt at *
  rw [← List.take_append_drop i l, List.pairwise_append] at hs
  rw [List.pairwise_append]
  refine ⟨hs.1, ?_, fun a ha b hb => ?_⟩
  · rw [List.pairwise_cons]
    exact ⟨fun y hy => tl_tri (h2 y hy) (hn y (List.mem_of_mem_drop hy)), hs.2.1⟩
  · rcases List.mem_cons.1 hb with rfl | hb
    · exact h1 a ha
    · exact hs.2.2 a ha b hb
theorem mem_ins {l : List α} {i : Nat} {f g : α} : g ∈ l.take i ++ f :: l.drop i ↔ g = f ∨ g ∈ l := by
  have : g ∈ l ↔ g ∈ l.take i ∨ g ∈ l.drop i := by rw [← List.mem_append, List.take_append_drop]
  rw [this, List.mem_append, List.mem_cons]
  constructor
  · rintro (h | h | h)
    · exact .inr (.inl h)
    · exact .inl h
    · exact .inr (.inr h)
  · rintro (h | h | h)
    · exact .inr (.inl h)
    · exact .inl h
    · exact .inr (.inr h)
end

/-! ### Files -/
structure DF where
  n : Tx
  s : Tx
  p : Bool
  deriving Inhabited, DecidableEq
def DF.v (f : DF) : List V := [.str f.n, .str f.s, .bool f.p]
structure DE where
  n : Tx
  a : Bool
  s : Tx
  b : Bool
  s2 : Tx
  how : Nat
  deriving Inhabited, DecidableEq
def DE.v (e : DE) : List V := [.str e.n, .bool e.a, .str e.s, .bool e.b, .str e.s2, .int .i64 (e.how : Int)]
def woF (l : List DF) (x : Tx) : List DF := l.filter fun g => !decide (g.n = x)
def withF (l : List DF) (f : DF) : List DF := (woF l f.n).take (pos DF.n (woF l f.n) f.n) ++ f :: (woF l f.n).drop (pos DF.n (woF l f.n) f.n)
theorem mem_wo {l : List DF} {x : Tx} {g : DF} : g ∈ woF l x ↔ g ∈ l ∧ g.n ≠ x := by simp [woF]
theorem mem_with {l : List DF} {f g : DF} : g ∈ withF l f ↔ g = f ∨ (g ∈ l ∧ g.n ≠ f.n) := by
  unfold withF
  rw [mem_ins, mem_wo]
theorem srt_wo {l : List DF} (h : Srt DF.n l) (x : Tx) : Srt DF.n (woF l x) := h.filter _
theorem srt_with {l : List DF} (h : Srt DF.n l) (f : DF) : Srt DF.n (withF l f) := (srt_wo h f.n).ins f fun e he => (mem_wo.1 he).2
def fileOf (e : DE) : DF := ⟨e.n, e.s, decide (e.how = 1)⟩
def sureOf (e : DE) : DF := ⟨e.n, e.s2, false⟩
def nowL (l : List DE) : List DF := (l.filter (·.a)).map fileOf
def sureL (l : List DE) : List DF := (l.filter (·.b)).map sureOf
theorem mem_now {l : List DE} {g : DF} : g ∈ nowL l ↔ ∃ e ∈ l, e.a = true ∧ g = fileOf e := by
  unfold nowL
  rw [List.mem_map]
  constructor
  · rintro ⟨e, he, rfl⟩
    rw [List.mem_filter] at he
    exact ⟨e, he.1, he.2, rfl⟩
  · rintro ⟨e, h1, h2, rfl⟩
    exact ⟨e, List.mem_filter.2 ⟨h1, h2⟩, rfl⟩
theorem mem_sure {l : List DE} {g : DF} : g ∈ sureL l ↔ ∃ e ∈ l, e.b = true ∧ g = sureOf e := by
  unfold sureL
  rw [List.mem_map]
  constructor
  · rintro ⟨e, he, rfl⟩
    rw [List.mem_filter] at he
    exact ⟨e, he.1, he.2, rfl⟩
  · rintro ⟨e, h1, h2, rfl⟩
    exact ⟨e, List.mem_filter.2 ⟨h1, h2⟩, rfl⟩
theorem srt_now {l : List DE} (h : Srt DE.n l) : Srt DF.n (nowL l) := Srt.map (f := fileOf) (fun _ => rfl) (h.filter _)
theorem srt_sure {l : List DE} (h : Srt DE.n l) : Srt DF.n (sureL l) := Srt.map (f := sureOf) (fun _ => rfl) (h.filter _)
/-- An entry's name, if there is one. -/
def hasE (l : List DE) (x : Tx) : Bool := l.any fun e => decide (e.n = x)
theorem hasE_iff {l : List DE} {x : Tx} : hasE l x = true ↔ ∃ e ∈ l, e.n = x := by simp [hasE]
def setE (x : Tx) (a : Bool) (s : Tx) (how : Nat) (e : DE) : DE := if e.n = x then { e with a := a, s := s, how := how } else e
def newE (x : Tx) (a : Bool) (s : Tx) (how : Nat) : DE := ⟨x, a, s, false, [], how⟩
def layL (l : List DE) (x : Tx) (a : Bool) (s : Tx) (how : Nat) : List DE :=
  if hasE l x = true then l.map (setE x a s how) else l.take (pos DE.n l x) ++ newE x a s how :: l.drop (pos DE.n l x)
theorem setE_n (x : Tx) (a : Bool) (s : Tx) (how : Nat) (e : DE) : (setE x a s how e).n = e.n := by unfold setE; split <;> rfl
theorem srt_lay {l : List DE} (h : Srt DE.n l) (x : Tx) (a : Bool) (s : Tx) (how : Nat) : Srt DE.n (layL l x a s how) := by
  unfold layL
  split
  · exact Srt.map (f := setE x a s how) (setE_n x a s how) h
  · rename_i hn
    exact h.ins (newE x a s how) fun e he hc => hn (hasE_iff.2 ⟨e, he, hc⟩)
theorem mem_lay {l : List DE} {x : Tx} {a : Bool} {s : Tx} {how : Nat} {g : DE} : g ∈ layL l x a s how ↔ (g ∈ l ∧ g.n ≠ x) ∨ (∃ e ∈ l, e.n = x ∧ g = { e with a := a, s := s, how := how }) ∨ (hasE l x = false ∧ g = newE x a s how) := by
  unfold layL
  split
  · rename_i hh
    rw [List.mem_map]
    constructor
    · rintro ⟨e, he, rfl⟩
      unfold setE
      split
      · rename_i hx; exact .inr (.inl ⟨e, he, hx, rfl⟩)
      · rename_i hx; exact .inl ⟨he, hx⟩
    · rintro (⟨h1, h2⟩ | ⟨e, h1, h2, rfl⟩ | ⟨h1, _⟩)
      · exact ⟨g, h1, by unfold setE; rw [if_neg h2]⟩
      · exact ⟨e, h1, by unfold setE; rw [if_pos h2]⟩
      · rw [hh] at h1; cases h1
  · rename_i hn
    rw [mem_ins]
    constructor
    · rintro (rfl | h)
      · exact .inr (.inr ⟨by simpa using hn, rfl⟩)
      · exact .inl ⟨h, fun hc => hn (hasE_iff.2 ⟨g, h, hc⟩)⟩
    · rintro (⟨h1, _⟩ | ⟨e, h1, h2, _⟩ | ⟨_, rfl⟩)
      · exact .inr h1
      · exact absurd (hasE_iff.2 ⟨e, h1, h2⟩) hn
      · exact .inl rfl
theorem now_lay {l : List DE} (h : Srt DE.n l) (x s : Tx) (how : Nat) : nowL (layL l x true s how) = withF (nowL l) ⟨x, s, decide (how = 1)⟩ := by
  refine (srt_now (srt_lay h x true s how)).ext (srt_with (srt_now h) _) fun g => ?_
  rw [mem_now, mem_with]
  constructor
  · rintro ⟨e, he, ha, rfl⟩
    rcases mem_lay.1 he with ⟨h1, h2⟩ | ⟨e2, h1, h2, rfl⟩ | ⟨_, rfl⟩
    · exact .inr ⟨mem_now.2 ⟨e, h1, ha, rfl⟩, h2⟩
    · exact .inl (by rw [← h2]; rfl)
    · exact .inl rfl
  · rintro (rfl | ⟨hg, hn⟩)
    · by_cases hh : hasE l x = true
      · obtain ⟨e, h1, h2⟩ := hasE_iff.1 hh
        exact ⟨_, mem_lay.2 (.inr (.inl ⟨e, h1, h2, rfl⟩)), rfl, by rw [← h2]; rfl⟩
      · exact ⟨_, mem_lay.2 (.inr (.inr ⟨by simpa using hh, rfl⟩)), rfl, rfl⟩
    · obtain ⟨e, h1, h2, rfl⟩ := mem_now.1 hg
      exact ⟨e, mem_lay.2 (.inl ⟨h1, hn⟩), h2, rfl⟩
theorem now_lay_no {l : List DE} (h : Srt DE.n l) (x s : Tx) (how : Nat) : nowL (layL l x false s how) = woF (nowL l) x := by
  refine (srt_now (srt_lay h x false s how)).ext (srt_wo (srt_now h) _) fun g => ?_
  rw [mem_now, mem_wo]
  constructor
  · rintro ⟨e, he, ha, rfl⟩
    rcases mem_lay.1 he with ⟨h1, h2⟩ | ⟨e2, h1, h2, rfl⟩ | ⟨_, rfl⟩
    · exact ⟨mem_now.2 ⟨e, h1, ha, rfl⟩, h2⟩
    · cases ha
    · cases ha
  · rintro ⟨hg, hn⟩
    obtain ⟨e, h1, h2, rfl⟩ := mem_now.1 hg
    exact ⟨e, mem_lay.2 (.inl ⟨h1, hn⟩), h2, rfl⟩
theorem sure_lay {l : List DE} (h : Srt DE.n l) (x : Tx) (a : Bool) (s : Tx) (how : Nat) : sureL (layL l x a s how) = sureL l := by
  refine (srt_sure (srt_lay h x a s how)).ext (srt_sure h) fun g => ?_
  rw [mem_sure, mem_sure]
  constructor
  · rintro ⟨e, he, ha, rfl⟩
    rcases mem_lay.1 he with ⟨h1, h2⟩ | ⟨e2, h1, h2, rfl⟩ | ⟨_, rfl⟩
    · exact ⟨e, h1, ha, rfl⟩
    · exact ⟨e2, h1, ha, rfl⟩
    · cases ha
  · rintro ⟨e, h1, h2, rfl⟩
    by_cases hx : e.n = x
    · exact ⟨_, mem_lay.2 (.inr (.inl ⟨e, h1, hx, rfl⟩)), h2, rfl⟩
    · exact ⟨e, mem_lay.2 (.inl ⟨h1, hx⟩), h2, rfl⟩
theorem wo_with {l : List DF} (h : Srt DF.n l) {f : DF} {x : Tx} (hx : x ≠ f.n) : woF (withF l f) x = withF (woF l x) f := by
  refine (srt_wo (srt_with h f) x).ext (srt_with (srt_wo h x) f) fun g => ?_
  rw [mem_wo, mem_with, mem_with, mem_wo]
  constructor
  · rintro ⟨rfl | ⟨h1, h2⟩, h3⟩
    · exact .inl rfl
    · exact .inr ⟨⟨h1, h3⟩, h2⟩
  · rintro (rfl | ⟨⟨h1, h3⟩, h2⟩)
    · exact ⟨.inl rfl, fun c => hx c.symm⟩
    · exact ⟨.inr ⟨h1, h2⟩, h3⟩
end Go.Vm
/- Files: finding, sizes, what is loose; plain facts. -/
namespace Go.Vm
section
variable {α : Type} (key : α → Tx)
def fnd (l : List α) (x : Tx) : Option α := l.find? fun e => decide (key e = x)
variable {key}
theorem fnd_some {l : List α} (h : Srt key l) {x : Tx} {e : α} : fnd key l x = some e ↔ e ∈ l ∧ key e = x := by
  constructor
  · intro hf
    exact ⟨List.mem_of_find?_eq_some hf, by simpa using List.find?_some hf⟩
  · rintro ⟨h1, h2⟩
    cases hf : fnd key l x with
    | none =>
      have := List.find?_eq_none.1 hf e h1
      simp [h2] at this
    | some y =>
      have h3 := List.mem_of_find?_eq_some hf
      have h4 : key y = x := by simpa using List.find?_some hf
      rw [h.uniq h3 h1 (h4.trans h2.symm)]
theorem fnd_none {l : List α} {x : Tx} : fnd key l x = none ↔ ∀ e ∈ l, key e ≠ x := by
  unfold fnd
  rw [List.find?_eq_none]
  simp
end
theorem hasE_fnd (l : List DE) (x : Tx) : hasE l x = (fnd DE.n l x).isSome := by
  unfold hasE fnd
  induction l with
  | nil => rfl
  | cons a l ih =>
    rw [List.any_cons, List.find?_cons, ih]
    by_cases h : a.n = x <;> simp [h]
/-- What a file is. -/
def faceA (l : List DE) (x : Tx) : Bool := ((fnd DE.n l x).map (·.a)).getD false
def faceS (l : List DE) (x : Tx) : Tx := ((fnd DE.n l x).map (·.s)).getD []
def OkE (l : List DE) : Prop := ∀ e ∈ l, (e.a = false → e.s = []) ∧ (e.b = false → e.s2 = [])
theorem fnd_now {l : List DE} (h : Srt DE.n l) (x : Tx) : fnd DF.n (nowL l) x = (fnd DE.n l x).bind fun e => if e.a = true then some (fileOf e) else none := by
  cases hf : fnd DE.n l x with
  | none =>
    rw [fnd_none] at hf
    rw [Option.bind_none, fnd_none]
    intro g hg
    obtain ⟨e, h1, _, rfl⟩ := mem_now.1 hg
    exact hf e h1
  | some e =>
    rw [fnd_some h] at hf
    rw [Option.bind_some]
    by_cases ha : e.a = true
    · rw [if_pos ha, fnd_some (srt_now h)]
      exact ⟨mem_now.2 ⟨e, hf.1, ha, rfl⟩, hf.2⟩
    · rw [if_neg ha, fnd_none]
      intro g hg hn
      obtain ⟨e2, h1, h2, rfl⟩ := mem_now.1 hg
      have : e2 = e := h.uniq h1 hf.1 (Eq.trans (show e2.n = x from hn) hf.2.symm)
      rw [this] at h2
      exact ha h2
theorem fnd_sure {l : List DE} (h : Srt DE.n l) (x : Tx) : fnd DF.n (sureL l) x = (fnd DE.n l x).bind fun e => if e.b = true then some (sureOf e) else none := by
  cases hf : fnd DE.n l x with
  | none =>
    rw [fnd_none] at hf
    rw [Option.bind_none, fnd_none]
    intro g hg
    obtain ⟨e, h1, _, rfl⟩ := mem_sure.1 hg
    exact hf e h1
  | some e =>
    rw [fnd_some h] at hf
    rw [Option.bind_some]
    by_cases ha : e.b = true
    · rw [if_pos ha, fnd_some (srt_sure h)]
      exact ⟨mem_sure.2 ⟨e, hf.1, ha, rfl⟩, hf.2⟩
    · rw [if_neg ha, fnd_none]
      intro g hg hn
      obtain ⟨e2, h1, h2, rfl⟩ := mem_sure.1 hg
      have : e2 = e := h.uniq h1 hf.1 (Eq.trans (show e2.n = x from hn) hf.2.symm)
      rw [this] at h2
      exact ha h2
/-- What is found as a file, in the program and in the document. -/
def fS (o : Option DF) : Tx := (o.map (·.s)).getD []
theorem face_now {l : List DE} (h : Srt DE.n l) (ho : OkE l) (x : Tx) : (fnd DF.n (nowL l) x).isSome = faceA l x ∧ fS (fnd DF.n (nowL l) x) = faceS l x := by
  rw [fnd_now h]
  unfold faceA faceS fS
  cases hf : fnd DE.n l x with
  | none => exact ⟨rfl, rfl⟩
  | some e =>
    have he := ((fnd_some h).1 hf).1
    cases ha : e.a
    · simp [ha, (ho e he).1 ha]
    · simp [ha, fileOf]

/-! ### Sizes -/
def sizeF (l : List DF) : Nat := (l.map (·.s.length)).sum
def usedL (l : List DE) : Nat := (l.map (·.s.length)).sum
theorem used_now {l : List DE} (h : OkE l) : usedL l = sizeF (nowL l) := by
  unfold usedL sizeF nowL
  induction l with
  | nil => rfl
  | cons e l ih =>
    have ih := ih fun x hx => h x (List.mem_cons_of_mem _ hx)
    have he := (h e (by simp)).1
    rw [List.map_cons, List.sum_cons, ih, List.filter_cons]
    cases ha : e.a
    · rw [he ha]; simp
    · simp [fileOf]
theorem size_ins (l : List DF) (i : Nat) (f : DF) : sizeF (l.take i ++ f :: l.drop i) = sizeF l + f.s.length := by
  have : sizeF l = sizeF (l.take i) + sizeF (l.drop i) := by
    unfold sizeF
    rw [← List.sum_append, ← List.map_append, List.take_append_drop]
  rw [this]
  unfold sizeF
  rw [List.map_append, List.sum_append, List.map_cons, List.sum_cons]
  omega
theorem size_with (l : List DF) (f : DF) : sizeF (withF l f) = sizeF (woF l f.n) + f.s.length := size_ins _ _ _
theorem wo_none {l : List DF} {x : Tx} (h : ∀ g ∈ l, g.n ≠ x) : woF l x = l := by
  unfold woF
  rw [List.filter_eq_self]
  intro g hg
  simp [h g hg]
theorem size_wo : ∀ {l : List DF}, Srt DF.n l → ∀ x, sizeF l = sizeF (woF l x) + (fS (fnd DF.n l x)).length
  | [], _, x => rfl
  | g :: l, h, x => by
    unfold Srt at h
    rw [List.pairwise_cons] at h
    have ih := size_wo (l := l) h.2 x
    have e1 : sizeF (g :: l) = g.s.length + sizeF l := by unfold sizeF; rw [List.map_cons, List.sum_cons]
    by_cases hx : g.n = x
    · have hno : ∀ f ∈ l, f.n ≠ x := fun f hf c => tl_ne (h.1 f hf) (by rw [hx, c])
      have e2 : woF (g :: l) x = l := by
        unfold woF
        rw [List.filter_cons]
        rw [if_neg (by simp [hx])]
        exact wo_none hno
      have e3 : fnd DF.n (g :: l) x = some g := by unfold fnd; rw [List.find?_cons]; simp [hx]
      rw [e1, e2, e3]
      simp [fS]
      omega
    · have e2 : woF (g :: l) x = g :: woF l x := by
        unfold woF
        rw [List.filter_cons, if_pos (by simp [hx])]
      have e3 : fnd DF.n (g :: l) x = fnd DF.n l x := by unfold fnd; rw [List.find?_cons]; simp [hx]
      have e4 : sizeF (g :: woF l x) = g.s.length + sizeF (woF l x) := by unfold sizeF; rw [List.map_cons, List.sum_cons]
      rw [e1, e2, e3, e4]
      omega

/-! ### All made sure -/
def syncE (e : DE) : DE := { e with b := e.a, s2 := e.s, how := 0 }
def syncL (l : List DE) : List DE := (l.map syncE).filter fun e => e.a || e.b
def calm (g : DF) : DF := { g with p := false }
theorem now_sync (l : List DE) : nowL (syncL l) = (nowL l).map calm := by
  unfold nowL syncL
  induction l with
  | nil => rfl
  | cons e l ih =>
    cases ha : e.a <;> simp [syncE, ha, fileOf, calm] at ih ⊢ <;> exact ih
theorem sure_sync (l : List DE) : sureL (syncL l) = (nowL l).map calm := by
  unfold nowL sureL syncL
  induction l with
  | nil => rfl
  | cons e l ih =>
    cases ha : e.a <;> simp [syncE, ha, fileOf, sureOf, calm] at ih ⊢ <;> exact ih
theorem srt_sync {l : List DE} (h : Srt DE.n l) : Srt DE.n (syncL l) := Srt.filter (Srt.map (f := syncE) (fun _ => rfl) h) _
theorem ok_sync {l : List DE} (h : OkE l) : OkE (syncL l) := by
  intro e he
  obtain ⟨e2, h1, rfl⟩ := List.mem_map.1 (List.mem_filter.1 he).1
  exact ⟨(h e2 h1).1, (h e2 h1).1⟩
theorem ok_lay {l : List DE} (h : OkE l) {x : Tx} {a : Bool} {s : Tx} {how : Nat} (hs : a = false → s = []) : OkE (layL l x a s how) := by
  intro e he
  rcases mem_lay.1 he with ⟨h1, h2⟩ | ⟨e2, h1, h2, rfl⟩ | ⟨_, rfl⟩
  · exact h e h1
  · exact ⟨hs, (h e2 h1).2⟩
  · exact ⟨hs, fun _ => rfl⟩
theorem len_lay (l : List DE) (x : Tx) (a : Bool) (s : Tx) (how : Nat) : (layL l x a s how).length ≤ l.length + 1 := by
  unfold layL
  have := pos_le (key := DE.n) l x
  split
  · simp
  · simp
    omega
theorem len_sync (l : List DE) : (syncL l).length ≤ l.length := by
  unfold syncL
  exact Nat.le_trans (List.length_filter_le _ _) (by simp)

/-! ### What is loose -/
def allF (now : List DF) (sure : List DF) : List DF := sure.foldl (fun all g => if (fnd DF.n now g.n).isSome = true then all else withF all g) now
def looP (now sure : List DF) (g : DF) : Bool := ((fnd DF.n now g.n).isSome != (fnd DF.n sure g.n).isSome) || !decide (fS (fnd DF.n now g.n) = fS (fnd DF.n sure g.n))
def looN (now sure : List DF) : List Tx := ((allF now sure).filter (looP now sure)).map DF.n
def looE (e : DE) : Bool := !(decide (e.a = e.b) && decide (e.s = e.s2))
theorem allF_srt (now : List DF) : ∀ (sure all : List DF), Srt DF.n all → Srt DF.n (sure.foldl (fun all g => if (fnd DF.n now g.n).isSome = true then all else withF all g) all)
  | [], all, h => h
  | g :: r, all, h => by
    rw [List.foldl_cons]
    split
    · exact allF_srt now r all h
    · exact allF_srt now r _ (srt_with h g)
theorem allF_names (now : List DF) : ∀ (sure all : List DF) (x : Tx), (∃ g ∈ sure.foldl (fun all g => if (fnd DF.n now g.n).isSome = true then all else withF all g) all, g.n = x) ↔ (∃ g ∈ all, g.n = x) ∨ ∃ g ∈ sure, g.n = x ∧ (fnd DF.n now x).isSome = false
  | [], all, x => by simp
  | f :: r, all, x => by
    rw [List.foldl_cons]
    split
    · rename_i hf
      rw [allF_names now r all x]
      refine or_congr Iff.rfl ⟨fun ⟨g, h1, h2⟩ => ⟨g, List.mem_cons_of_mem _ h1, h2⟩, fun ⟨g, h1, h2, h3⟩ => ?_⟩
      rcases List.mem_cons.1 h1 with rfl | h1
      · rw [h2, h3] at hf; cases hf
      · exact ⟨g, h1, h2, h3⟩
    · rename_i hf
      rw [allF_names now r _ x]
      constructor
      · rintro (⟨g, h1, h2⟩ | ⟨g, h1, h2, h3⟩)
        · rcases mem_with.1 h1 with rfl | ⟨h1, _⟩
          · exact .inr ⟨g, by simp, h2, by rw [← h2]; simpa using hf⟩
          · exact .inl ⟨g, h1, h2⟩
        · exact .inr ⟨g, List.mem_cons_of_mem _ h1, h2, h3⟩
      · rintro (⟨g, h1, h2⟩ | ⟨g, h1, h2, h3⟩)
        · by_cases hn : g.n = f.n
          · exact .inl ⟨f, mem_with.2 (.inl rfl), by rw [← hn, h2]⟩
          · exact .inl ⟨g, mem_with.2 (.inr ⟨h1, hn⟩), h2⟩
        · rcases List.mem_cons.1 h1 with rfl | h1
          · exact .inl ⟨g, mem_with.2 (.inl rfl), h2⟩
          · exact .inr ⟨g, h1, h2, h3⟩
theorem loo_eq {l : List DE} (h : Srt DE.n l) (ho : OkE l) : looN (nowL l) (sureL l) = (l.filter looE).map DE.n := by
  refine Srt.ext (key := id) (Srt.map (kb := id) (f := DF.n) (fun _ => rfl) ((allF_srt _ _ _ (srt_now h)).filter _)) (Srt.map (kb := id) (f := DE.n) (fun _ => rfl) (h.filter _)) fun x => ?_
  have hP : ∀ g : DF, g.n = x → looP (nowL l) (sureL l) g = (match fnd DE.n l x with | some e => looE e | none => false) := by
    intro g hg
    unfold looP
    rw [hg, fnd_now h, fnd_sure h]
    cases hf : fnd DE.n l x with
    | none => rfl
    | some e =>
      have he := ho e ((fnd_some h).1 hf).1
      cases ha : e.a <;> cases hb : e.b <;> simp [ha, hb, looE, fS, fileOf, sureOf, he.1, he.2]
  have h1 : x ∈ looN (nowL l) (sureL l) ↔ (∃ g ∈ allF (nowL l) (sureL l), g.n = x) ∧ (match fnd DE.n l x with | some e => looE e | none => false) = true := by
    unfold looN
    rw [List.mem_map]
    constructor
    · rintro ⟨g, hg, hx⟩
      rw [List.mem_filter] at hg
      rw [hP g hx] at hg
      exact ⟨⟨g, hg.1, hx⟩, hg.2⟩
    · rintro ⟨⟨g, hg, hx⟩, h2⟩
      exact ⟨g, List.mem_filter.2 ⟨hg, by rw [hP g hx]; exact h2⟩, hx⟩
  rw [h1, show (∃ g ∈ allF (nowL l) (sureL l), g.n = x) ↔ _ from allF_names (nowL l) (sureL l) (nowL l) x, List.mem_map]
  constructor
  · rintro ⟨_, h2⟩
    cases hf : fnd DE.n l x with
    | none => rw [hf] at h2; cases h2
    | some e =>
      rw [hf] at h2
      have := (fnd_some h).1 hf
      exact ⟨e, List.mem_filter.2 ⟨this.1, h2⟩, this.2⟩
  · rintro ⟨e, he, hx⟩
    rw [List.mem_filter] at he
    have hf := (fnd_some h).2 ⟨he.1, hx⟩
    rw [hf]
    refine ⟨?_, he.2⟩
    have hoe := ho e he.1
    cases ha : e.a
    · cases hb : e.b
      · have := he.2
        simp [looE, ha, hb, hoe.1 ha, hoe.2 hb] at this
      · refine .inr ⟨sureOf e, mem_sure.2 ⟨e, he.1, hb, rfl⟩, hx, ?_⟩
        rw [fnd_now h, hf]
        simp [ha]
    · exact .inl ⟨fileOf e, mem_now.2 ⟨e, he.1, ha, rfl⟩, hx⟩
end Go.Vm
/- Files: where a name stands; what is laid there; plain facts. -/
namespace Go.Vm
theorem splice_mid {A B C cs : List V} {j : Nat} (h : j + cs.length ≤ B.length) : splice (A ++ (B ++ C)) (A.length + j) cs = A ++ (splice B j cs ++ C) := by
  unfold splice
  rw [List.take_append, List.take_of_length_le (by omega), show A.length + j - A.length = j by omega, List.take_append, show j - B.length = 0 by omega]
  rw [List.drop_append, List.drop_of_length_le (by omega : A.length ≤ A.length + j + cs.length), show A.length + j + cs.length - A.length = j + cs.length by omega, List.drop_append, show j + cs.length - B.length = 0 by omega]
  simp
theorem rows_splice {α : Type} [Inhabited α] {f : α → List V} {c : Nat} (hc : ∀ a, (f a).length = c) {l : List α} {i j : Nat} {cs : List V} {e : α} (hi : i < l.length) (hj : j + cs.length ≤ c) (he : f e = splice (f (gt l i)) j cs) : splice (rows f l) (i * c + j) cs = rows f (l.set i e) := by
  have e1 : l = l.take i ++ gt l i :: l.drop (i + 1) := by rw [gt_eq hi, List.getElem_cons_drop, List.take_append_drop]
  have e2 : rows f l = rows f (l.take i) ++ (f (gt l i) ++ rows f (l.drop (i + 1))) := by conv => lhs; rw [e1, rows_append, rows_cons]
  have e3 : (rows f (l.take i)).length = i * c := by rw [rows_length hc, List.length_take, Nat.min_eq_left (by omega)]
  rw [e2, ← e3, splice_mid (by rw [hc]; exact hj), ← he, List.set_eq_take_append_cons_drop, if_pos hi, rows_append, rows_cons]
section
variable {α : Type} [Inhabited α] {key : α → Tx}
theorem Srt.at_lt {l : List α} (h : Srt key l) {i j : Nat} (hj : j < l.length) (hi : i < j) : tl (key (gt l i)) (key (gt l j)) = true := by
  have := List.pairwise_iff_getElem.1 h i j (by omega) hj hi
  rw [gt_eq (by omega), gt_eq hj]
  exact this
theorem mem_take_at {l : List α} {i : Nat} (hi : i ≤ l.length) {e : α} : e ∈ l.take i ↔ ∃ k, k < i ∧ e = gt l k := by
  rw [List.mem_take_iff_getElem]
  constructor
  · rintro ⟨k, hk, rfl⟩
    exact ⟨k, by omega, by rw [gt_eq (by omega)]⟩
  · rintro ⟨k, hk, rfl⟩
    exact ⟨k, by omega, by rw [gt_eq (by omega)]⟩
theorem mem_drop_at {l : List α} {i : Nat} {e : α} : e ∈ l.drop i ↔ ∃ k, i ≤ k ∧ k < l.length ∧ e = gt l k := by
  rw [List.mem_drop_iff_getElem]
  constructor
  · rintro ⟨k, hk, rfl⟩
    exact ⟨i + k, by omega, by omega, by rw [gt_eq (by omega)]⟩
  · rintro ⟨k, h1, hk, rfl⟩
    exact ⟨k - i, by omega, by rw [gt_eq (by omega)]; congr 1; omega⟩
theorem Srt.up {l : List α} (h : Srt key l) {x : Tx} {m : Nat} (hm : m < l.length) (hx : tl (key (gt l m)) x = true) : ∀ e ∈ l.take (m + 1), tl (key e) x = true := by
  intro e he
  obtain ⟨k, hk, rfl⟩ := (mem_take_at (by omega)).1 he
  rcases Nat.lt_or_ge k m with h1 | h1
  · exact tl_trans (h.at_lt hm h1) hx
  · obtain rfl : k = m := by omega
    exact hx
theorem Srt.down {l : List α} (h : Srt key l) {x : Tx} {m : Nat} (hm : m < l.length) (hx : tl (key (gt l m)) x = false) : ∀ e ∈ l.drop m, tl (key e) x = false := by
  intro e he
  obtain ⟨k, hk, hk2, rfl⟩ := mem_drop_at.1 he
  rcases Nat.lt_or_ge m k with h1 | h1
  · cases hc : tl (key (gt l k)) x
    · rfl
    · rw [tl_trans (h.at_lt hk2 h1) hc] at hx; cases hx
  · obtain rfl : k = m := by omega
    exact hx
theorem pos_hit {l : List α} (h : Srt key l) (x : Tx) : fnd key l x = if pos key l x < l.length then if key (gt l (pos key l x)) = x then some (gt l (pos key l x)) else none else none := by
  have h1 := pos_take (key := key) l x
  have h2 := h.pos_drop x
  have h3 := pos_le (key := key) l x
  generalize pos key l x = i at *
  split
  · rename_i hi
    split
    · rename_i hx
      exact (fnd_some h).2 ⟨by rw [gt_eq hi]; exact List.getElem_mem hi, hx⟩
    · rename_i hx
      rw [fnd_none]
      intro e he hex
      have hm : e ∈ l.take i ∨ e ∈ l.drop i := by rw [← List.mem_append, List.take_append_drop]; exact he
      rcases hm with hm | hm
      · have := h1 e hm
        rw [hex, tl_irr] at this
        cases this
      · obtain ⟨k, hk, hk2, rfl⟩ := mem_drop_at.1 hm
        rcases Nat.lt_or_ge i k with h4 | h4
        · have h5 := h.at_lt hk2 h4
          rw [hex] at h5
          have h6 := h2 (gt l i) (mem_drop_at.2 ⟨i, by omega, hi, rfl⟩)
          rw [h5] at h6
          cases h6
        · obtain rfl : k = i := by omega
          exact hx hex
  · rename_i hi
    rw [fnd_none]
    intro e he hex
    have := h1 e (by rw [List.take_of_length_le (by omega)]; exact he)
    rw [hex, tl_irr] at this
    cases this
end
def upE (e : DE) (a : Bool) (s : Tx) (how : Nat) : DE := { e with a := a, s := s, how := how }
theorem lay_hit {l : List DE} (h : Srt DE.n l) {x : Tx} (hi : pos DE.n l x < l.length) (hx : (gt l (pos DE.n l x)).n = x) (a : Bool) (s : Tx) (how : Nat) : layL l x a s how = l.set (pos DE.n l x) (upE (gt l (pos DE.n l x)) a s how) := by
  unfold layL
  rw [if_pos (hasE_iff.2 ⟨gt l (pos DE.n l x), by rw [gt_eq hi]; exact List.getElem_mem hi, hx⟩)]
  generalize pos DE.n l x = i at *
  apply List.ext_getElem
  · simp
  · intro k h1 h2
    rw [List.length_map] at h1
    rw [List.getElem_map, List.getElem_set]
    have hk : l[k] = gt l k := (gt_eq h1).symm
    split
    · rename_i he
      subst he
      unfold setE upE
      rw [hk, if_pos hx]
    · rename_i he
      unfold setE
      rw [if_neg]
      intro hc
      rw [hk] at hc
      rcases Nat.lt_or_gt_of_ne he with h4 | h4
      · exact tl_ne (h.at_lt h1 h4) (by rw [hx, hc])
      · exact tl_ne (h.at_lt hi h4) (by rw [hx, hc])
def e0 (x : Tx) : DE := ⟨x, false, [], false, [], 0⟩
theorem lay_miss {l : List DE} {x : Tx} (hm : fnd DE.n l x = none) (a : Bool) (s : Tx) (how : Nat) : layL l x a s how = (l.take (pos DE.n l x) ++ e0 x :: l.drop (pos DE.n l x)).set (pos DE.n l x) (upE (e0 x) a s how) ∧ gt (l.take (pos DE.n l x) ++ e0 x :: l.drop (pos DE.n l x)) (pos DE.n l x) = e0 x := by
  have hl := pos_le (key := DE.n) l x
  have hh : ¬ hasE l x = true := by rw [hasE_fnd, hm]; simp
  unfold layL
  rw [if_neg hh]
  generalize pos DE.n l x = i at *
  have hl1 : (l.take i).length = i := by simp; omega
  constructor
  · rw [List.set_append_right _ _ (by omega), hl1, Nat.sub_self]
    rfl
  · rw [gt_eq (by simp; omega), List.getElem_append_right (by omega)]
    simp [hl1]
theorem face_hit {l : List DE} (h : Srt DE.n l) {x : Tx} (hi : pos DE.n l x < l.length) (hx : (gt l (pos DE.n l x)).n = x) : faceA l x = (gt l (pos DE.n l x)).a ∧ faceS l x = (gt l (pos DE.n l x)).s := by
  unfold faceA faceS
  rw [pos_hit h x, if_pos hi, if_pos hx]
  exact ⟨rfl, rfl⟩
theorem face_miss {l : List DE} {x : Tx} (hm : fnd DE.n l x = none) : faceA l x = false ∧ faceS l x = [] := by
  unfold faceA faceS
  rw [hm]
  exact ⟨rfl, rfl⟩
theorem DE.v_len (e : DE) : e.v.length = 6 := rfl
theorem elen (l : List DE) : (rows DE.v l).length = l.length * 6 := rows_length DE.v_len l
theorem erow (l : List DE) (i : Nat) (h : i < l.length) : ((rows DE.v l).drop (i * 6)).take 6 = (gt l i).v := rows_row DE.v_len h
theorem eto (l : List DE) (i : Nat) (h : i < l.length) : (rows DE.v l).length = l.length * 6 ∧ i * 6 + 6 ≤ l.length * 6 := ⟨elen l, by omega⟩
theorem ecell0 (l : List DE) (i : Nat) (h : i < l.length) : (rows DE.v l)[i * 6]? = some (.str (gt l i).n) := rows_at (j := 0) DE.v_len h (by omega)
theorem ero {d : Nat} (l : List DE) : (rows DE.v l).any (hasRo (d + 1)) = false := by
  induction l with
  | nil => rfl
  | cons a l ih => rw [rows_cons, List.any_append, ih]; simp [DE.v, hasRo]
theorem e_face (l : List DE) (i : Nat) (h : i < l.length) : ((rows DE.v l).drop (i * 6 + 1)).take 2 = [.bool (gt l i).a, .str (gt l i).s] := by
  have e1 : l = l.take i ++ gt l i :: l.drop (i + 1) := by rw [gt_eq h, List.getElem_cons_drop, List.take_append_drop]
  have e2 : rows DE.v l = rows DE.v (l.take i) ++ ((gt l i).v ++ rows DE.v (l.drop (i + 1))) := by conv => lhs; rw [e1, rows_append, rows_cons]
  have e3 : (rows DE.v (l.take i)).length = i * 6 := by rw [elen]; simp; omega
  rw [e2, ← e3, List.drop_append, List.drop_of_length_le (by omega), List.nil_append, show (rows DE.v (l.take i)).length + 1 - (rows DE.v (l.take i)).length = 1 by omega]
  rfl
theorem e_set1 {l : List DE} {i : Nat} (h : i < l.length) (a : Bool) (s : Tx) : splice (rows DE.v l) (i * 6 + 1) [.bool a, .str s] = rows DE.v (l.set i { gt l i with a := a, s := s }) := rows_splice DE.v_len h (by simp) rfl
theorem e_set2 {l : List DE} {i : Nat} (h : i < l.length) (how : Nat) : splice (rows DE.v l) (i * 6 + 5) [.int .i64 (how : Int)] = rows DE.v (l.set i { gt l i with how := how }) := rows_splice DE.v_len h (by simp) rfl
theorem e_set {l : List DE} {i : Nat} (h : i < l.length) (a : Bool) (s : Tx) (how : Nat) : splice (splice (rows DE.v l) (i * 6 + 1) [.bool a, .str s]) (i * 6 + 5) [.int .i64 (how : Int)] = rows DE.v (l.set i (upE (gt l i) a s how)) := by
  have hi : i < (l.set i { gt l i with a := a, s := s }).length := by simp; exact h
  rw [e_set1 h, e_set2 hi, List.set_set]
  congr 2
  unfold upE
  rw [gt_eq hi, List.getElem_set_self]
end Go.Vm
