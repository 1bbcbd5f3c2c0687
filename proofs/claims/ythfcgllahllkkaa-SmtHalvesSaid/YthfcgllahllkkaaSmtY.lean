/- Sparse trees: the law, walked by the kit. -/
import Derived.RangeFuncFrom
import Derived.Shelf.Abstract
import Derived.Shelf.RegionOpen
import Derived.WalkKit
import Derived.Deep.RegionHeld3
import Derived.Test.YthfcgllahllkkaaProg
set_option linter.unusedSectionVars false
set_option linter.unusedSimpArgs false
set_option linter.unusedVariables false
namespace Go.Proofs
open Go.RowKit Go.Shelf
set_option maxRecDepth 100000
set_option maxHeartbeats 40000000
/-- A call's contract: an answer, and nothing else that was there is changed. -/
def SmtY.Con (f : Nat) (xs : Array Value) (v : Value) : Prop := ∀ w, Calls Try.prog f xs w fun e W' => e = .returned v ∧ Below w.heap.size w W'
theorem SmtY.Con.at_ {f : Nat} {xs : Array Value} {v : Value} (h : SmtY.Con f xs v) (w : World) : Calls Try.prog f xs w fun e W' => e = .returned v ∧ Below w.heap.size w W' := h w
theorem SmtY.cell_al {W : World} (o : Obj) {p : Addr} {v : Value} (h : W.cell? p = some v) (hlt : p.block < W.heap.size) : (W.alloc o).cell? p = some v :=
  ((((Below.refl _ W).alloc (Nat.le_refl _) o).cell (p := p) hlt)).trans h
theorem SmtY.s_below {w W W' : World} {a b : Nat} {x0 x1 x2 x3 : Value} (hB : Below W.heap.size W W') (h : W.cell? ⟨a, 0, none⟩ = some x0 ∧ W.cell? ⟨a, 1, none⟩ = some x1 ∧ W.cell? ⟨b, 0, none⟩ = some x2 ∧ W.cell? ⟨b, 1, none⟩ = some x3 ∧ a < W.heap.size ∧ b < W.heap.size ∧ Below a w W) :
    W'.cell? ⟨a, 0, none⟩ = some x0 ∧ W'.cell? ⟨a, 1, none⟩ = some x1 ∧ W'.cell? ⟨b, 0, none⟩ = some x2 ∧ W'.cell? ⟨b, 1, none⟩ = some x3 ∧ a < W'.heap.size ∧ b < W'.heap.size ∧ Below a w W' :=
  ⟨(hB.cell (p := ⟨a, 0, none⟩) h.2.2.2.2.1).trans h.1, (hB.cell (p := ⟨a, 1, none⟩) h.2.2.2.2.1).trans h.2.1, (hB.cell (p := ⟨b, 0, none⟩) h.2.2.2.2.2.1).trans h.2.2.1, (hB.cell (p := ⟨b, 1, none⟩) h.2.2.2.2.2.1).trans h.2.2.2.1,
    Nat.lt_of_lt_of_le h.2.2.2.2.1 hB.size, Nat.lt_of_lt_of_le h.2.2.2.2.2.1 hB.size, h.2.2.2.2.2.2.trans (hB.mono (Nat.le_of_lt h.2.2.2.2.1))⟩
theorem SmtY.s_alloc {w W : World} {a b : Nat} {x0 x1 x2 x3 : Value} (o : Obj) (h : W.cell? ⟨a, 0, none⟩ = some x0 ∧ W.cell? ⟨a, 1, none⟩ = some x1 ∧ W.cell? ⟨b, 0, none⟩ = some x2 ∧ W.cell? ⟨b, 1, none⟩ = some x3 ∧ a < W.heap.size ∧ b < W.heap.size ∧ Below a w W) :
    (W.alloc o).cell? ⟨a, 0, none⟩ = some x0 ∧ (W.alloc o).cell? ⟨a, 1, none⟩ = some x1 ∧ (W.alloc o).cell? ⟨b, 0, none⟩ = some x2 ∧ (W.alloc o).cell? ⟨b, 1, none⟩ = some x3 ∧ a < (W.alloc o).heap.size ∧ b < (W.alloc o).heap.size ∧ Below a w (W.alloc o) :=
  SmtY.s_below ((Below.refl _ W).alloc (Nat.le_refl _) o) h
theorem SmtY.law_in (fw P V : ByteArray → ByteArray) (L J : ByteArray → ByteArray → ByteArray) (k v lp lv : ByteArray)
    (haw : SmtY.Con 7 #[] (.bool true)) (hfew : ∀ s, SmtY.Con 5 #[.string s] (.string (fw s)))
    (hof : SmtY.Con 6 #[.string (fw k), .string (fw v)] (.agg #[.string (P (fw k)), .string (V (fw v))]))
    (hp : SmtY.Con 8 #[.string (fw k)] (.string (P (fw k)))) (hv : SmtY.Con 9 #[.string (fw v)] (.string (V (fw v))))
    (hl1 : SmtY.Con 10 #[.agg #[.string (P (fw k)), .string (V (fw v))]] (.string (L (P (fw k)) (V (fw v)))))
    (hh1 : SmtY.Con 11 #[.agg #[.string (P (fw k)), .string (V (fw v))]] (.string (L (P (fw k)) (V (fw v)))))
    (hl2 : SmtY.Con 10 #[.agg #[.string (fw lp), .string (fw lv)]] (.string (L (fw lp) (fw lv))))
    (hh2 : SmtY.Con 11 #[.agg #[.string (fw lp), .string (fw lv)]] (.string (L (fw lp) (fw lv))))
    (hj : SmtY.Con 12 #[.string (fw k), .string (fw v)] (.string (J (fw k) (fw v))))
    (ht : ∀ w b, w.heap[b]? = some (.cells #[.string (fw k), .string (fw v)] 9) → Calls Try.prog 13 #[.int .u8 74, .slice (some ⟨b, 0, none⟩) 2 2] w fun e W' => e = .returned (.string (J (fw k) (fw v))) ∧ Below w.heap.size w W')
    (w : World) : Calls Try.prog 3 #[.string k, .string v, .agg #[.string lp, .string lv]] w fun e W' => e = .returned (.bool true) ∧ Below w.heap.size w W' := by
  go_enter Try.func3, Try.ntmps3
  go_wp2_with (first
    | (go_at_call 5; refine ((hfew _).at_ _).mono ?_; rintro e w' ⟨rfl, hB⟩)
    | (go_at_call 6; refine (hof.at_ _).mono ?_; rintro e w' ⟨rfl, hB⟩))
  rename_i w1 hB1 w2 hB2 K hK
  have hT : Below w.heap.size w w' := (((Below.refl _ w).alloc (Nat.le_refl _) (.cells #[Value.string lp, Value.string lv] 23)).trans (hB1.mono (by simp))).trans ((hB2.mono (by have := hB1.size; simp at this; omega)).trans (hB.mono (by have := hB1.size; have := hB2.size; simp at *; omega)))
  have hlt : w.heap.size < w'.heap.size := by have := hB1.size; have := hB2.size; have := hB.size; simp at *; omega
  have c0 : ∀ (j : Nat) (u : Value), (#[Value.string lp, Value.string lv] : Array Value)[j]? = some u → w'.cell? ⟨w.heap.size, j, none⟩ = some u := by
    intro j u hu
    rw [hB.cell (p := ⟨w.heap.size, j, none⟩) (by have := hB1.size; have := hB2.size; simp at *; omega), hB2.cell (p := ⟨w.heap.size, j, none⟩) (by have := hB1.size; simp at *; omega), hB1.cell (p := ⟨w.heap.size, j, none⟩) (by simp)]
    have e0 := World.alloc_heap_new w (.cells #[Value.string lp, Value.string lv] 23)
    unfold World.cell?
    simp only [e0]
    simp [hu]
  obtain ⟨W, hW⟩ : ∃ W, w'.alloc (.cells #[Value.string (P (fw k)), Value.string (V (fw v))] 25) = W := ⟨_, rfl⟩
  have d0 : W.cell? ⟨w.heap.size, 0, none⟩ = some (.string lp) := by rw [← hW]; exact SmtY.cell_al _ (c0 0 _ rfl) hlt
  have d1 : W.cell? ⟨w.heap.size, 1, none⟩ = some (.string lv) := by rw [← hW]; exact SmtY.cell_al _ (c0 1 _ rfl) hlt
  have d2 : W.cell? ⟨w'.heap.size, 0, none⟩ = some (.string (P (fw k))) := by
    rw [← hW]
    unfold World.cell?
    rw [World.alloc_heap_new]
    rfl
  have d3 : W.cell? ⟨w'.heap.size, 1, none⟩ = some (.string (V (fw v))) := by
    rw [← hW]
    unfold World.cell?
    rw [World.alloc_heap_new]
    rfl
  have hT2 : Below w.heap.size w W := by rw [← hW]; exact hT.alloc hT.size _
  have l1 : w.heap.size < W.heap.size := by rw [← hW]; simp; omega
  have l2 : w'.heap.size < W.heap.size := by rw [← hW]; simp
  rw [hW]
  clear hW c0 hlt hT hB hB1 hB2
  go_region_held3 (fun X => X.cell? ⟨w.heap.size, 0, none⟩ = some (.string lp) ∧ X.cell? ⟨w.heap.size, 1, none⟩ = some (.string lv) ∧ X.cell? ⟨w'.heap.size, 0, none⟩ = some (.string (P (fw k))) ∧ X.cell? ⟨w'.heap.size, 1, none⟩ = some (.string (V (fw v))) ∧ w.heap.size < X.heap.size ∧ w'.heap.size < X.heap.size ∧ Below w.heap.size w X)
    (first
      | exact ⟨d0, d1, d2, d3, l1, l2, hT2.drew⟩
      | exact SmtY.s_below hB (by assumption)
      | exact SmtY.s_alloc _ (by assumption))
    (first
      | (go_at_call 7; refine (haw.at_ _).mono ?_; rintro e w' ⟨rfl, hB⟩)
      | (go_at_call 5; refine ((hfew _).at_ _).mono ?_; rintro e w' ⟨rfl, hB⟩)
      | (go_at_call 8; refine (hp.at_ _).mono ?_; rintro e w' ⟨rfl, hB⟩)
      | (go_at_call 9; refine (hv.at_ _).mono ?_; rintro e w' ⟨rfl, hB⟩)
      | (go_at_call 10; refine (hl1.at_ _).mono ?_; rintro e w' ⟨rfl, hB⟩)
      | (go_at_call 10; refine (hl2.at_ _).mono ?_; rintro e w' ⟨rfl, hB⟩)
      | (go_at_call 11; refine (hh1.at_ _).mono ?_; rintro e w' ⟨rfl, hB⟩)
      | (go_at_call 11; refine (hh2.at_ _).mono ?_; rintro e w' ⟨rfl, hB⟩)
      | (go_at_call 12; refine (hj.at_ _).mono ?_; rintro e w' ⟨rfl, hB⟩)
      | (go_at_call 13; refine (ht _ _ (by first | exact World.alloc_heap_new _ _ | exact (hB.block _ (by simp)).trans (World.alloc_heap_new _ _))).mono ?_; rintro e w' ⟨rfl, hB⟩))
  all_goals
    rename_i hH
    refine hK _ _ ?_
    go_wp2
    go_ret
    exact ⟨rfl, hH.2.2.2.2.2.2⟩
end Go.Proofs
