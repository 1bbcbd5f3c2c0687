import Derived.RangeFuncNested
import Derived.RangeFuncBound
import Derived.RangeFuncCalls
import Derived.RangeFuncLeaves
import Derived.RangeFuncFrom
import Derived.Shelf.Abstract
import Derived.Shelf.RegionOpen
import Derived.WalkKit
import Derived.OwnWalkIn
import Derived.TacticsInMore
import Derived.LoopNIn
import Derived.LoopIn
import Derived.Test.YtcnnlnpebpakjaaProg
set_option linter.unusedSectionVars false
set_option linter.unusedSimpArgs false
set_option linter.unusedVariables false
namespace Go.Proofs
open Go.RowKit Go.Shelf
set_option maxRecDepth 100000
set_option maxHeartbeats 2000000
theorem NetW.len_nil (w : World) : Calls Try.prog 10 #[.pointer none] w fun e W' => e = .returned (.int .i64 0) ∧ Below w.heap.size w W' := by
  go_enter Try.func10, Try.ntmps10
  go_wp2
  go_ret
  exact ⟨rfl, Below.refl _ _⟩
theorem NetW.counts_nil (w : World) : Calls Try.prog 13 #[.pointer none] w fun e W' => e = .returned (.tuple #[.int .i64 0, .int .i64 0]) ∧ Below w.heap.size w W' := by
  go_enter Try.func13, Try.ntmps13
  go_wp2
  exact bodyPost_ret (results_tmp2 rfl _ _ _) rfl ⟨rfl, Below.refl _ _⟩
theorem NetW.heal_nil (w : World) : Calls Try.prog 14 #[.pointer none] w fun e W' => e = .returned (.tuple #[]) ∧ Below w.heap.size w W' := by
  go_enter Try.func14, Try.ntmps14
  go_wp2
  exact bodyPost_end (results_none rfl _ _ _) rfl ⟨rfl, Below.refl _ _⟩
theorem NetW.take_nil (w : World) (i : Int) : Calls Try.prog 9 #[.pointer none, .int .i64 i] w fun e W' => e = .returned (.tuple #[.agg #[.int .i64 0, .int .i64 0, .string { data := #[] }], .bool false]) ∧ Below w.heap.size w W' := by
  go_enter Try.func9, Try.ntmps9
  go_wp2
  refine bodyPost_ret (v := .tuple #[.agg #[.int .i64 0, .int .i64 0, .string { data := #[] }], .bool false]) (a := { tmps := _, defers := [] }) ?_ rfl ⟨rfl, (Below.refl _ w).alloc (Nat.le_refl _) _⟩
  simp [results, Try.f9, go_sem]
theorem NetW.all_nil (w : World) : Calls Try.prog 15 #[.pointer none] w fun e W' => e = .returned (.func (.func 20) #[] #[.pointer (some ⟨w.heap.size, 0, none⟩)]) ∧ W' = w.alloc (.cells #[.pointer none] 25) := by
  go_enter Try.func15, Try.ntmps15
  go_wp2
  go_ret
  exact ⟨rfl, rfl⟩
theorem NetW.drop_nil (w : World) (i : Int) : Calls Try.prog 16 #[.pointer none, .int .i64 i] w fun e W' => e = .returned (.bool false) ∧ Below w.heap.size w W' := by
  go_enter Try.func16, Try.ntmps16
  go_wp2_with (go_at_call 9; refine (NetW.take_nil _ _).mono ?_; rintro e w' ⟨rfl, hB⟩)
  go_ret
  exact ⟨rfl, hB.alloc hB.size _⟩
theorem NetW.double_nil (w : World) (i : Int) : Calls Try.prog 11 #[.pointer none, .int .i64 i] w fun e W' => e = .returned (.bool false) ∧ Below w.heap.size w W' := by
  go_enter Try.func11, Try.ntmps11
  go_wp2
  go_ret
  exact ⟨rfl, Below.refl _ _⟩
theorem NetW.insert_nil (w : World) (i : Int) : Calls Try.prog 12 #[.pointer none, .int .i64 i, .agg #[.int .i64 0, .int .i64 0, .string ⟨#[]⟩]] w fun e W' => e = .returned (.bool false) ∧ Below w.heap.size w W' := by
  go_enter Try.func12, Try.ntmps12
  go_wp2
  go_ret
  exact ⟨rfl, (Below.refl _ w).alloc (Nat.le_refl _) _⟩
theorem NetW.cut_nil (w : World) (i j : Int) : Calls Try.prog 17 #[.pointer none, .int .i64 i, .int .i64 j] w fun e W' => e = .returned (.int .i64 0) ∧ Below w.heap.size w W' := by
  go_enter Try.func17, Try.ntmps17
  go_wp2
  go_ret
  exact ⟨rfl, (Below.refl _ w).alloc (Nat.le_refl _) _⟩
theorem NetW.send_nil (w : World) (v : Value) : Calls Try.prog 8 #[.pointer none, v] w fun e W' => e = .returned (.int .i64 0) ∧ Below w.heap.size w W' := by
  go_enter Try.func8, Try.ntmps8
  go_wp2
  go_ret
  exact ⟨rfl, Below.refl _ _⟩
theorem NetW.all_stops (F : Fence) (n : Nat) (h20 : F.fn 20) (hro : F.round = none) (b : Nat) (w : World) (Kp : World → World → Prop) (hb : w.cell? ⟨b, 0, none⟩ = some (.pointer none)) (hlt : b < w.heap.size) :
    SeqStopsK (α := Empty) F n Try.prog 20 #[.pointer (some ⟨b, 0, none⟩)] (fun x => nomatch x) Kp (fun xs => xs = []) (fun _ => False) 0 w := by
  intro l J Jx W hW hJ hJx hY h0
  have hb' : W.cell? ⟨b, 0, none⟩ = some (.pointer none) := (hW.cell (p := ⟨b, 0, none⟩) hlt).trans hb
  refine callsIn_of_wp Try.func20 rfl h20 ?_ hro
  simp only [Try.ntmps20, List.size_toArray, List.length_cons, List.length_nil, Nat.reduceAdd, Nat.reduceSub, Array.replicate_succ, Array.replicate_zero, List.push_toArray, List.append_toArray, List.nil_append, List.cons_append]
  gi_wp2
  exact bodyPost_ret (results_none rfl _ _ _) rfl ⟨⟨_, rfl⟩, h0⟩
theorem NetW.cell_al {W : World} (o : Obj) {p : Addr} {v : Value} (h : W.cell? p = some v) (hlt : p.block < W.heap.size) : (W.alloc o).cell? p = some v :=
  ((((Below.refl _ W).alloc (Nat.le_refl _) o).cell (p := p) hlt)).trans h
theorem NetW.nil_in (haw : ∀ w, Calls Try.prog 6 #[] w fun e W' => e = .returned (.bool true) ∧ Below w.heap.size w W') (k a b i : Int) (sv : Value) (w : World) :
    Calls Try.prog 5 #[.agg #[.int .i64 k, .int .i64 a, .int .i64 b, .int .i64 i, sv]] w fun e W' => e = .returned (.bool true) ∧ Below w.heap.size w W' := by
  refine (callsIn_wide (n := 3)).1 ?_
  refine callsIn_of_wp_marks Try.func5 rfl trivial ?_ rfl
  simp only [Try.ntmps5, List.size_toArray, List.length_cons, List.length_nil, Nat.reduceAdd, Nat.reduceSub, Array.replicate_succ, Array.replicate_zero, List.push_toArray, List.append_toArray, List.nil_append, List.cons_append]
  have c1 : (w.alloc (.cells #[.int .i64 k, .int .i64 a, .int .i64 b, .int .i64 i, sv] 40)).cell? ⟨w.heap.size, 1, none⟩ = some (.int .i64 a) := by unfold World.cell?; rw [World.alloc_heap_new]; rfl
  have c2 : (w.alloc (.cells #[.int .i64 k, .int .i64 a, .int .i64 b, .int .i64 i, sv] 40)).cell? ⟨w.heap.size, 2, none⟩ = some (.int .i64 b) := by unfold World.cell?; rw [World.alloc_heap_new]; rfl
  have c3 : (w.alloc (.cells #[.int .i64 k, .int .i64 a, .int .i64 b, .int .i64 i, sv] 40)).cell? ⟨w.heap.size, 3, none⟩ = some (.int .i64 i) := by unfold World.cell?; rw [World.alloc_heap_new]; rfl
  have c4 : (w.alloc (.cells #[.int .i64 k, .int .i64 a, .int .i64 b, .int .i64 i, sv] 40)).cell? ⟨w.heap.size, 4, none⟩ = some sv := by unfold World.cell?; rw [World.alloc_heap_new]; rfl
  have hT : Below w.heap.size w (w.alloc (.cells #[.int .i64 k, .int .i64 a, .int .i64 b, .int .i64 i, sv] 40)) := (Below.refl _ w).alloc (Nat.le_refl _) _
  have hlt : w.heap.size < (w.alloc (.cells #[.int .i64 k, .int .i64 a, .int .i64 b, .int .i64 i, sv] 40)).heap.size := by simp
  gi_wp2_with (first
    | (refine ⟨trivial, ?_⟩; gi_at_call 6; refine (callsIn_wide.2 (haw _)).mono ?_; rintro e w' ⟨rfl, hB⟩; have c1 := (hB.cell (p := ⟨w.heap.size, 1, none⟩) hlt).trans c1; have c2 := (hB.cell (p := ⟨w.heap.size, 2, none⟩) hlt).trans c2; have c3 := (hB.cell (p := ⟨w.heap.size, 3, none⟩) hlt).trans c3; have c4 := (hB.cell (p := ⟨w.heap.size, 4, none⟩) hlt).trans c4; have hT := hT.trans (hB.mono (Nat.le_of_lt hlt)); have hlt := Nat.lt_of_lt_of_le hlt hB.size)
    | (refine ⟨trivial, ?_⟩; gi_at_call 9; refine (callsIn_wide.2 (NetW.take_nil _ _)).mono ?_; rintro e w' ⟨rfl, hB⟩; have c1 := (hB.cell (p := ⟨w.heap.size, 1, none⟩) hlt).trans c1; have c2 := (hB.cell (p := ⟨w.heap.size, 2, none⟩) hlt).trans c2; have c3 := (hB.cell (p := ⟨w.heap.size, 3, none⟩) hlt).trans c3; have c4 := (hB.cell (p := ⟨w.heap.size, 4, none⟩) hlt).trans c4; have hT := hT.trans (hB.mono (Nat.le_of_lt hlt)); have hlt := Nat.lt_of_lt_of_le hlt hB.size)
    | (refine ⟨trivial, ?_⟩; gi_at_call 13; refine (callsIn_wide.2 (NetW.counts_nil _)).mono ?_; rintro e w' ⟨rfl, hB⟩; have c1 := (hB.cell (p := ⟨w.heap.size, 1, none⟩) (by simp; omega)).trans (NetW.cell_al _ c1 hlt); have c2 := (hB.cell (p := ⟨w.heap.size, 2, none⟩) (by simp; omega)).trans (NetW.cell_al _ c2 hlt); have c3 := (hB.cell (p := ⟨w.heap.size, 3, none⟩) (by simp; omega)).trans (NetW.cell_al _ c3 hlt); have c4 := (hB.cell (p := ⟨w.heap.size, 4, none⟩) (by simp; omega)).trans (NetW.cell_al _ c4 hlt); have hT := (hT.alloc hT.size _).trans (hB.mono (by simp; omega)); have hlt := Nat.lt_of_lt_of_le hlt (Nat.le_trans (by simp) hB.size))
    | (refine ⟨trivial, ?_⟩; gi_at_call 14; refine (callsIn_wide.2 (NetW.heal_nil _)).mono ?_; rintro e w' ⟨rfl, hB⟩; have c1 := (hB.cell (p := ⟨w.heap.size, 1, none⟩) hlt).trans c1; have c2 := (hB.cell (p := ⟨w.heap.size, 2, none⟩) hlt).trans c2; have c3 := (hB.cell (p := ⟨w.heap.size, 3, none⟩) hlt).trans c3; have c4 := (hB.cell (p := ⟨w.heap.size, 4, none⟩) hlt).trans c4; have hT := hT.trans (hB.mono (Nat.le_of_lt hlt)); have hlt := Nat.lt_of_lt_of_le hlt hB.size)
    | (refine ⟨trivial, ?_⟩; gi_at_call 15; refine (callsIn_wide.2 (NetW.all_nil _)).mono ?_; rintro e w' ⟨rfl, rfl⟩))
  obtain ⟨w0, hw0⟩ : ∃ w0, w' = w0 := ⟨_, rfl⟩
  subst hw0
  have hb : ((w'.alloc (.cells #[.int .i64 0] 3)).alloc (.cells #[.pointer none] 25)).cell? ⟨w'.heap.size + 1, 0, none⟩ = some (.pointer none) := by
    unfold World.cell?
    rw [show w'.heap.size + 1 = (w'.alloc (.cells #[.int .i64 0] 3)).heap.size by simp, World.alloc_heap_new]
    rfl
  have ck : ((w'.alloc (.cells #[.int .i64 0] 3)).alloc (.cells #[.pointer none] 25)).cell? ⟨w'.heap.size, 0, none⟩ = some (.int .i64 0) := by
    refine NetW.cell_al _ ?_ (by simp)
    unfold World.cell?
    rw [World.alloc_heap_new]
    rfl
  have hT2 : Below w.heap.size w ((w'.alloc (.cells #[.int .i64 0] 3)).alloc (.cells #[.pointer none] 25)) := (hT.alloc hT.size _).alloc (by simp; omega) _
  have d1 := NetW.cell_al (.cells #[.pointer none] 25) (NetW.cell_al (.cells #[.int .i64 0] 3) c1 hlt) (by simp; omega)
  have d2 := NetW.cell_al (.cells #[.pointer none] 25) (NetW.cell_al (.cells #[.int .i64 0] 3) c2 hlt) (by simp; omega)
  have d3 := NetW.cell_al (.cells #[.pointer none] 25) (NetW.cell_al (.cells #[.int .i64 0] 3) c3 hlt) (by simp; omega)
  have d4 := NetW.cell_al (.cells #[.pointer none] 25) (NetW.cell_al (.cells #[.int .i64 0] 3) c4 hlt) (by simp; omega)
  refine wpIn_rangeFunc_ownF (α := Empty) rfl (by omega) (gf := 20) (lb := #[.pointer (some ⟨w'.heap.size + 1, 0, none⟩)]) rfl trivial (enters_of Try.func20 (by kernel_rfl) rfl)
    (NetW.all_stops Fence.wide (3 - 1) trivial rfl (w'.heap.size + 1) _ (Below w.heap.size) hb (by simp)) belowK_t (belowK_b (by simp; omega)) (Below.refl _ _) (fun x => nomatch x)
    (fun _ W => (W.cell? ⟨w'.heap.size, 0, none⟩ = some (.int .i64 0) ∧ W.cell? ⟨w.heap.size, 1, none⟩ = some (.int .i64 a) ∧ W.cell? ⟨w.heap.size, 2, none⟩ = some (.int .i64 b) ∧ W.cell? ⟨w.heap.size, 3, none⟩ = some (.int .i64 i) ∧ W.cell? ⟨w.heap.size, 4, none⟩ = some sv) ∧ Below w.heap.size w W)
    (fun _ _ _ => False)
    (OwnFrom.and (Own.from (fun s A B row hs hg hr => ⟨cell_kept hs.1 hg hr, cell_kept hs.2.1 hg hr, cell_kept hs.2.2.1 hg hr, cell_kept hs.2.2.2.1 hg hr, cell_kept hs.2.2.2.2 hg hr⟩) _) (ownFrom_below (Nat.le_refl _) (by simp; omega)))
    (fun _ _ _ _ _ hs _ _ => hs)
    ⟨⟨ck, d1, d2, d3, d4⟩, hT2⟩
    (fun x => nomatch x) ?assign ?body ?done ?stop
  case assign => intro l x; exact nomatch x
  case body => intro l pre x; exact nomatch x
  case stop => rintro D c pre W _ _ h _; exact h.elim
  case done =>
    clear hb ck hT2 d1 d2 d3 d4
    rintro D ys W hD rfl ⟨⟨ck, c1, c2, c3, c4⟩, hT⟩ hK
    obtain ⟨w0, hw0⟩ : ∃ w0, w0 = w' := ⟨_, rfl⟩
    rw [← hw0] at ck
    have hDW : D < W.heap.size := (Array.getElem?_eq_some_iff.1 hK).1
    simp at hD
    have hlt2 : w.heap.size < W.heap.size := by omega
    have hwD : w.heap.size ≤ D := by omega
    have hDk : w0.heap.size < W.heap.size := by rw [hw0]; omega
    clear hlt
    have hlt := hlt2
    have hKl := hDW
    rw [← hw0]
    clear hw0
    gi_wp2_with (first
      | (refine ⟨trivial, ?_⟩; gi_at_call 6; refine (callsIn_wide.2 (haw _)).mono ?_; rintro e w' ⟨rfl, hB⟩; have c1 := (hB.cell (p := ⟨w.heap.size, 1, none⟩) hlt).trans c1; have c2 := (hB.cell (p := ⟨w.heap.size, 2, none⟩) hlt).trans c2; have c3 := (hB.cell (p := ⟨w.heap.size, 3, none⟩) hlt).trans c3; have c4 := (hB.cell (p := ⟨w.heap.size, 4, none⟩) hlt).trans c4; have hT := hT.trans (hB.mono (Nat.le_of_lt hlt)); have hlt := Nat.lt_of_lt_of_le hlt hB.size; have ck := (hB.cell (p := ⟨w0.heap.size, 0, none⟩) hDk).trans ck; have hDk := Nat.lt_of_lt_of_le hDk hB.size; have hK := (hB.block D hKl).trans hK; have hKl := Nat.lt_of_lt_of_le hKl hB.size)
      | (refine ⟨trivial, ?_⟩; gi_at_call 8; refine (callsIn_wide.2 (NetW.send_nil _ _)).mono ?_; rintro e w' ⟨rfl, hB⟩; have c1 := (hB.cell (p := ⟨w.heap.size, 1, none⟩) hlt).trans c1; have c2 := (hB.cell (p := ⟨w.heap.size, 2, none⟩) hlt).trans c2; have c3 := (hB.cell (p := ⟨w.heap.size, 3, none⟩) hlt).trans c3; have c4 := (hB.cell (p := ⟨w.heap.size, 4, none⟩) hlt).trans c4; have hT := hT.trans (hB.mono (Nat.le_of_lt hlt)); have hlt := Nat.lt_of_lt_of_le hlt hB.size; have ck := (hB.cell (p := ⟨w0.heap.size, 0, none⟩) hDk).trans ck; have hDk := Nat.lt_of_lt_of_le hDk hB.size; have hK := (hB.block D hKl).trans hK; have hKl := Nat.lt_of_lt_of_le hKl hB.size)
      | (refine ⟨trivial, ?_⟩; gi_at_call 10; refine (callsIn_wide.2 (NetW.len_nil _)).mono ?_; rintro e w' ⟨rfl, hB⟩; have c1 := (hB.cell (p := ⟨w.heap.size, 1, none⟩) hlt).trans c1; have c2 := (hB.cell (p := ⟨w.heap.size, 2, none⟩) hlt).trans c2; have c3 := (hB.cell (p := ⟨w.heap.size, 3, none⟩) hlt).trans c3; have c4 := (hB.cell (p := ⟨w.heap.size, 4, none⟩) hlt).trans c4; have hT := hT.trans (hB.mono (Nat.le_of_lt hlt)); have hlt := Nat.lt_of_lt_of_le hlt hB.size; have ck := (hB.cell (p := ⟨w0.heap.size, 0, none⟩) hDk).trans ck; have hDk := Nat.lt_of_lt_of_le hDk hB.size; have hK := (hB.block D hKl).trans hK; have hKl := Nat.lt_of_lt_of_le hKl hB.size)
      | (refine ⟨trivial, ?_⟩; gi_at_call 16; refine (callsIn_wide.2 (NetW.drop_nil _ _)).mono ?_; rintro e w' ⟨rfl, hB⟩; have c1 := (hB.cell (p := ⟨w.heap.size, 1, none⟩) hlt).trans c1; have c2 := (hB.cell (p := ⟨w.heap.size, 2, none⟩) hlt).trans c2; have c3 := (hB.cell (p := ⟨w.heap.size, 3, none⟩) hlt).trans c3; have c4 := (hB.cell (p := ⟨w.heap.size, 4, none⟩) hlt).trans c4; have hT := hT.trans (hB.mono (Nat.le_of_lt hlt)); have hlt := Nat.lt_of_lt_of_le hlt hB.size; have ck := (hB.cell (p := ⟨w0.heap.size, 0, none⟩) hDk).trans ck; have hDk := Nat.lt_of_lt_of_le hDk hB.size; have hK := (hB.block D hKl).trans hK; have hKl := Nat.lt_of_lt_of_le hKl hB.size)
      | (refine ⟨trivial, ?_⟩; gi_at_call 11; refine (callsIn_wide.2 (NetW.double_nil _ _)).mono ?_; rintro e w' ⟨rfl, hB⟩; have c1 := (hB.cell (p := ⟨w.heap.size, 1, none⟩) hlt).trans c1; have c2 := (hB.cell (p := ⟨w.heap.size, 2, none⟩) hlt).trans c2; have c3 := (hB.cell (p := ⟨w.heap.size, 3, none⟩) hlt).trans c3; have c4 := (hB.cell (p := ⟨w.heap.size, 4, none⟩) hlt).trans c4; have hT := hT.trans (hB.mono (Nat.le_of_lt hlt)); have hlt := Nat.lt_of_lt_of_le hlt hB.size; have ck := (hB.cell (p := ⟨w0.heap.size, 0, none⟩) hDk).trans ck; have hDk := Nat.lt_of_lt_of_le hDk hB.size; have hK := (hB.block D hKl).trans hK; have hKl := Nat.lt_of_lt_of_le hKl hB.size)
      | (refine ⟨trivial, ?_⟩; gi_at_call 12; refine (callsIn_wide.2 (NetW.insert_nil _ _)).mono ?_; rintro e w' ⟨rfl, hB⟩; have c1 := (hB.cell (p := ⟨w.heap.size, 1, none⟩) hlt).trans c1; have c2 := (hB.cell (p := ⟨w.heap.size, 2, none⟩) hlt).trans c2; have c3 := (hB.cell (p := ⟨w.heap.size, 3, none⟩) hlt).trans c3; have c4 := (hB.cell (p := ⟨w.heap.size, 4, none⟩) hlt).trans c4; have hT := hT.trans (hB.mono (Nat.le_of_lt hlt)); have hlt := Nat.lt_of_lt_of_le hlt hB.size; have ck := (hB.cell (p := ⟨w0.heap.size, 0, none⟩) hDk).trans ck; have hDk := Nat.lt_of_lt_of_le hDk hB.size; have hK := (hB.block D hKl).trans hK; have hKl := Nat.lt_of_lt_of_le hKl hB.size)
      | (refine ⟨trivial, ?_⟩; gi_at_call 17; refine (callsIn_wide.2 (NetW.cut_nil _ _ _)).mono ?_; rintro e w' ⟨rfl, hB⟩; have c1 := (hB.cell (p := ⟨w.heap.size, 1, none⟩) hlt).trans c1; have c2 := (hB.cell (p := ⟨w.heap.size, 2, none⟩) hlt).trans c2; have c3 := (hB.cell (p := ⟨w.heap.size, 3, none⟩) hlt).trans c3; have c4 := (hB.cell (p := ⟨w.heap.size, 4, none⟩) hlt).trans c4; have hT := hT.trans (hB.mono (Nat.le_of_lt hlt)); have hlt := Nat.lt_of_lt_of_le hlt hB.size; have ck := (hB.cell (p := ⟨w0.heap.size, 0, none⟩) hDk).trans ck; have hDk := Nat.lt_of_lt_of_le hDk hB.size; have hK := (hB.block D hKl).trans hK; have hKl := Nat.lt_of_lt_of_le hKl hB.size))
    refine ⟨by simp, .inl ⟨_, _, rfl, run_takeDeferred hK, ?_⟩⟩
    exact ⟨_, results_tmp rfl _ _ _, rfl, hT.trans (belowK_b (w := w) (Nat.le_refl _) _ D _ _ hwD hK rfl rfl)⟩
#print axioms NetW.nil_in
end Go.Proofs
