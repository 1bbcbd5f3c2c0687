/- Sparse trees: Prove at any tree, walked by the kit. -/
import Derived.Test.YthfcgllahllkkaaSmtUR
set_option linter.unusedSectionVars false
set_option linter.unusedSimpArgs false
set_option linter.unusedVariables false
namespace Go.Proofs
open Go.RowKit Go.Shelf
attribute [local go_sem] Oper.semAt_some
set_option maxRecDepth 100000
set_option maxHeartbeats 4000000
theorem SmtT.under32 : Try.prog.underlying 32 = some (.slice 9) := by kernel_rfl
theorem SmtT.info9 : ∃ i, Try.prog.info? 9 = some i ∧ i.zero = some (.string ⟨#[]⟩) ∧ i.size = 1 ∧ i.bytes = 16 := ⟨_, rfl, by kernel_rfl, by kernel_rfl, by kernel_rfl⟩
theorem SmtT.run_fix {b : Nat → Int} {q : SmtU.T × List ByteArray} (hn : ∀ x y h, q.1 ≠ .node x y h) : ∀ l : List Nat, l.foldl (SmtU.step b) q = q
  | [] => rfl
  | k :: l => by
    have e : SmtU.step b q k = q := by
      unfold SmtU.step
      split
      · rename_i h1
        exact absurd h1 (hn _ _ _)
      · rfl
    rw [List.foldl_cons, e]
    exact SmtT.run_fix hn l
theorem SmtT.run_stop {b : Nat → Int} {T0 : SmtU.T} {p v h : ByteArray} {l : List ByteArray} {k x : Nat} {pre : List Nat} (hrun : SmtU.run b T0 (List.range 256) = (.leaf p v h, l)) (hk : 1 ≤ k) (hp : List.range k = pre ++ [x]) (hn : ∀ x y h, (SmtU.run b T0 pre).1 ≠ .node x y h) : SmtU.run b T0 pre = (.leaf p v h, l) := by
  obtain ⟨m, rfl⟩ : ∃ m, k = m + 1 := ⟨k - 1, by omega⟩
  obtain ⟨rfl, -⟩ : pre = List.range m ∧ x = m := by
    rw [List.range_succ] at hp
    have := List.append_inj' hp rfl
    exact ⟨this.1.symm, by simpa using this.2.symm⟩
  have split : ∀ a c, a ≤ c → ∃ t, List.range c = List.range a ++ t := fun a c h => ⟨(List.range (c - a)).map (a + ·), by rw [← List.range_add]; congr 1; omega⟩
  rcases Nat.le_total m 256 with hm | hm
  · obtain ⟨t, ht⟩ := split m 256 hm
    have : SmtU.run b T0 (List.range 256) = SmtU.run b T0 (List.range m) := by
      unfold SmtU.run
      rw [ht, List.foldl_append]
      exact SmtT.run_fix hn t
    rw [← this, hrun]
  · obtain ⟨t, ht⟩ := split 256 m hm
    have : SmtU.run b T0 (List.range m) = SmtU.run b T0 (List.range 256) := by
      have e := hrun
      unfold SmtU.run at e ⊢
      rw [ht, List.foldl_append, e]
      exact SmtT.run_fix (by intro x y h e; cases e) t
    rw [this, hrun]
theorem SmtT.prove_in (T0 : SmtU.T) (p v h : ByteArray) (l : List ByteArray) (key pth : ByteArray) (hs : pth.size = 32) (hpath : ∀ w, Calls Try.prog 8 #[.string key] w fun e W' => e = .returned (.string pth) ∧ Below w.heap.size w W')
    (hhash : ∀ (t : SmtU.T) (W : World) (c : Value), t.At W c → Calls Try.prog 25 #[c] W fun e W' => e = .returned (.string t.hash) ∧ Below W.heap.size W W')
    (hrun : SmtU.run (SmtW.bitV pth) T0 (List.range 256) = (.leaf p v h, l)) (bt ot : Nat) (x0 : Option Addr) (w : World) (ht : w.cell? ⟨bt, ot, none⟩ = some (.pointer x0)) (lt : bt < w.heap.size) (hT0 : T0.At w (.pointer x0)) :
    Calls Try.prog 19 #[.pointer (some ⟨bt, ot, none⟩), .string key] w fun e W' => ∃ sv, e = .returned (.agg #[sv, .bool true, .string p, .string v]) ∧ W'.ownsRow w.heap.size 9 1 sv l.length (l.map .string) ∧ Below w.heap.size w W' := by
  have under32 := SmtT.under32
  obtain ⟨i0, hi, hz, hsz, hby⟩ := SmtT.info9
  refine (callsIn_wide (n := 3)).1 ?_
  refine callsIn_of_wp_marks Try.func19 rfl trivial ?_ rfl
  simp only [Try.ntmps19, List.size_toArray, List.length_cons, List.length_nil, Nat.reduceAdd, Nat.reduceSub, Array.replicate_succ, Array.replicate_zero, List.push_toArray, List.append_toArray, List.nil_append, List.cons_append]
  gi_wp2_with (first
    | (refine ⟨trivial, ?_⟩; gi_at_call 8; refine (callsIn_wide.2 (hpath _)).mono ?_; rintro e w' ⟨rfl, hB⟩; have ht := (hB.cell (p := ⟨bt, ot, none⟩) (by simp; omega)).trans (SmtU.cell_al _ (SmtU.cell_al _ ht lt) (by simp; omega)))
    | (refine ⟨trivial, ?_⟩; gi_at_call 26; refine (callsIn_wide.2 (SmtW.way_in pth _)).mono ?_; rintro e w'' ⟨rfl, rfl⟩))
  have hB5 : w.heap.size + 2 ≤ w'.heap.size := by have := hB.size; simp at this; omega
  have hT : Below w.heap.size w w' := (((Below.refl _ w).alloc (Nat.le_refl _) _).alloc (by simp) _).trans (hB.mono (by simp; omega))
  have pR : SmtU.PBox w' w.heap.size (.slice none 0 0) := by
    unfold SmtU.PBox
    rw [hB.block _ (by simp; omega), Below.heap_alloc _ _ _ (by simp)]
    exact World.alloc_heap_new _ _
  have pP : SmtU.PBox w' (w.heap.size + 1) (.slice none 0 0) := by
    unfold SmtU.PBox
    rw [hB.block _ (by simp)]
    have := World.alloc_heap_new (w.alloc (.cells #[Value.slice none 0 0, Value.bool false, Value.string { data := #[] }, Value.string { data := #[] }] 41)) (.cells #[Value.slice none 0 0, Value.bool false, Value.string { data := #[] }, Value.string { data := #[] }] 41)
    rwa [World.size_alloc] at this
  obtain ⟨W4, hW4⟩ : ∃ W4, (w'.alloc (.cells #[.pointer x0] 47)).alloc (.cells #[.string pth] 9) = W4 := ⟨_, rfl⟩
  have hT4 : Below w.heap.size w W4 := by rw [← hW4]; exact (hT.alloc hT.size _).alloc (by simp; omega) _
  have hT5 : Below w'.heap.size w' W4 := by rw [← hW4]; exact ((Below.refl _ w').alloc (Nat.le_refl _) _).alloc (by simp) _
  have hs4 : W4.heap.size = w'.heap.size + 2 := by rw [← hW4]; simp
  have bn : Boxed W4 w'.heap.size 47 (.pointer x0) := by
    rw [← hW4]
    exact (Boxed.new _ _ _).alloc _
  have cp : W4.cell? ⟨w'.heap.size + 1, 0, none⟩ = some (.string pth) := by
    rw [← hW4]
    unfold World.cell?
    rw [show w'.heap.size + 1 = (w'.alloc (.cells #[.pointer x0] 47)).heap.size by simp, World.alloc_heap_new]
    rfl
  have st0 : SmtU.St w T0 (SmtW.bitV pth) (w'.heap.size + 2) [] w.heap.size (w.heap.size + 1) w'.heap.size W4 :=
    ⟨⟨.pointer x0, .slice none 0 0, pP.below hT5 (by omega), ⟨rfl, .inl ⟨rfl, rfl⟩⟩, bn, hT0⟩, pR.below hT5 (by omega), hT4, by omega⟩
  apply wpIn_rangeFunc_ownF rfl (by omega) (gf := 40) (lb := #[.pointer (some ⟨w'.heap.size + 1, 0, none⟩)]) rfl trivial (enters_of Try.func40 (by kernel_rfl) rfl)
    (SmtU.way_stops (3 - 1) (w'.heap.size + 1) (by omega) pth hs _ (by rw [hW4]; omega) (by rw [hW4]; exact cp)) (fun h k => SmtU.KC.tr h k) (fun W l o o' hl _ _ _ => SmtU.KC.put (n := W4.heap.size) (by omega) W l o o' (by rw [hW4] at hl; exact hl)) (Below.refl _ _) (fun _ => rfl)
    (fun pre W => SmtU.St w T0 (SmtW.bitV pth) (w'.heap.size + 2) pre w.heap.size (w.heap.size + 1) w'.heap.size W)
    (fun c pre' W => c = .exit 0 ∧ ∃ pre x, pre' = pre ++ [x] ∧ SmtU.St w T0 (SmtW.bitV pth) (w'.heap.size + 2) pre w.heap.size (w.heap.size + 1) w'.heap.size W ∧ (∀ x y h, (SmtU.run (SmtW.bitV pth) T0 pre).1 ≠ .node x y h))
    (fun s A B row hs hg hr => hs.own hg (fun r e => (hr r e).2) (hs.bel.grown hg hs.bel.size (fun k e => Nat.le_trans (by simp; omega) (hr k e).1)))
    (fun c s A B row hs hg hr => by
      obtain ⟨rfl, pre, x, rfl, hs, hn⟩ := hs
      exact ⟨rfl, pre, x, rfl, hs.own hg (fun r e => (hr r e).2) (hs.bel.grown hg hs.bel.size (fun k e => Nat.le_trans (by simp; omega) (hr k e).1)), hn⟩)
    (by rw [hW4]; exact st0)
  case hassign =>
    intro l x W K hK
    gi_wp2
    exact hK
  case hbody =>
    rintro l pre x W ⟨⟨c, sv, b1, b2, b3, hA⟩, bR, hT, hz4⟩ hlen
    have hrl := SmtU.run_len (SmtW.bitV pth) T0 pre
    have cn := b3.cell
    have fn := b3.frozen
    cases hq : (SmtU.run (SmtW.bitV pth) T0 pre).1 with
    | nil =>
      rw [hq] at hA
      obtain rfl : c = .pointer none := hA
      gi_wp2
      exact ⟨KeepsOthers.refl _, rfl, pre, x, rfl, ⟨⟨_, sv, b1, b2, b3, by rw [hq]; rfl⟩, bR, hT, hz4⟩, by rw [hq]; intro x y h e; cases e⟩
    | leaf p2 v2 h2 =>
      rw [hq] at hA
      have hA' := hA
      obtain ⟨b, o, bl, ol, rfl, l1, l2, c1, c2, c3, c4⟩ := hA
      have d1 := (hT.cell (p := ⟨b, o + 2, none⟩) l1).trans c1
      gi_wp2
      exact ⟨KeepsOthers.refl _, rfl, pre, x, rfl, ⟨⟨_, sv, b1, b2, b3, by rw [hq]; exact hA'⟩, bR, hT, hz4⟩, by rw [hq]; intro x y h e; cases e⟩
    | node tx ty h2 =>
      rw [hq] at hA
      obtain ⟨b, o, cx, cy, rfl, l1, c1, c2, c3, c4, a1, a2⟩ := hA
      obtain ⟨px, rfl⟩ := a1.ptr
      obtain ⟨py, rfl⟩ := a2.ptr
      have d1 := (hT.cell (p := ⟨b, o, none⟩) l1).trans c1
      have d2 := (hT.cell (p := ⟨b, o + 1, none⟩) l1).trans c2
      have d3 := (hT.cell (p := ⟨b, o + 2, none⟩) l1).trans c3
      have hP := b1.cells.1
      have fP := b1.frozen 0
      rcases SmtU.bitV_cases pth x with e | e
      · simp only [e]
        gi_wp2
        refine SmtR.region_round l rfl (by kernel_rfl) (by kernel_rfl) ?_
        refine wpAnyIn_take (i := 0) (v := ?v1) rfl rfl (by kernel_rfl) (by kernel_rfl) (by kernel_rfl) (fun _ _ _ h => h) ⟨Or.inl ⟨by rfl, ?hy1⟩, fun _ => rfl⟩ ?rest1
        case hy1 => (intro w; go_simp; first | done | with_reducible rfl | rfl)
        refine wpAnyIn_take (i := 3) (v := ?v2) rfl rfl (by kernel_rfl) (by kernel_rfl) (by kernel_rfl) (fun _ _ _ h => h) ⟨Or.inl ⟨by rfl, ?hy2⟩, fun _ => rfl⟩ ?rest2
        case hy2 => (intro w; go_simp; first | done | with_reducible rfl | rfl)
        refine wpAnyIn_take (i := 4) (v := .int .i64 1) rfl rfl (by kernel_rfl) (by kernel_rfl) (by kernel_rfl) (fun _ _ _ h => h) ⟨Or.inl ⟨by rfl, ?hy3⟩, fun _ => rfl⟩ ?rest3
        case hy3 => (intro w; go_simp; first | done | with_reducible rfl | rfl)
        refine wpAnyIn_ready (rs := [1, 2]) (by kernel_rfl) (by simp) ?_
        refine AllReadyIn.cons rfl (fun K hK => ?_) ?_
        · skip
          go_simp
          refine hK _ _ ?_
          clear hK K
          refine wpAnyIn_ready (rs := [2]) (by kernel_rfl) (by simp) ?_
          refine AllReadyIn.cons rfl (fun K hK => ?_) ?_
          · skip
            go_simp
            refine hK _ _ ?_
            clear hK K
            refine wpAnyIn_take (i := 5) (v := ?v4) rfl rfl (by kernel_rfl) (by kernel_rfl) (by kernel_rfl) (fun _ _ _ h => h) ⟨Or.inl ⟨by rfl, ?hy4⟩, fun _ => rfl⟩ ?rest4
            case hy4 => (intro w; go_simp; first | done | with_reducible rfl | rfl)
            refine wpAnyIn_take (i := 6) (v := ?v5) rfl rfl (by kernel_rfl) (by kernel_rfl) (by kernel_rfl) (fun _ _ _ h => h) ⟨Or.inl ⟨by rfl, ?hy5⟩, fun _ => rfl⟩ ?rest5
            case hy5 => (intro w; go_simp; first | done | with_reducible rfl | rfl)
            refine wpAnyIn_take (i := 7) (v := ?v6) rfl rfl (by kernel_rfl) (by kernel_rfl) (by kernel_rfl) (fun _ _ _ h => h) ⟨Or.inl ⟨by rfl, ?hy6⟩, fun _ => rfl⟩ ?rest6
            case hy6 => (intro w; go_simp; first | done | with_reducible rfl | rfl)
            refine wpAnyIn_ready (rs := [8]) (by kernel_rfl) (by simp) ?_
            refine AllReadyIn.cons rfl (fun K hK => ?_) ?_
            · skip
              go_simp
              refine hK _ _ ?_
              clear hK K
              refine wpAnyIn_ready (rs := [9]) (by kernel_rfl) (by simp) ?_
              refine AllReadyIn.cons rfl (fun K hK => ?_) ?_
              · skip
                go_simp
                refine ⟨trivial, ?_⟩
                gi_at_call 25
                refine (callsIn_wide.2 (hhash ty _ _ (a2.below hT.drew))).mono ?_
                rintro e w9 ⟨rfl, hB9⟩
                refine hK _ _ ?_
                clear hK K
                have hP9 : w9.cell? ⟨w.heap.size + 1, 0, none⟩ = some sv := (hB9.cell (p := ⟨w.heap.size + 1, 0, none⟩) b1.lt).trans hP
                have hP9a : ∀ o, (w9.alloc o).cell? ⟨w.heap.size + 1, 0, none⟩ = some sv := fun o => SmtU.cell_al o hP9 (Nat.lt_of_lt_of_le b1.lt hB9.size)
                have hown9 : w9.ownsRow (w'.heap.size + 2) 9 1 sv (SmtU.run (SmtW.bitV pth) T0 pre).2.length ((SmtU.run (SmtW.bitV pth) T0 pre).2.map .string) := SmtU.own_kept (n := 0) b2.drew hB9
                refine wpAnyIn_ready (rs := [10]) (by kernel_rfl) (by simp) ?_
                refine AllReadyIn.cons rfl (fun K hK => ?_) ?_
                · skip
                  go_simp
                  refine hK _ _ ?_
                  clear hK K
                  refine wpAnyIn_ready (rs := [11]) (by kernel_rfl) (by simp) ?_
                  refine AllReadyIn.cons rfl (fun K hK => ?_) ?_
                  · skip
                    refine SmtR.step_append rfl (.tmp 33) (.tmp 42) 32 rfl (w'.heap.size + 2) 9 i0 (.string ⟨#[]⟩) 1 16 under32 hi hz hsz hby rfl (by decide) sv (SmtU.run (SmtW.bitV pth) T0 pre).2.length ((SmtU.run (SmtW.bitV pth) T0 pre).2.map .string) rfl (hown9.alloc _) ⟨w9.heap.size, 0, none⟩ 1 1 [.string ty.hash] rfl rfl (by intro j u hu; cases j with | zero => (cases hu; exact SmtR.new_cell _ _) | succ j => simp at hu) (by intro u hu; simp at hu; subst hu; rfl) (by simp only [maxLen]; omega) (by omega) (by have := hB9.size; simp at this ⊢; omega) ?_
                    intro nv w1 hown hgrow
                    obtain ⟨g, cap, rfl⟩ := ownsRow_succ hown
                    obtain ⟨⟨hp1, fp1⟩, hn2, hcell2, hfin⟩ := SmtU.next (t2 := tx) (T0 := T0) (b := SmtW.bitV pth) (pre := pre ++ [x]) (l := (SmtU.run (SmtW.bitV pth) T0 pre).2 ++ [ty.hash]) (R := w.heap.size) (P := w.heap.size + 1) (B := w'.heap.size) (G := w'.heap.size + 1) (n4 := w'.heap.size + 2) (by omega) (by omega) (by omega) (by omega) (by omega) (by omega) (by omega) (by omega) (by omega) (by omega) (by omega) (by omega) hz4 b1 b2 b3 bR hT hB9 hown hgrow
                    have hnc := hn2.cell
                    have hnf := hn2.frozen
                    have d4 := (hcell2 ⟨b, o, none⟩ l1).trans c1
                    have d5 := (hcell2 ⟨b, o + 1, none⟩ l1).trans c2
                    refine hK _ _ ?_
                    clear hK K
                    refine wpAnyIn_take (i := 12) (v := ?v7) rfl rfl (by kernel_rfl) (by kernel_rfl) (by kernel_rfl) (fun _ _ _ h => h) ⟨Or.inl ⟨by rfl, ?hy7⟩, fun _ => rfl⟩ ?rest7
                    case hy7 => (intro w; go_simp; first | done | with_reducible rfl | rfl)
                    refine wpAnyIn_ready (rs := [13]) (by kernel_rfl) (by simp) ?_
                    refine AllReadyIn.cons rfl (fun K hK => ?_) ?_
                    · skip
                      go_simp
                      refine hK _ _ ?_
                      clear hK K
                      refine wpAnyIn_done (by kernel_rfl) ?_ _
                      gi_wp2
                      refine hfin _ a1 ?_ (by simp) (by simp)
                      rw [SmtU.run_snoc]; unfold SmtU.step; rw [hq]; simp [e]
                    exact AllReadyIn.nil
                  exact AllReadyIn.nil
                exact AllReadyIn.nil
              exact AllReadyIn.nil
            exact AllReadyIn.nil
          exact AllReadyIn.nil
        refine AllReadyIn.cons rfl (fun K hK => ?_) ?_
        · skip
          go_simp
          refine hK _ _ ?_
          clear hK K
          refine wpAnyIn_take (i := 5) (v := ?v8) rfl rfl (by kernel_rfl) (by kernel_rfl) (by kernel_rfl) (fun _ _ _ h => h) ⟨Or.inl ⟨by rfl, ?hy8⟩, fun _ => rfl⟩ ?rest8
          case hy8 => (intro w; go_simp; first | done | with_reducible rfl | rfl)
          refine wpAnyIn_take (i := 6) (v := ?v9) rfl rfl (by kernel_rfl) (by kernel_rfl) (by kernel_rfl) (fun _ _ _ h => h) ⟨Or.inl ⟨by rfl, ?hy9⟩, fun _ => rfl⟩ ?rest9
          case hy9 => (intro w; go_simp; first | done | with_reducible rfl | rfl)
          refine wpAnyIn_take (i := 7) (v := ?v10) rfl rfl (by kernel_rfl) (by kernel_rfl) (by kernel_rfl) (fun _ _ _ h => h) ⟨Or.inl ⟨by rfl, ?hy10⟩, fun _ => rfl⟩ ?rest10
          case hy10 => (intro w; go_simp; first | done | with_reducible rfl | rfl)
          refine wpAnyIn_ready (rs := [1, 8]) (by kernel_rfl) (by simp) ?_
          refine AllReadyIn.cons rfl (fun K hK => ?_) ?_
          · skip
            go_simp
            refine hK _ _ ?_
            clear hK K
            refine wpAnyIn_ready (rs := [8]) (by kernel_rfl) (by simp) ?_
            refine AllReadyIn.cons rfl (fun K hK => ?_) ?_
            · skip
              go_simp
              refine hK _ _ ?_
              clear hK K
              refine wpAnyIn_ready (rs := [9]) (by kernel_rfl) (by simp) ?_
              refine AllReadyIn.cons rfl (fun K hK => ?_) ?_
              · skip
                go_simp
                refine ⟨trivial, ?_⟩
                gi_at_call 25
                refine (callsIn_wide.2 (hhash ty _ _ (a2.below hT.drew))).mono ?_
                rintro e w9 ⟨rfl, hB9⟩
                refine hK _ _ ?_
                clear hK K
                have hP9 : w9.cell? ⟨w.heap.size + 1, 0, none⟩ = some sv := (hB9.cell (p := ⟨w.heap.size + 1, 0, none⟩) b1.lt).trans hP
                have hP9a : ∀ o, (w9.alloc o).cell? ⟨w.heap.size + 1, 0, none⟩ = some sv := fun o => SmtU.cell_al o hP9 (Nat.lt_of_lt_of_le b1.lt hB9.size)
                have hown9 : w9.ownsRow (w'.heap.size + 2) 9 1 sv (SmtU.run (SmtW.bitV pth) T0 pre).2.length ((SmtU.run (SmtW.bitV pth) T0 pre).2.map .string) := SmtU.own_kept (n := 0) b2.drew hB9
                refine wpAnyIn_ready (rs := [10]) (by kernel_rfl) (by simp) ?_
                refine AllReadyIn.cons rfl (fun K hK => ?_) ?_
                · skip
                  go_simp
                  refine hK _ _ ?_
                  clear hK K
                  refine wpAnyIn_ready (rs := [11]) (by kernel_rfl) (by simp) ?_
                  refine AllReadyIn.cons rfl (fun K hK => ?_) ?_
                  · skip
                    refine SmtR.step_append rfl (.tmp 33) (.tmp 42) 32 rfl (w'.heap.size + 2) 9 i0 (.string ⟨#[]⟩) 1 16 under32 hi hz hsz hby rfl (by decide) sv (SmtU.run (SmtW.bitV pth) T0 pre).2.length ((SmtU.run (SmtW.bitV pth) T0 pre).2.map .string) rfl (hown9.alloc _) ⟨w9.heap.size, 0, none⟩ 1 1 [.string ty.hash] rfl rfl (by intro j u hu; cases j with | zero => (cases hu; exact SmtR.new_cell _ _) | succ j => simp at hu) (by intro u hu; simp at hu; subst hu; rfl) (by simp only [maxLen]; omega) (by omega) (by have := hB9.size; simp at this ⊢; omega) ?_
                    intro nv w1 hown hgrow
                    obtain ⟨g, cap, rfl⟩ := ownsRow_succ hown
                    obtain ⟨⟨hp1, fp1⟩, hn2, hcell2, hfin⟩ := SmtU.next (t2 := tx) (T0 := T0) (b := SmtW.bitV pth) (pre := pre ++ [x]) (l := (SmtU.run (SmtW.bitV pth) T0 pre).2 ++ [ty.hash]) (R := w.heap.size) (P := w.heap.size + 1) (B := w'.heap.size) (G := w'.heap.size + 1) (n4 := w'.heap.size + 2) (by omega) (by omega) (by omega) (by omega) (by omega) (by omega) (by omega) (by omega) (by omega) (by omega) (by omega) (by omega) hz4 b1 b2 b3 bR hT hB9 hown hgrow
                    have hnc := hn2.cell
                    have hnf := hn2.frozen
                    have d4 := (hcell2 ⟨b, o, none⟩ l1).trans c1
                    have d5 := (hcell2 ⟨b, o + 1, none⟩ l1).trans c2
                    refine hK _ _ ?_
                    clear hK K
                    refine wpAnyIn_take (i := 12) (v := ?v11) rfl rfl (by kernel_rfl) (by kernel_rfl) (by kernel_rfl) (fun _ _ _ h => h) ⟨Or.inl ⟨by rfl, ?hy11⟩, fun _ => rfl⟩ ?rest11
                    case hy11 => (intro w; go_simp; first | done | with_reducible rfl | rfl)
                    refine wpAnyIn_ready (rs := [13]) (by kernel_rfl) (by simp) ?_
                    refine AllReadyIn.cons rfl (fun K hK => ?_) ?_
                    · skip
                      go_simp
                      refine hK _ _ ?_
                      clear hK K
                      refine wpAnyIn_done (by kernel_rfl) ?_ _
                      gi_wp2
                      refine hfin _ a1 ?_ (by simp) (by simp)
                      rw [SmtU.run_snoc]; unfold SmtU.step; rw [hq]; simp [e]
                    exact AllReadyIn.nil
                  exact AllReadyIn.nil
                exact AllReadyIn.nil
              exact AllReadyIn.nil
            exact AllReadyIn.nil
          refine AllReadyIn.cons rfl (fun K hK => ?_) ?_
          · skip
            go_simp
            refine hK _ _ ?_
            clear hK K
            refine wpAnyIn_ready (rs := [1, 9]) (by kernel_rfl) (by simp) ?_
            refine AllReadyIn.cons rfl (fun K hK => ?_) ?_
            · skip
              go_simp
              refine hK _ _ ?_
              clear hK K
              refine wpAnyIn_ready (rs := [9]) (by kernel_rfl) (by simp) ?_
              refine AllReadyIn.cons rfl (fun K hK => ?_) ?_
              · skip
                go_simp
                refine ⟨trivial, ?_⟩
                gi_at_call 25
                refine (callsIn_wide.2 (hhash ty _ _ (a2.below hT.drew))).mono ?_
                rintro e w9 ⟨rfl, hB9⟩
                refine hK _ _ ?_
                clear hK K
                have hP9 : w9.cell? ⟨w.heap.size + 1, 0, none⟩ = some sv := (hB9.cell (p := ⟨w.heap.size + 1, 0, none⟩) b1.lt).trans hP
                have hP9a : ∀ o, (w9.alloc o).cell? ⟨w.heap.size + 1, 0, none⟩ = some sv := fun o => SmtU.cell_al o hP9 (Nat.lt_of_lt_of_le b1.lt hB9.size)
                have hown9 : w9.ownsRow (w'.heap.size + 2) 9 1 sv (SmtU.run (SmtW.bitV pth) T0 pre).2.length ((SmtU.run (SmtW.bitV pth) T0 pre).2.map .string) := SmtU.own_kept (n := 0) b2.drew hB9
                refine wpAnyIn_ready (rs := [10]) (by kernel_rfl) (by simp) ?_
                refine AllReadyIn.cons rfl (fun K hK => ?_) ?_
                · skip
                  go_simp
                  refine hK _ _ ?_
                  clear hK K
                  refine wpAnyIn_ready (rs := [11]) (by kernel_rfl) (by simp) ?_
                  refine AllReadyIn.cons rfl (fun K hK => ?_) ?_
                  · skip
                    refine SmtR.step_append rfl (.tmp 33) (.tmp 42) 32 rfl (w'.heap.size + 2) 9 i0 (.string ⟨#[]⟩) 1 16 under32 hi hz hsz hby rfl (by decide) sv (SmtU.run (SmtW.bitV pth) T0 pre).2.length ((SmtU.run (SmtW.bitV pth) T0 pre).2.map .string) rfl (hown9.alloc _) ⟨w9.heap.size, 0, none⟩ 1 1 [.string ty.hash] rfl rfl (by intro j u hu; cases j with | zero => (cases hu; exact SmtR.new_cell _ _) | succ j => simp at hu) (by intro u hu; simp at hu; subst hu; rfl) (by simp only [maxLen]; omega) (by omega) (by have := hB9.size; simp at this ⊢; omega) ?_
                    intro nv w1 hown hgrow
                    obtain ⟨g, cap, rfl⟩ := ownsRow_succ hown
                    obtain ⟨⟨hp1, fp1⟩, hn2, hcell2, hfin⟩ := SmtU.next (t2 := tx) (T0 := T0) (b := SmtW.bitV pth) (pre := pre ++ [x]) (l := (SmtU.run (SmtW.bitV pth) T0 pre).2 ++ [ty.hash]) (R := w.heap.size) (P := w.heap.size + 1) (B := w'.heap.size) (G := w'.heap.size + 1) (n4 := w'.heap.size + 2) (by omega) (by omega) (by omega) (by omega) (by omega) (by omega) (by omega) (by omega) (by omega) (by omega) (by omega) (by omega) hz4 b1 b2 b3 bR hT hB9 hown hgrow
                    have hnc := hn2.cell
                    have hnf := hn2.frozen
                    have d4 := (hcell2 ⟨b, o, none⟩ l1).trans c1
                    have d5 := (hcell2 ⟨b, o + 1, none⟩ l1).trans c2
                    refine hK _ _ ?_
                    clear hK K
                    refine wpAnyIn_take (i := 12) (v := ?v12) rfl rfl (by kernel_rfl) (by kernel_rfl) (by kernel_rfl) (fun _ _ _ h => h) ⟨Or.inl ⟨by rfl, ?hy12⟩, fun _ => rfl⟩ ?rest12
                    case hy12 => (intro w; go_simp; first | done | with_reducible rfl | rfl)
                    refine wpAnyIn_ready (rs := [13]) (by kernel_rfl) (by simp) ?_
                    refine AllReadyIn.cons rfl (fun K hK => ?_) ?_
                    · skip
                      go_simp
                      refine hK _ _ ?_
                      clear hK K
                      refine wpAnyIn_done (by kernel_rfl) ?_ _
                      gi_wp2
                      refine hfin _ a1 ?_ (by simp) (by simp)
                      rw [SmtU.run_snoc]; unfold SmtU.step; rw [hq]; simp [e]
                    exact AllReadyIn.nil
                  exact AllReadyIn.nil
                exact AllReadyIn.nil
              exact AllReadyIn.nil
            refine AllReadyIn.cons rfl (fun K hK => ?_) ?_
            · skip
              go_simp
              refine ⟨trivial, ?_⟩
              gi_at_call 25
              refine (callsIn_wide.2 (hhash ty _ _ (a2.below hT.drew))).mono ?_
              rintro e w9 ⟨rfl, hB9⟩
              refine hK _ _ ?_
              clear hK K
              have hP9 : w9.cell? ⟨w.heap.size + 1, 0, none⟩ = some sv := (hB9.cell (p := ⟨w.heap.size + 1, 0, none⟩) b1.lt).trans hP
              have hP9a : ∀ o, (w9.alloc o).cell? ⟨w.heap.size + 1, 0, none⟩ = some sv := fun o => SmtU.cell_al o hP9 (Nat.lt_of_lt_of_le b1.lt hB9.size)
              have hown9 : w9.ownsRow (w'.heap.size + 2) 9 1 sv (SmtU.run (SmtW.bitV pth) T0 pre).2.length ((SmtU.run (SmtW.bitV pth) T0 pre).2.map .string) := SmtU.own_kept (n := 0) b2.drew hB9
              refine wpAnyIn_ready (rs := [1, 10]) (by kernel_rfl) (by simp) ?_
              refine AllReadyIn.cons rfl (fun K hK => ?_) ?_
              · skip
                go_simp
                refine hK _ _ ?_
                clear hK K
                refine wpAnyIn_ready (rs := [10]) (by kernel_rfl) (by simp) ?_
                refine AllReadyIn.cons rfl (fun K hK => ?_) ?_
                · skip
                  go_simp
                  refine hK _ _ ?_
                  clear hK K
                  refine wpAnyIn_ready (rs := [11]) (by kernel_rfl) (by simp) ?_
                  refine AllReadyIn.cons rfl (fun K hK => ?_) ?_
                  · skip
                    refine SmtR.step_append rfl (.tmp 33) (.tmp 42) 32 rfl (w'.heap.size + 2) 9 i0 (.string ⟨#[]⟩) 1 16 under32 hi hz hsz hby rfl (by decide) sv (SmtU.run (SmtW.bitV pth) T0 pre).2.length ((SmtU.run (SmtW.bitV pth) T0 pre).2.map .string) rfl (hown9.alloc _) ⟨w9.heap.size, 0, none⟩ 1 1 [.string ty.hash] rfl rfl (by intro j u hu; cases j with | zero => (cases hu; exact SmtR.new_cell _ _) | succ j => simp at hu) (by intro u hu; simp at hu; subst hu; rfl) (by simp only [maxLen]; omega) (by omega) (by have := hB9.size; simp at this ⊢; omega) ?_
                    intro nv w1 hown hgrow
                    obtain ⟨g, cap, rfl⟩ := ownsRow_succ hown
                    obtain ⟨⟨hp1, fp1⟩, hn2, hcell2, hfin⟩ := SmtU.next (t2 := tx) (T0 := T0) (b := SmtW.bitV pth) (pre := pre ++ [x]) (l := (SmtU.run (SmtW.bitV pth) T0 pre).2 ++ [ty.hash]) (R := w.heap.size) (P := w.heap.size + 1) (B := w'.heap.size) (G := w'.heap.size + 1) (n4 := w'.heap.size + 2) (by omega) (by omega) (by omega) (by omega) (by omega) (by omega) (by omega) (by omega) (by omega) (by omega) (by omega) (by omega) hz4 b1 b2 b3 bR hT hB9 hown hgrow
                    have hnc := hn2.cell
                    have hnf := hn2.frozen
                    have d4 := (hcell2 ⟨b, o, none⟩ l1).trans c1
                    have d5 := (hcell2 ⟨b, o + 1, none⟩ l1).trans c2
                    refine hK _ _ ?_
                    clear hK K
                    refine wpAnyIn_take (i := 12) (v := ?v13) rfl rfl (by kernel_rfl) (by kernel_rfl) (by kernel_rfl) (fun _ _ _ h => h) ⟨Or.inl ⟨by rfl, ?hy13⟩, fun _ => rfl⟩ ?rest13
                    case hy13 => (intro w; go_simp; first | done | with_reducible rfl | rfl)
                    refine wpAnyIn_ready (rs := [13]) (by kernel_rfl) (by simp) ?_
                    refine AllReadyIn.cons rfl (fun K hK => ?_) ?_
                    · skip
                      go_simp
                      refine hK _ _ ?_
                      clear hK K
                      refine wpAnyIn_done (by kernel_rfl) ?_ _
                      gi_wp2
                      refine hfin _ a1 ?_ (by simp) (by simp)
                      rw [SmtU.run_snoc]; unfold SmtU.step; rw [hq]; simp [e]
                    exact AllReadyIn.nil
                  exact AllReadyIn.nil
                exact AllReadyIn.nil
              refine AllReadyIn.cons rfl (fun K hK => ?_) ?_
              · skip
                go_simp
                refine hK _ _ ?_
                clear hK K
                refine wpAnyIn_ready (rs := [1]) (by kernel_rfl) (by simp) ?_
                refine AllReadyIn.cons rfl (fun K hK => ?_) ?_
                · skip
                  go_simp
                  refine hK _ _ ?_
                  clear hK K
                  refine wpAnyIn_ready (rs := [11]) (by kernel_rfl) (by simp) ?_
                  refine AllReadyIn.cons rfl (fun K hK => ?_) ?_
                  · skip
                    refine SmtR.step_append rfl (.tmp 33) (.tmp 42) 32 rfl (w'.heap.size + 2) 9 i0 (.string ⟨#[]⟩) 1 16 under32 hi hz hsz hby rfl (by decide) sv (SmtU.run (SmtW.bitV pth) T0 pre).2.length ((SmtU.run (SmtW.bitV pth) T0 pre).2.map .string) rfl (hown9.alloc _) ⟨w9.heap.size, 0, none⟩ 1 1 [.string ty.hash] rfl rfl (by intro j u hu; cases j with | zero => (cases hu; exact SmtR.new_cell _ _) | succ j => simp at hu) (by intro u hu; simp at hu; subst hu; rfl) (by simp only [maxLen]; omega) (by omega) (by have := hB9.size; simp at this ⊢; omega) ?_
                    intro nv w1 hown hgrow
                    obtain ⟨g, cap, rfl⟩ := ownsRow_succ hown
                    obtain ⟨⟨hp1, fp1⟩, hn2, hcell2, hfin⟩ := SmtU.next (t2 := tx) (T0 := T0) (b := SmtW.bitV pth) (pre := pre ++ [x]) (l := (SmtU.run (SmtW.bitV pth) T0 pre).2 ++ [ty.hash]) (R := w.heap.size) (P := w.heap.size + 1) (B := w'.heap.size) (G := w'.heap.size + 1) (n4 := w'.heap.size + 2) (by omega) (by omega) (by omega) (by omega) (by omega) (by omega) (by omega) (by omega) (by omega) (by omega) (by omega) (by omega) hz4 b1 b2 b3 bR hT hB9 hown hgrow
                    have hnc := hn2.cell
                    have hnf := hn2.frozen
                    have d4 := (hcell2 ⟨b, o, none⟩ l1).trans c1
                    have d5 := (hcell2 ⟨b, o + 1, none⟩ l1).trans c2
                    refine hK _ _ ?_
                    clear hK K
                    refine wpAnyIn_take (i := 12) (v := ?v14) rfl rfl (by kernel_rfl) (by kernel_rfl) (by kernel_rfl) (fun _ _ _ h => h) ⟨Or.inl ⟨by rfl, ?hy14⟩, fun _ => rfl⟩ ?rest14
                    case hy14 => (intro w; go_simp; first | done | with_reducible rfl | rfl)
                    refine wpAnyIn_ready (rs := [13]) (by kernel_rfl) (by simp) ?_
                    refine AllReadyIn.cons rfl (fun K hK => ?_) ?_
                    · skip
                      go_simp
                      refine hK _ _ ?_
                      clear hK K
                      refine wpAnyIn_done (by kernel_rfl) ?_ _
                      gi_wp2
                      refine hfin _ a1 ?_ (by simp) (by simp)
                      rw [SmtU.run_snoc]; unfold SmtU.step; rw [hq]; simp [e]
                    exact AllReadyIn.nil
                  exact AllReadyIn.nil
                exact AllReadyIn.nil
              exact AllReadyIn.nil
            exact AllReadyIn.nil
          exact AllReadyIn.nil
        exact AllReadyIn.nil
      · simp only [e]
        gi_wp2
        refine SmtR.region_round l rfl (by kernel_rfl) (by kernel_rfl) ?_
        refine wpAnyIn_take (i := 0) (v := ?v15) rfl rfl (by kernel_rfl) (by kernel_rfl) (by kernel_rfl) (fun _ _ _ h => h) ⟨Or.inl ⟨by rfl, ?hy15⟩, fun _ => rfl⟩ ?rest15
        case hy15 => (intro w; go_simp; first | done | with_reducible rfl | rfl)
        refine wpAnyIn_take (i := 3) (v := ?v16) rfl rfl (by kernel_rfl) (by kernel_rfl) (by kernel_rfl) (fun _ _ _ h => h) ⟨Or.inl ⟨by rfl, ?hy16⟩, fun _ => rfl⟩ ?rest16
        case hy16 => (intro w; go_simp; first | done | with_reducible rfl | rfl)
        refine wpAnyIn_take (i := 4) (v := .int .i64 0) rfl rfl (by kernel_rfl) (by kernel_rfl) (by kernel_rfl) (fun _ _ _ h => h) ⟨Or.inl ⟨by rfl, ?hy17⟩, fun _ => rfl⟩ ?rest17
        case hy17 => (intro w; go_simp; first | done | with_reducible rfl | rfl)
        refine wpAnyIn_ready (rs := [1, 2]) (by kernel_rfl) (by simp) ?_
        refine AllReadyIn.cons rfl (fun K hK => ?_) ?_
        · skip
          go_simp
          refine hK _ _ ?_
          clear hK K
          refine wpAnyIn_ready (rs := [2]) (by kernel_rfl) (by simp) ?_
          refine AllReadyIn.cons rfl (fun K hK => ?_) ?_
          · skip
            go_simp
            refine hK _ _ ?_
            clear hK K
            refine wpAnyIn_take (i := 5) (v := ?v18) rfl rfl (by kernel_rfl) (by kernel_rfl) (by kernel_rfl) (fun _ _ _ h => h) ⟨Or.inl ⟨by rfl, ?hy18⟩, fun _ => rfl⟩ ?rest18
            case hy18 => (intro w; go_simp; first | done | with_reducible rfl | rfl)
            refine wpAnyIn_take (i := 6) (v := ?v19) rfl rfl (by kernel_rfl) (by kernel_rfl) (by kernel_rfl) (fun _ _ _ h => h) ⟨Or.inl ⟨by rfl, ?hy19⟩, fun _ => rfl⟩ ?rest19
            case hy19 => (intro w; go_simp; first | done | with_reducible rfl | rfl)
            refine wpAnyIn_take (i := 7) (v := ?v20) rfl rfl (by kernel_rfl) (by kernel_rfl) (by kernel_rfl) (fun _ _ _ h => h) ⟨Or.inl ⟨by rfl, ?hy20⟩, fun _ => rfl⟩ ?rest20
            case hy20 => (intro w; go_simp; first | done | with_reducible rfl | rfl)
            refine wpAnyIn_ready (rs := [8]) (by kernel_rfl) (by simp) ?_
            refine AllReadyIn.cons rfl (fun K hK => ?_) ?_
            · skip
              go_simp
              refine hK _ _ ?_
              clear hK K
              refine wpAnyIn_ready (rs := [9]) (by kernel_rfl) (by simp) ?_
              refine AllReadyIn.cons rfl (fun K hK => ?_) ?_
              · skip
                go_simp
                refine ⟨trivial, ?_⟩
                gi_at_call 25
                refine (callsIn_wide.2 (hhash tx _ _ (a1.below hT.drew))).mono ?_
                rintro e w9 ⟨rfl, hB9⟩
                refine hK _ _ ?_
                clear hK K
                have hP9 : w9.cell? ⟨w.heap.size + 1, 0, none⟩ = some sv := (hB9.cell (p := ⟨w.heap.size + 1, 0, none⟩) b1.lt).trans hP
                have hP9a : ∀ o, (w9.alloc o).cell? ⟨w.heap.size + 1, 0, none⟩ = some sv := fun o => SmtU.cell_al o hP9 (Nat.lt_of_lt_of_le b1.lt hB9.size)
                have hown9 : w9.ownsRow (w'.heap.size + 2) 9 1 sv (SmtU.run (SmtW.bitV pth) T0 pre).2.length ((SmtU.run (SmtW.bitV pth) T0 pre).2.map .string) := SmtU.own_kept (n := 0) b2.drew hB9
                refine wpAnyIn_ready (rs := [10]) (by kernel_rfl) (by simp) ?_
                refine AllReadyIn.cons rfl (fun K hK => ?_) ?_
                · skip
                  go_simp
                  refine hK _ _ ?_
                  clear hK K
                  refine wpAnyIn_ready (rs := [11]) (by kernel_rfl) (by simp) ?_
                  refine AllReadyIn.cons rfl (fun K hK => ?_) ?_
                  · skip
                    refine SmtR.step_append rfl (.tmp 33) (.tmp 42) 32 rfl (w'.heap.size + 2) 9 i0 (.string ⟨#[]⟩) 1 16 under32 hi hz hsz hby rfl (by decide) sv (SmtU.run (SmtW.bitV pth) T0 pre).2.length ((SmtU.run (SmtW.bitV pth) T0 pre).2.map .string) rfl (hown9.alloc _) ⟨w9.heap.size, 0, none⟩ 1 1 [.string tx.hash] rfl rfl (by intro j u hu; cases j with | zero => (cases hu; exact SmtR.new_cell _ _) | succ j => simp at hu) (by intro u hu; simp at hu; subst hu; rfl) (by simp only [maxLen]; omega) (by omega) (by have := hB9.size; simp at this ⊢; omega) ?_
                    intro nv w1 hown hgrow
                    obtain ⟨g, cap, rfl⟩ := ownsRow_succ hown
                    obtain ⟨⟨hp1, fp1⟩, hn2, hcell2, hfin⟩ := SmtU.next (t2 := ty) (T0 := T0) (b := SmtW.bitV pth) (pre := pre ++ [x]) (l := (SmtU.run (SmtW.bitV pth) T0 pre).2 ++ [tx.hash]) (R := w.heap.size) (P := w.heap.size + 1) (B := w'.heap.size) (G := w'.heap.size + 1) (n4 := w'.heap.size + 2) (by omega) (by omega) (by omega) (by omega) (by omega) (by omega) (by omega) (by omega) (by omega) (by omega) (by omega) (by omega) hz4 b1 b2 b3 bR hT hB9 hown hgrow
                    have hnc := hn2.cell
                    have hnf := hn2.frozen
                    have d4 := (hcell2 ⟨b, o, none⟩ l1).trans c1
                    have d5 := (hcell2 ⟨b, o + 1, none⟩ l1).trans c2
                    refine hK _ _ ?_
                    clear hK K
                    refine wpAnyIn_take (i := 12) (v := ?v21) rfl rfl (by kernel_rfl) (by kernel_rfl) (by kernel_rfl) (fun _ _ _ h => h) ⟨Or.inl ⟨by rfl, ?hy21⟩, fun _ => rfl⟩ ?rest21
                    case hy21 => (intro w; go_simp; first | done | with_reducible rfl | rfl)
                    refine wpAnyIn_ready (rs := [13]) (by kernel_rfl) (by simp) ?_
                    refine AllReadyIn.cons rfl (fun K hK => ?_) ?_
                    · skip
                      go_simp
                      refine hK _ _ ?_
                      clear hK K
                      refine wpAnyIn_done (by kernel_rfl) ?_ _
                      gi_wp2
                      refine hfin _ a2 ?_ (by simp) (by simp)
                      rw [SmtU.run_snoc]; unfold SmtU.step; rw [hq]; simp [e]
                    exact AllReadyIn.nil
                  exact AllReadyIn.nil
                exact AllReadyIn.nil
              exact AllReadyIn.nil
            exact AllReadyIn.nil
          exact AllReadyIn.nil
        refine AllReadyIn.cons rfl (fun K hK => ?_) ?_
        · skip
          go_simp
          refine hK _ _ ?_
          clear hK K
          refine wpAnyIn_take (i := 5) (v := ?v22) rfl rfl (by kernel_rfl) (by kernel_rfl) (by kernel_rfl) (fun _ _ _ h => h) ⟨Or.inl ⟨by rfl, ?hy22⟩, fun _ => rfl⟩ ?rest22
          case hy22 => (intro w; go_simp; first | done | with_reducible rfl | rfl)
          refine wpAnyIn_take (i := 6) (v := ?v23) rfl rfl (by kernel_rfl) (by kernel_rfl) (by kernel_rfl) (fun _ _ _ h => h) ⟨Or.inl ⟨by rfl, ?hy23⟩, fun _ => rfl⟩ ?rest23
          case hy23 => (intro w; go_simp; first | done | with_reducible rfl | rfl)
          refine wpAnyIn_take (i := 7) (v := ?v24) rfl rfl (by kernel_rfl) (by kernel_rfl) (by kernel_rfl) (fun _ _ _ h => h) ⟨Or.inl ⟨by rfl, ?hy24⟩, fun _ => rfl⟩ ?rest24
          case hy24 => (intro w; go_simp; first | done | with_reducible rfl | rfl)
          refine wpAnyIn_ready (rs := [1, 8]) (by kernel_rfl) (by simp) ?_
          refine AllReadyIn.cons rfl (fun K hK => ?_) ?_
          · skip
            go_simp
            refine hK _ _ ?_
            clear hK K
            refine wpAnyIn_ready (rs := [8]) (by kernel_rfl) (by simp) ?_
            refine AllReadyIn.cons rfl (fun K hK => ?_) ?_
            · skip
              go_simp
              refine hK _ _ ?_
              clear hK K
              refine wpAnyIn_ready (rs := [9]) (by kernel_rfl) (by simp) ?_
              refine AllReadyIn.cons rfl (fun K hK => ?_) ?_
              · skip
                go_simp
                refine ⟨trivial, ?_⟩
                gi_at_call 25
                refine (callsIn_wide.2 (hhash tx _ _ (a1.below hT.drew))).mono ?_
                rintro e w9 ⟨rfl, hB9⟩
                refine hK _ _ ?_
                clear hK K
                have hP9 : w9.cell? ⟨w.heap.size + 1, 0, none⟩ = some sv := (hB9.cell (p := ⟨w.heap.size + 1, 0, none⟩) b1.lt).trans hP
                have hP9a : ∀ o, (w9.alloc o).cell? ⟨w.heap.size + 1, 0, none⟩ = some sv := fun o => SmtU.cell_al o hP9 (Nat.lt_of_lt_of_le b1.lt hB9.size)
                have hown9 : w9.ownsRow (w'.heap.size + 2) 9 1 sv (SmtU.run (SmtW.bitV pth) T0 pre).2.length ((SmtU.run (SmtW.bitV pth) T0 pre).2.map .string) := SmtU.own_kept (n := 0) b2.drew hB9
                refine wpAnyIn_ready (rs := [10]) (by kernel_rfl) (by simp) ?_
                refine AllReadyIn.cons rfl (fun K hK => ?_) ?_
                · skip
                  go_simp
                  refine hK _ _ ?_
                  clear hK K
                  refine wpAnyIn_ready (rs := [11]) (by kernel_rfl) (by simp) ?_
                  refine AllReadyIn.cons rfl (fun K hK => ?_) ?_
                  · skip
                    refine SmtR.step_append rfl (.tmp 33) (.tmp 42) 32 rfl (w'.heap.size + 2) 9 i0 (.string ⟨#[]⟩) 1 16 under32 hi hz hsz hby rfl (by decide) sv (SmtU.run (SmtW.bitV pth) T0 pre).2.length ((SmtU.run (SmtW.bitV pth) T0 pre).2.map .string) rfl (hown9.alloc _) ⟨w9.heap.size, 0, none⟩ 1 1 [.string tx.hash] rfl rfl (by intro j u hu; cases j with | zero => (cases hu; exact SmtR.new_cell _ _) | succ j => simp at hu) (by intro u hu; simp at hu; subst hu; rfl) (by simp only [maxLen]; omega) (by omega) (by have := hB9.size; simp at this ⊢; omega) ?_
                    intro nv w1 hown hgrow
                    obtain ⟨g, cap, rfl⟩ := ownsRow_succ hown
                    obtain ⟨⟨hp1, fp1⟩, hn2, hcell2, hfin⟩ := SmtU.next (t2 := ty) (T0 := T0) (b := SmtW.bitV pth) (pre := pre ++ [x]) (l := (SmtU.run (SmtW.bitV pth) T0 pre).2 ++ [tx.hash]) (R := w.heap.size) (P := w.heap.size + 1) (B := w'.heap.size) (G := w'.heap.size + 1) (n4 := w'.heap.size + 2) (by omega) (by omega) (by omega) (by omega) (by omega) (by omega) (by omega) (by omega) (by omega) (by omega) (by omega) (by omega) hz4 b1 b2 b3 bR hT hB9 hown hgrow
                    have hnc := hn2.cell
                    have hnf := hn2.frozen
                    have d4 := (hcell2 ⟨b, o, none⟩ l1).trans c1
                    have d5 := (hcell2 ⟨b, o + 1, none⟩ l1).trans c2
                    refine hK _ _ ?_
                    clear hK K
                    refine wpAnyIn_take (i := 12) (v := ?v25) rfl rfl (by kernel_rfl) (by kernel_rfl) (by kernel_rfl) (fun _ _ _ h => h) ⟨Or.inl ⟨by rfl, ?hy25⟩, fun _ => rfl⟩ ?rest25
                    case hy25 => (intro w; go_simp; first | done | with_reducible rfl | rfl)
                    refine wpAnyIn_ready (rs := [13]) (by kernel_rfl) (by simp) ?_
                    refine AllReadyIn.cons rfl (fun K hK => ?_) ?_
                    · skip
                      go_simp
                      refine hK _ _ ?_
                      clear hK K
                      refine wpAnyIn_done (by kernel_rfl) ?_ _
                      gi_wp2
                      refine hfin _ a2 ?_ (by simp) (by simp)
                      rw [SmtU.run_snoc]; unfold SmtU.step; rw [hq]; simp [e]
                    exact AllReadyIn.nil
                  exact AllReadyIn.nil
                exact AllReadyIn.nil
              exact AllReadyIn.nil
            exact AllReadyIn.nil
          refine AllReadyIn.cons rfl (fun K hK => ?_) ?_
          · skip
            go_simp
            refine hK _ _ ?_
            clear hK K
            refine wpAnyIn_ready (rs := [1, 9]) (by kernel_rfl) (by simp) ?_
            refine AllReadyIn.cons rfl (fun K hK => ?_) ?_
            · skip
              go_simp
              refine hK _ _ ?_
              clear hK K
              refine wpAnyIn_ready (rs := [9]) (by kernel_rfl) (by simp) ?_
              refine AllReadyIn.cons rfl (fun K hK => ?_) ?_
              · skip
                go_simp
                refine ⟨trivial, ?_⟩
                gi_at_call 25
                refine (callsIn_wide.2 (hhash tx _ _ (a1.below hT.drew))).mono ?_
                rintro e w9 ⟨rfl, hB9⟩
                refine hK _ _ ?_
                clear hK K
                have hP9 : w9.cell? ⟨w.heap.size + 1, 0, none⟩ = some sv := (hB9.cell (p := ⟨w.heap.size + 1, 0, none⟩) b1.lt).trans hP
                have hP9a : ∀ o, (w9.alloc o).cell? ⟨w.heap.size + 1, 0, none⟩ = some sv := fun o => SmtU.cell_al o hP9 (Nat.lt_of_lt_of_le b1.lt hB9.size)
                have hown9 : w9.ownsRow (w'.heap.size + 2) 9 1 sv (SmtU.run (SmtW.bitV pth) T0 pre).2.length ((SmtU.run (SmtW.bitV pth) T0 pre).2.map .string) := SmtU.own_kept (n := 0) b2.drew hB9
                refine wpAnyIn_ready (rs := [10]) (by kernel_rfl) (by simp) ?_
                refine AllReadyIn.cons rfl (fun K hK => ?_) ?_
                · skip
                  go_simp
                  refine hK _ _ ?_
                  clear hK K
                  refine wpAnyIn_ready (rs := [11]) (by kernel_rfl) (by simp) ?_
                  refine AllReadyIn.cons rfl (fun K hK => ?_) ?_
                  · skip
                    refine SmtR.step_append rfl (.tmp 33) (.tmp 42) 32 rfl (w'.heap.size + 2) 9 i0 (.string ⟨#[]⟩) 1 16 under32 hi hz hsz hby rfl (by decide) sv (SmtU.run (SmtW.bitV pth) T0 pre).2.length ((SmtU.run (SmtW.bitV pth) T0 pre).2.map .string) rfl (hown9.alloc _) ⟨w9.heap.size, 0, none⟩ 1 1 [.string tx.hash] rfl rfl (by intro j u hu; cases j with | zero => (cases hu; exact SmtR.new_cell _ _) | succ j => simp at hu) (by intro u hu; simp at hu; subst hu; rfl) (by simp only [maxLen]; omega) (by omega) (by have := hB9.size; simp at this ⊢; omega) ?_
                    intro nv w1 hown hgrow
                    obtain ⟨g, cap, rfl⟩ := ownsRow_succ hown
                    obtain ⟨⟨hp1, fp1⟩, hn2, hcell2, hfin⟩ := SmtU.next (t2 := ty) (T0 := T0) (b := SmtW.bitV pth) (pre := pre ++ [x]) (l := (SmtU.run (SmtW.bitV pth) T0 pre).2 ++ [tx.hash]) (R := w.heap.size) (P := w.heap.size + 1) (B := w'.heap.size) (G := w'.heap.size + 1) (n4 := w'.heap.size + 2) (by omega) (by omega) (by omega) (by omega) (by omega) (by omega) (by omega) (by omega) (by omega) (by omega) (by omega) (by omega) hz4 b1 b2 b3 bR hT hB9 hown hgrow
                    have hnc := hn2.cell
                    have hnf := hn2.frozen
                    have d4 := (hcell2 ⟨b, o, none⟩ l1).trans c1
                    have d5 := (hcell2 ⟨b, o + 1, none⟩ l1).trans c2
                    refine hK _ _ ?_
                    clear hK K
                    refine wpAnyIn_take (i := 12) (v := ?v26) rfl rfl (by kernel_rfl) (by kernel_rfl) (by kernel_rfl) (fun _ _ _ h => h) ⟨Or.inl ⟨by rfl, ?hy26⟩, fun _ => rfl⟩ ?rest26
                    case hy26 => (intro w; go_simp; first | done | with_reducible rfl | rfl)
                    refine wpAnyIn_ready (rs := [13]) (by kernel_rfl) (by simp) ?_
                    refine AllReadyIn.cons rfl (fun K hK => ?_) ?_
                    · skip
                      go_simp
                      refine hK _ _ ?_
                      clear hK K
                      refine wpAnyIn_done (by kernel_rfl) ?_ _
                      gi_wp2
                      refine hfin _ a2 ?_ (by simp) (by simp)
                      rw [SmtU.run_snoc]; unfold SmtU.step; rw [hq]; simp [e]
                    exact AllReadyIn.nil
                  exact AllReadyIn.nil
                exact AllReadyIn.nil
              exact AllReadyIn.nil
            refine AllReadyIn.cons rfl (fun K hK => ?_) ?_
            · skip
              go_simp
              refine ⟨trivial, ?_⟩
              gi_at_call 25
              refine (callsIn_wide.2 (hhash tx _ _ (a1.below hT.drew))).mono ?_
              rintro e w9 ⟨rfl, hB9⟩
              refine hK _ _ ?_
              clear hK K
              have hP9 : w9.cell? ⟨w.heap.size + 1, 0, none⟩ = some sv := (hB9.cell (p := ⟨w.heap.size + 1, 0, none⟩) b1.lt).trans hP
              have hP9a : ∀ o, (w9.alloc o).cell? ⟨w.heap.size + 1, 0, none⟩ = some sv := fun o => SmtU.cell_al o hP9 (Nat.lt_of_lt_of_le b1.lt hB9.size)
              have hown9 : w9.ownsRow (w'.heap.size + 2) 9 1 sv (SmtU.run (SmtW.bitV pth) T0 pre).2.length ((SmtU.run (SmtW.bitV pth) T0 pre).2.map .string) := SmtU.own_kept (n := 0) b2.drew hB9
              refine wpAnyIn_ready (rs := [1, 10]) (by kernel_rfl) (by simp) ?_
              refine AllReadyIn.cons rfl (fun K hK => ?_) ?_
              · skip
                go_simp
                refine hK _ _ ?_
                clear hK K
                refine wpAnyIn_ready (rs := [10]) (by kernel_rfl) (by simp) ?_
                refine AllReadyIn.cons rfl (fun K hK => ?_) ?_
                · skip
                  go_simp
                  refine hK _ _ ?_
                  clear hK K
                  refine wpAnyIn_ready (rs := [11]) (by kernel_rfl) (by simp) ?_
                  refine AllReadyIn.cons rfl (fun K hK => ?_) ?_
                  · skip
                    refine SmtR.step_append rfl (.tmp 33) (.tmp 42) 32 rfl (w'.heap.size + 2) 9 i0 (.string ⟨#[]⟩) 1 16 under32 hi hz hsz hby rfl (by decide) sv (SmtU.run (SmtW.bitV pth) T0 pre).2.length ((SmtU.run (SmtW.bitV pth) T0 pre).2.map .string) rfl (hown9.alloc _) ⟨w9.heap.size, 0, none⟩ 1 1 [.string tx.hash] rfl rfl (by intro j u hu; cases j with | zero => (cases hu; exact SmtR.new_cell _ _) | succ j => simp at hu) (by intro u hu; simp at hu; subst hu; rfl) (by simp only [maxLen]; omega) (by omega) (by have := hB9.size; simp at this ⊢; omega) ?_
                    intro nv w1 hown hgrow
                    obtain ⟨g, cap, rfl⟩ := ownsRow_succ hown
                    obtain ⟨⟨hp1, fp1⟩, hn2, hcell2, hfin⟩ := SmtU.next (t2 := ty) (T0 := T0) (b := SmtW.bitV pth) (pre := pre ++ [x]) (l := (SmtU.run (SmtW.bitV pth) T0 pre).2 ++ [tx.hash]) (R := w.heap.size) (P := w.heap.size + 1) (B := w'.heap.size) (G := w'.heap.size + 1) (n4 := w'.heap.size + 2) (by omega) (by omega) (by omega) (by omega) (by omega) (by omega) (by omega) (by omega) (by omega) (by omega) (by omega) (by omega) hz4 b1 b2 b3 bR hT hB9 hown hgrow
                    have hnc := hn2.cell
                    have hnf := hn2.frozen
                    have d4 := (hcell2 ⟨b, o, none⟩ l1).trans c1
                    have d5 := (hcell2 ⟨b, o + 1, none⟩ l1).trans c2
                    refine hK _ _ ?_
                    clear hK K
                    refine wpAnyIn_take (i := 12) (v := ?v27) rfl rfl (by kernel_rfl) (by kernel_rfl) (by kernel_rfl) (fun _ _ _ h => h) ⟨Or.inl ⟨by rfl, ?hy27⟩, fun _ => rfl⟩ ?rest27
                    case hy27 => (intro w; go_simp; first | done | with_reducible rfl | rfl)
                    refine wpAnyIn_ready (rs := [13]) (by kernel_rfl) (by simp) ?_
                    refine AllReadyIn.cons rfl (fun K hK => ?_) ?_
                    · skip
                      go_simp
                      refine hK _ _ ?_
                      clear hK K
                      refine wpAnyIn_done (by kernel_rfl) ?_ _
                      gi_wp2
                      refine hfin _ a2 ?_ (by simp) (by simp)
                      rw [SmtU.run_snoc]; unfold SmtU.step; rw [hq]; simp [e]
                    exact AllReadyIn.nil
                  exact AllReadyIn.nil
                exact AllReadyIn.nil
              refine AllReadyIn.cons rfl (fun K hK => ?_) ?_
              · skip
                go_simp
                refine hK _ _ ?_
                clear hK K
                refine wpAnyIn_ready (rs := [1]) (by kernel_rfl) (by simp) ?_
                refine AllReadyIn.cons rfl (fun K hK => ?_) ?_
                · skip
                  go_simp
                  refine hK _ _ ?_
                  clear hK K
                  refine wpAnyIn_ready (rs := [11]) (by kernel_rfl) (by simp) ?_
                  refine AllReadyIn.cons rfl (fun K hK => ?_) ?_
                  · skip
                    refine SmtR.step_append rfl (.tmp 33) (.tmp 42) 32 rfl (w'.heap.size + 2) 9 i0 (.string ⟨#[]⟩) 1 16 under32 hi hz hsz hby rfl (by decide) sv (SmtU.run (SmtW.bitV pth) T0 pre).2.length ((SmtU.run (SmtW.bitV pth) T0 pre).2.map .string) rfl (hown9.alloc _) ⟨w9.heap.size, 0, none⟩ 1 1 [.string tx.hash] rfl rfl (by intro j u hu; cases j with | zero => (cases hu; exact SmtR.new_cell _ _) | succ j => simp at hu) (by intro u hu; simp at hu; subst hu; rfl) (by simp only [maxLen]; omega) (by omega) (by have := hB9.size; simp at this ⊢; omega) ?_
                    intro nv w1 hown hgrow
                    obtain ⟨g, cap, rfl⟩ := ownsRow_succ hown
                    obtain ⟨⟨hp1, fp1⟩, hn2, hcell2, hfin⟩ := SmtU.next (t2 := ty) (T0 := T0) (b := SmtW.bitV pth) (pre := pre ++ [x]) (l := (SmtU.run (SmtW.bitV pth) T0 pre).2 ++ [tx.hash]) (R := w.heap.size) (P := w.heap.size + 1) (B := w'.heap.size) (G := w'.heap.size + 1) (n4 := w'.heap.size + 2) (by omega) (by omega) (by omega) (by omega) (by omega) (by omega) (by omega) (by omega) (by omega) (by omega) (by omega) (by omega) hz4 b1 b2 b3 bR hT hB9 hown hgrow
                    have hnc := hn2.cell
                    have hnf := hn2.frozen
                    have d4 := (hcell2 ⟨b, o, none⟩ l1).trans c1
                    have d5 := (hcell2 ⟨b, o + 1, none⟩ l1).trans c2
                    refine hK _ _ ?_
                    clear hK K
                    refine wpAnyIn_take (i := 12) (v := ?v28) rfl rfl (by kernel_rfl) (by kernel_rfl) (by kernel_rfl) (fun _ _ _ h => h) ⟨Or.inl ⟨by rfl, ?hy28⟩, fun _ => rfl⟩ ?rest28
                    case hy28 => (intro w; go_simp; first | done | with_reducible rfl | rfl)
                    refine wpAnyIn_ready (rs := [13]) (by kernel_rfl) (by simp) ?_
                    refine AllReadyIn.cons rfl (fun K hK => ?_) ?_
                    · skip
                      go_simp
                      refine hK _ _ ?_
                      clear hK K
                      refine wpAnyIn_done (by kernel_rfl) ?_ _
                      gi_wp2
                      refine hfin _ a2 ?_ (by simp) (by simp)
                      rw [SmtU.run_snoc]; unfold SmtU.step; rw [hq]; simp [e]
                    exact AllReadyIn.nil
                  exact AllReadyIn.nil
                exact AllReadyIn.nil
              exact AllReadyIn.nil
            exact AllReadyIn.nil
          exact AllReadyIn.nil
        exact AllReadyIn.nil
  case hdone =>
    rintro D ys W hD rfl st hK
    have hr := hrun
    obtain ⟨⟨c, sv, b1, b2, b3, hA⟩, bR, hT, hz4⟩ := st
    rw [hr] at b2 hA
    have hD2 : w'.heap.size + 2 ≤ D := by
      rw [hW4, hs4] at hD
      exact hD
    obtain ⟨b, o, bl, ol, rfl, l1, l2, c1, c2, c3, c4⟩ := hA
    have d1 := (hT.cell (p := ⟨b, o + 2, none⟩) l1).trans c1
    have d2 := (hT.cell (p := ⟨bl, ol, none⟩) l2).trans c2
    have d3 := (hT.cell (p := ⟨bl, ol + 1, none⟩) l2).trans c3
    have cn := b3.cell
    have fn := b3.frozen
    obtain ⟨z50, z51, z52, z53⟩ := b1.cells
    have f5 := b1.frozen
    obtain ⟨z40, z41, z42, z43⟩ := bR.cells
    have f4 := bR.frozen
    obtain ⟨sa, sn, sc, rfl⟩ : ∃ sa sn sc, sv = .slice sa sn sc := by
      rcases b2.2 with ⟨rfl, _⟩ | ⟨g, cap, cur, rfl, _⟩
      · exact ⟨_, _, _, rfl⟩
      · exact ⟨_, _, _, rfl⟩
    gi_wp2
    gi_region
    gi_wp2
    obtain ⟨W6, hW6⟩ : ∃ W6, (((((((W.setCell ⟨w.heap.size + 1, 1, none⟩ (.bool true)).setCell ⟨w.heap.size + 1, 2, none⟩ (.string p)).setCell ⟨w.heap.size + 1, 3, none⟩ (.string v)).setCell ⟨w.heap.size, 0, none⟩ (.slice sa sn sc)).setCell ⟨w.heap.size, 1, none⟩ (.bool true)).setCell ⟨w.heap.size, 2, none⟩ (.string p)).setCell ⟨w.heap.size, 3, none⟩ (.string v)).drew = W6 := ⟨_, rfl⟩
    have kO : KeepsOthers W W6 := by
      rw [← hW6]
      exact (((((((KeepsOthers.setCell W _ _).trans (KeepsOthers.setCell _ _ _)).trans (KeepsOthers.setCell _ _ _)).trans (KeepsOthers.setCell _ _ _)).trans (KeepsOthers.setCell _ _ _)).trans (KeepsOthers.setCell _ _ _)).trans (KeepsOthers.setCell _ _ _)).trans (KeepsOthers.drew _)
    have hK6 := kO.same D _ hK rfl
    have hT6 : Below w.heap.size w W6 := by
      rw [← hW6]
      exact (((((((hT.setCell (p := ⟨w.heap.size + 1, 1, none⟩) (by simp) _).setCell (p := ⟨w.heap.size + 1, 2, none⟩) (by simp) _).setCell (p := ⟨w.heap.size + 1, 3, none⟩) (by simp) _).setCell (p := ⟨w.heap.size, 0, none⟩) (by simp) _).setCell (p := ⟨w.heap.size, 1, none⟩) (by simp) _).setCell (p := ⟨w.heap.size, 2, none⟩) (by simp) _).setCell (p := ⟨w.heap.size, 3, none⟩) (by simp) _).drew
    have o : ∀ {X : World} {a b : Addr} {u x : Value}, a ≠ b → X.cell? b = some x → (X.setCell a u).cell? b = some x := fun h hx => (World.cell?_setCell_other _ _ _ _ h).trans hx
    have sm : ∀ {X : World} {a : Addr} {u x : Value}, X.cell? a = some x → (X.setCell a u).cell? a = some u := fun hx => World.cell?_setCell_same _ _ _ hx
    have e0 : W6.cell? ⟨w.heap.size, 0, none⟩ = some (.slice sa sn sc) := by
      rw [← hW6, World.cell?_drew]
      exact o (by simp) (o (by simp) (o (by simp) (sm (o (by simp) (o (by simp) (o (by simp) z40))))))
    have e1 : W6.cell? ⟨w.heap.size, 1, none⟩ = some (.bool true) := by
      rw [← hW6, World.cell?_drew]
      exact o (by simp) (o (by simp) (sm (o (by simp) (o (by simp) (o (by simp) (o (by simp) z41))))))
    have e2 : W6.cell? ⟨w.heap.size, 2, none⟩ = some (.string p) := by
      rw [← hW6, World.cell?_drew]
      exact o (by simp) (sm (o (by simp) (o (by simp) (o (by simp) (o (by simp) (o (by simp) z42))))))
    have e3 : W6.cell? ⟨w.heap.size, 3, none⟩ = some (.string v) := by
      rw [← hW6, World.cell?_drew]
      exact sm (o (by simp) (o (by simp) (o (by simp) (o (by simp) (o (by simp) (o (by simp) z43))))))
    have own6 : W6.ownsRow (w'.heap.size + 2) 9 1 (.slice sa sn sc) l.length (l.map .string) := by
      have st : ∀ {X : World} (q j : Nat) (u : Value), q < w'.heap.size + 2 → X.ownsRow (w'.heap.size + 2) 9 1 (.slice sa sn sc) l.length (l.map .string) → (X.setCell ⟨q, j, none⟩ u).ownsRow (w'.heap.size + 2) 9 1 (.slice sa sn sc) l.length (l.map .string) := by
        intro X q j u hq hx
        refine ⟨hx.1, ?_⟩
        rcases hx.2 with h0 | ⟨g, cap, cur, e, hb, hgb, r⟩
        · exact .inl h0
        · exact .inr ⟨g, cap, cur, e, hb, (Below.heap_setCell X ⟨q, j, none⟩ u g (by simp; omega)).trans hgb, r⟩
      rw [← hW6]
      exact (st _ _ _ (by omega) (st _ _ _ (by omega) (st _ _ _ (by omega) (st _ _ _ (by omega) (st _ _ _ (by omega) (st _ _ _ (by omega) (st _ _ _ (by omega) b2))))))).drew
    rw [hW6]
    refine ⟨by simp, .inl ⟨_, _, rfl, run_takeDeferred hK6, ?_⟩⟩
    have kp : ∀ {a : Addr} {x : Value}, W6.cell? a = some x → (W6.putObj D (.deferred none)).cell? a = some x := fun h => cell_kept h (grownBy_putObj' _ D (.deferred none)) (fun r e => by cases e; exact ⟨_, hK6, rfl⟩)
    have g0 := kp e0
    have g1 := kp e1
    have g2 := kp e2
    have g3 := kp e3
    have own7 := ownsRow_putObj own6 (.deferred none) hK6 rfl
    refine ⟨.agg #[.slice sa sn sc, .bool true, .string p, .string v], ?_, .slice sa sn sc, rfl, ?_, hT6.trans (belowK_b (w := w) (Nat.le_refl _) _ D _ _ (by omega) hK6 rfl rfl)⟩
    · simp [results, Try.f19, go_sem, g0, g1, g2, g3]
    · refine ⟨own7.1, ?_⟩
      rcases own7.2 with h0 | ⟨g, cap, cur, e, hb, hgb, r⟩
      · exact .inl h0
      · exact .inr ⟨g, cap, cur, e, by omega, hgb, r⟩
  case hstop =>
    rintro D c pre W hD ⟨k, hk1, hpre⟩ ⟨rfl, pre1, x, hp1, st, hnn⟩ hK
    have hr : SmtU.run (SmtW.bitV pth) T0 pre1 = (.leaf p v h, l) := SmtT.run_stop hrun hk1 (hpre.symm.trans hp1) hnn
    obtain ⟨⟨c, sv, b1, b2, b3, hA⟩, bR, hT, hz4⟩ := st
    rw [hr] at b2 hA
    have hD2 : w'.heap.size + 2 ≤ D := by
      rw [hW4, hs4] at hD
      exact hD
    obtain ⟨b, o, bl, ol, rfl, l1, l2, c1, c2, c3, c4⟩ := hA
    have d1 := (hT.cell (p := ⟨b, o + 2, none⟩) l1).trans c1
    have d2 := (hT.cell (p := ⟨bl, ol, none⟩) l2).trans c2
    have d3 := (hT.cell (p := ⟨bl, ol + 1, none⟩) l2).trans c3
    have cn := b3.cell
    have fn := b3.frozen
    obtain ⟨z50, z51, z52, z53⟩ := b1.cells
    have f5 := b1.frozen
    obtain ⟨z40, z41, z42, z43⟩ := bR.cells
    have f4 := bR.frozen
    obtain ⟨sa, sn, sc, rfl⟩ : ∃ sa sn sc, sv = .slice sa sn sc := by
      rcases b2.2 with ⟨rfl, _⟩ | ⟨g, cap, cur, rfl, _⟩
      · exact ⟨_, _, _, rfl⟩
      · exact ⟨_, _, _, rfl⟩
    gi_wp2
    gi_region
    gi_wp2
    obtain ⟨W6, hW6⟩ : ∃ W6, (((((((W.setCell ⟨w.heap.size + 1, 1, none⟩ (.bool true)).setCell ⟨w.heap.size + 1, 2, none⟩ (.string p)).setCell ⟨w.heap.size + 1, 3, none⟩ (.string v)).setCell ⟨w.heap.size, 0, none⟩ (.slice sa sn sc)).setCell ⟨w.heap.size, 1, none⟩ (.bool true)).setCell ⟨w.heap.size, 2, none⟩ (.string p)).setCell ⟨w.heap.size, 3, none⟩ (.string v)).drew = W6 := ⟨_, rfl⟩
    have kO : KeepsOthers W W6 := by
      rw [← hW6]
      exact (((((((KeepsOthers.setCell W _ _).trans (KeepsOthers.setCell _ _ _)).trans (KeepsOthers.setCell _ _ _)).trans (KeepsOthers.setCell _ _ _)).trans (KeepsOthers.setCell _ _ _)).trans (KeepsOthers.setCell _ _ _)).trans (KeepsOthers.setCell _ _ _)).trans (KeepsOthers.drew _)
    have hK6 := kO.same D _ hK rfl
    have hT6 : Below w.heap.size w W6 := by
      rw [← hW6]
      exact (((((((hT.setCell (p := ⟨w.heap.size + 1, 1, none⟩) (by simp) _).setCell (p := ⟨w.heap.size + 1, 2, none⟩) (by simp) _).setCell (p := ⟨w.heap.size + 1, 3, none⟩) (by simp) _).setCell (p := ⟨w.heap.size, 0, none⟩) (by simp) _).setCell (p := ⟨w.heap.size, 1, none⟩) (by simp) _).setCell (p := ⟨w.heap.size, 2, none⟩) (by simp) _).setCell (p := ⟨w.heap.size, 3, none⟩) (by simp) _).drew
    have o : ∀ {X : World} {a b : Addr} {u x : Value}, a ≠ b → X.cell? b = some x → (X.setCell a u).cell? b = some x := fun h hx => (World.cell?_setCell_other _ _ _ _ h).trans hx
    have sm : ∀ {X : World} {a : Addr} {u x : Value}, X.cell? a = some x → (X.setCell a u).cell? a = some u := fun hx => World.cell?_setCell_same _ _ _ hx
    have e0 : W6.cell? ⟨w.heap.size, 0, none⟩ = some (.slice sa sn sc) := by
      rw [← hW6, World.cell?_drew]
      exact o (by simp) (o (by simp) (o (by simp) (sm (o (by simp) (o (by simp) (o (by simp) z40))))))
    have e1 : W6.cell? ⟨w.heap.size, 1, none⟩ = some (.bool true) := by
      rw [← hW6, World.cell?_drew]
      exact o (by simp) (o (by simp) (sm (o (by simp) (o (by simp) (o (by simp) (o (by simp) z41))))))
    have e2 : W6.cell? ⟨w.heap.size, 2, none⟩ = some (.string p) := by
      rw [← hW6, World.cell?_drew]
      exact o (by simp) (sm (o (by simp) (o (by simp) (o (by simp) (o (by simp) (o (by simp) z42))))))
    have e3 : W6.cell? ⟨w.heap.size, 3, none⟩ = some (.string v) := by
      rw [← hW6, World.cell?_drew]
      exact sm (o (by simp) (o (by simp) (o (by simp) (o (by simp) (o (by simp) (o (by simp) z43))))))
    have own6 : W6.ownsRow (w'.heap.size + 2) 9 1 (.slice sa sn sc) l.length (l.map .string) := by
      have st : ∀ {X : World} (q j : Nat) (u : Value), q < w'.heap.size + 2 → X.ownsRow (w'.heap.size + 2) 9 1 (.slice sa sn sc) l.length (l.map .string) → (X.setCell ⟨q, j, none⟩ u).ownsRow (w'.heap.size + 2) 9 1 (.slice sa sn sc) l.length (l.map .string) := by
        intro X q j u hq hx
        refine ⟨hx.1, ?_⟩
        rcases hx.2 with h0 | ⟨g, cap, cur, e, hb, hgb, r⟩
        · exact .inl h0
        · exact .inr ⟨g, cap, cur, e, hb, (Below.heap_setCell X ⟨q, j, none⟩ u g (by simp; omega)).trans hgb, r⟩
      rw [← hW6]
      exact (st _ _ _ (by omega) (st _ _ _ (by omega) (st _ _ _ (by omega) (st _ _ _ (by omega) (st _ _ _ (by omega) (st _ _ _ (by omega) (st _ _ _ (by omega) b2))))))).drew
    rw [hW6]
    refine ⟨by simp, .inl ⟨_, _, rfl, run_takeDeferred hK6, ?_⟩⟩
    have kp : ∀ {a : Addr} {x : Value}, W6.cell? a = some x → (W6.putObj D (.deferred none)).cell? a = some x := fun h => cell_kept h (grownBy_putObj' _ D (.deferred none)) (fun r e => by cases e; exact ⟨_, hK6, rfl⟩)
    have g0 := kp e0
    have g1 := kp e1
    have g2 := kp e2
    have g3 := kp e3
    have own7 := ownsRow_putObj own6 (.deferred none) hK6 rfl
    refine ⟨.agg #[.slice sa sn sc, .bool true, .string p, .string v], ?_, .slice sa sn sc, rfl, ?_, hT6.trans (belowK_b (w := w) (Nat.le_refl _) _ D _ _ (by omega) hK6 rfl rfl)⟩
    · simp [results, Try.f19, go_sem, g0, g1, g2, g3]
    · refine ⟨own7.1, ?_⟩
      rcases own7.2 with h0 | ⟨g, cap, cur, e, hb, hgb, r⟩
      · exact .inl h0
      · exact .inr ⟨g, cap, cur, e, by omega, hgb, r⟩
theorem SmtT.hash_in (hE : ∀ w, Calls Try.prog 18 #[] w fun e W' => e = .returned (.string SmtU.z32) ∧ Below w.heap.size w W') (t : SmtU.T) (W : World) (c : Value) (hA : t.At W c) : Calls Try.prog 25 #[c] W fun e W' => e = .returned (.string t.hash) ∧ Below W.heap.size W W' := by
  cases t with
  | nil =>
    obtain rfl : c = .pointer none := hA
    go_enter Try.func25, Try.ntmps25
    go_wp2_with (go_at_call 18; refine (hE _).mono ?_; rintro e w' ⟨rfl, hB⟩)
    go_ret
    exact ⟨rfl, hB⟩
  | leaf p v h =>
    obtain ⟨b, o, bl, ol, rfl, l1, l2, c1, c2, c3, c4⟩ := hA
    go_enter Try.func25, Try.ntmps25
    go_wp2
    go_ret
    exact ⟨rfl, Below.refl _ _⟩
  | node x y h =>
    obtain ⟨b, o, cx, cy, rfl, l1, c1, c2, c3, c4, a1, a2⟩ := hA
    go_enter Try.func25, Try.ntmps25
    go_wp2
    go_ret
    exact ⟨rfl, Below.refl _ _⟩
end Go.Proofs
