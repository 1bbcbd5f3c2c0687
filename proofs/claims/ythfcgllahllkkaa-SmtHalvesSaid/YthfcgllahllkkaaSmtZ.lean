/- Sparse trees: the law's own waking test, walked by the kit. -/
import Derived.RangeFuncFrom
import Derived.Shelf.Abstract
import Derived.Shelf.RegionOpen
import Derived.WalkKit
import Derived.Test.YthfcgllahllkkaaProg
set_option linter.unusedSectionVars false
set_option linter.unusedSimpArgs false
set_option linter.unusedVariables false
namespace Go.Proofs
open Go.RowKit Go.Shelf
set_option maxRecDepth 100000
set_option maxHeartbeats 4000000
/-- A tree with one leaf, as it lies in memory. -/
structure SmtZ.Tree (h p v : ByteArray) (w : World) (b o bn on bl ol : Nat) : Prop where
  t0 : w.cell? ⟨b, o, none⟩ = some (.pointer (some ⟨bn, on, none⟩))
  t1 : w.cell? ⟨b, o + 1, none⟩ = some (.int .i64 1)
  n0 : w.cell? ⟨bn, on, none⟩ = some (.pointer none)
  n1 : w.cell? ⟨bn, on + 1, none⟩ = some (.pointer none)
  n2 : w.cell? ⟨bn, on + 2, none⟩ = some (.pointer (some ⟨bl, ol, none⟩))
  n3 : w.cell? ⟨bn, on + 3, none⟩ = some (.string h)
  l0 : w.cell? ⟨bl, ol, none⟩ = some (.string p)
  l1 : w.cell? ⟨bl, ol + 1, none⟩ = some (.string v)
  zb : b < w.heap.size
  zn : bn < w.heap.size
  zl : bl < w.heap.size
theorem SmtZ.Tree.below {h p v : ByteArray} {w W : World} {b o bn on bl ol : Nat} (t : SmtZ.Tree h p v w b o bn on bl ol) (hB : Below w.heap.size w W) : SmtZ.Tree h p v W b o bn on bl ol :=
  ⟨(hB.cell (p := ⟨b, o, none⟩) t.zb).trans t.t0, (hB.cell (p := ⟨b, o + 1, none⟩) t.zb).trans t.t1, (hB.cell (p := ⟨bn, on, none⟩) t.zn).trans t.n0, (hB.cell (p := ⟨bn, on + 1, none⟩) t.zn).trans t.n1,
   (hB.cell (p := ⟨bn, on + 2, none⟩) t.zn).trans t.n2, (hB.cell (p := ⟨bn, on + 3, none⟩) t.zn).trans t.n3, (hB.cell (p := ⟨bl, ol, none⟩) t.zl).trans t.l0, (hB.cell (p := ⟨bl, ol + 1, none⟩) t.zl).trans t.l1,
   Nat.lt_of_lt_of_le t.zb hB.size, Nat.lt_of_lt_of_le t.zn hB.size, Nat.lt_of_lt_of_le t.zl hB.size⟩
theorem SmtZ.awake_in (N : World → Nat → Nat → Prop) (h p v : ByteArray)
    (hnew : ∀ w, Calls Try.prog 14 #[] w fun e W' => ∃ b o, e = .returned (.pointer (some ⟨b, o, none⟩)) ∧ N W' b o ∧ w.heap.size ≤ b ∧ Below w.heap.size w W')
    (hput : ∀ w b o n, N w b o → n ≤ b → n ≤ w.heap.size → Calls Try.prog 15 #[.pointer (some ⟨b, o, none⟩), .string ⟨#[97]⟩, .string ⟨#[49]⟩] w fun e W' => e = .returned (.int .i64 0) ∧ (∃ bn on bl ol, SmtZ.Tree h p v W' b o bn on bl ol) ∧ Below n w W')
    (hroot : ∀ w b o bn on bl ol, SmtZ.Tree h p v w b o bn on bl ol → Calls Try.prog 16 #[.pointer (some ⟨b, o, none⟩)] w fun e W' => e = .returned (.string h) ∧ Below w.heap.size w W')
    (hpr : ∀ w k b o bn on bl ol, SmtZ.Tree h p v w b o bn on bl ol → (k = ⟨#[97]⟩ ∨ k = ⟨#[98]⟩) → Calls Try.prog 19 #[.pointer (some ⟨b, o, none⟩), .string k] w fun e W' => e = .returned (.agg #[.slice none 0 0, .bool true, .string p, .string v]) ∧ Below w.heap.size w W')
    (hv : ∀ w x y z, ((x = ⟨#[97]⟩ ∧ y = ⟨#[49]⟩ ∧ z = true) ∨ (x = ⟨#[98]⟩ ∧ y = ⟨#[]⟩ ∧ z = false) ∨ (x = ⟨#[97]⟩ ∧ y = ⟨#[50]⟩ ∧ z = true)) → Calls Try.prog 20 #[.string h, .string x, .string y, .bool z, .agg #[.slice none 0 0, .bool true, .string p, .string v]] w fun e W' => e = .returned (.bool (decide (y ≠ ⟨#[50]⟩))) ∧ Below w.heap.size w W')
    (w : World) : Calls Try.prog 7 #[] w fun e W' => e = .returned (.bool true) ∧ Below w.heap.size w W' := by
  go_enter Try.func7, Try.ntmps7
  go_wp2_with (first
    | (go_at_call 14; refine (hnew _).mono ?_; rintro e w' ⟨b, o, rfl, hN, hb, hT⟩)
    | (go_at_call 15; refine (hput _ _ _ w.heap.size hN hb hT.size).mono ?_; rintro e w' ⟨rfl, ⟨bn, on, bl, ol, hTr⟩, hB⟩; have hT := hT.trans hB)
    | (go_at_call 16; refine (hroot _ _ _ _ _ _ _ hTr).mono ?_; rintro e w' ⟨rfl, hB⟩; have hTr := hTr.below hB; have hT := hT.trans (hB.mono hT.size))
    | (go_at_call 19; refine (hpr _ _ _ _ _ _ _ _ hTr (by simp)).mono ?_; rintro e w' ⟨rfl, hB⟩; have hTr := hTr.below hB; have hT := hT.trans (hB.mono hT.size))
    | (go_at_call 20; refine (hv _ _ _ _ (by simp)).mono ?_; rintro e w' ⟨rfl, hB⟩; have hTr := hTr.below hB; have hT := hT.trans (hB.mono hT.size)))
  go_ret
  exact ⟨rfl, hT⟩
end Go.Proofs
