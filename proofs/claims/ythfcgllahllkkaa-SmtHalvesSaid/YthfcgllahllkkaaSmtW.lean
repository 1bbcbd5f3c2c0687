import Derived.RangeFuncNested
import Derived.RangeFuncBound
import Derived.RangeFuncCalls
import Derived.RangeFuncLeaves
import Derived.RangeFuncFrom
import Derived.Shelf.Abstract
import Derived.Shelf.RegionOpen
import Derived.WalkKit
import Derived.OwnWalkIn
import Derived.TacticsInMore
import Derived.LoopNIn
import Derived.LoopIn
import Derived.Test.YthfcgllahllkkaaProg
set_option linter.unusedSectionVars false
set_option linter.unusedSimpArgs false
set_option linter.unusedVariables false
namespace Go.Proofs
open Go.RowKit Go.Shelf
attribute [local go_sem] Oper.semAt_some
set_option maxRecDepth 100000
set_option maxHeartbeats 2000000
/-- A text's bit, as the model reckons it. -/
def SmtW.bitV (s : ByteArray) (k : Nat) : Int := if h : k / 8 < s.size then bits .and .i64 (wrap64 (((s[k / 8]'h).toNat : Int) / 2 ^ (7 - k % 8))) 1 else 0
theorem SmtW.bit_in (s : ByteArray) (hs : s.size = 32) (k : Nat) (hk : k < 256) (w : World) : Calls Try.prog 29 #[.string s, .int .i64 k] w fun e W' => e = .returned (.int .i64 (SmtW.bitV s k)) ∧ W' = w := by
  have hb : SmtW.bitV s k = bits .and .i64 (wrap64 (((s[k / 8]'(by omega)).toNat : Int) / 2 ^ (7 - k % 8))) 1 := dif_pos _
  go_enter Try.func29, Try.ntmps29
  go_wp2
  go_ret
  exact ⟨by rw [hb]; rfl, rfl⟩
theorem SmtW.way_in (s : ByteArray) (w : World) : Calls Try.prog 26 #[.string s] w fun e W' => e = .returned (.func (.func 40) #[] #[.pointer (some ⟨w.heap.size, 0, none⟩)]) ∧ W' = w.alloc (.cells #[.string s] 9) := by
  go_enter Try.func26, Try.ntmps26
  go_wp2
  go_ret
  exact ⟨rfl, rfl⟩
def SmtW.upto {α : Type} (f : Nat → α) (k : Nat) : List α := (List.range k).map f
theorem SmtW.upto_succ {α : Type} (f : Nat → α) (k : Nat) : SmtW.upto f (k + 1) = SmtW.upto f k ++ [f k] := by simp [SmtW.upto, List.range_succ]
theorem SmtW.upto_length {α : Type} (f : Nat → α) (k : Nat) : (SmtW.upto f k).length = k := by simp [SmtW.upto]
theorem SmtW.way1_in (n l Bs n₀ : Nat) (hn : 1 ≤ n) (s : ByteArray) (hs : s.size = 32) (hb : Bs < n₀) (J Jx : List (Nat × Int) → World → Prop)
    (hY : ∀ pre x W, J pre W → pre.length < 256 → YieldAt Fence.wide (n - 1) Try.prog l #[.int .i64 (x.1 : Int), .int .i64 x.2] W fun e W' =>
      (e = .returned (.bool true) ∧ J (pre ++ [x]) W' ∧ Below n₀ W W') ∨ (e = .returned (.bool false) ∧ Jx (pre ++ [x]) W'))
    (W : World) (hBs : W.cell? ⟨Bs, 0, none⟩ = some (.string s)) (h0 : J [] W) :
    CallsIn Fence.wide n Try.prog 40 #[.func (.yield l) #[] #[], .pointer (some ⟨Bs, 0, none⟩)] W fun e W' => (∃ v, e = .returned v) ∧
      ((∃ ys, ys = SmtW.upto (fun j => (j, SmtW.bitV s j)) 256 ∧ J ys W') ∨ (∃ pre, (∃ k, 1 ≤ k ∧ pre = SmtW.upto (fun j => (j, SmtW.bitV s j)) k) ∧ Jx pre W')) := by
  refine callsIn_of_wp Try.func40 rfl trivial ?_ rfl
  simp only [Try.ntmps40, List.size_toArray, List.length_cons, List.length_nil, Nat.reduceAdd, Nat.reduceSub, Array.replicate_succ, Array.replicate_zero, List.push_toArray, List.append_toArray, List.nil_append, List.cons_append]
  gi_wp2
  gi_loopw [4] (fun i wr => ∃ k : Nat, k ≤ 256 ∧ i = .int .i64 k ∧ J (SmtW.upto (fun j => (j, SmtW.bitV s j)) k) wr ∧ Below n₀ W wr)
    (fun i _ => 256 - (intOf i).toNat)
  case atStart => exact ⟨0, Nat.zero_le _, rfl, h0, Below.refl _ _⟩
  case round =>
    obtain ⟨k, hk, rfl, hJs, hnx⟩ := hrel
    have hcx : wr.cell? ⟨Bs, 0, none⟩ = some (.string s) := (hnx.cell (p := ⟨Bs, 0, none⟩) hb).trans hBs
    by_cases hlt : k < 256
    · obtain ⟨fn, tmps, assign, body, hy, hR⟩ := hY _ (k, SmtW.bitV s k) wr hJs (by rw [SmtW.upto_length]; exact hlt)
      dsimp only at hy
      gi_wp2_with (refine ⟨trivial, ?_⟩; gi_at_call 29; refine (callsIn_wide.2 (SmtW.bit_in s hs k hlt _)).mono ?_; rintro e w' ⟨rfl, rfl⟩)
      refine hR.mono ?_
      rintro e W3 (⟨rfl, hJ3, hk3⟩ | ⟨rfl, hJx3⟩)
      · gi_wp2
        go_roundw
        case rel => exact ⟨k + 1, by omega, by simp, by rw [SmtW.upto_succ]; exact hJ3, hnx.trans hk3⟩
        case measure => simp [intOf]; omega
      · gi_wp2
        refine bodyPost_ret (results_none rfl _ _ _) rfl ?_
        exact ⟨⟨_, rfl⟩, .inr ⟨_, ⟨k + 1, by omega, (SmtW.upto_succ _ _).symm⟩, hJx3⟩⟩
    · obtain rfl : k = 256 := by omega
      gi_wp2
      go_end0
      exact ⟨⟨_, rfl⟩, .inl ⟨_, rfl, hJs⟩⟩
theorem SmtW.cell_al {W : World} (o : Obj) {p : Addr} {v : Value} (h : W.cell? p = some v) (hlt : p.block < W.heap.size) : (W.alloc o).cell? p = some v :=
  ((((Below.refl _ W).alloc (Nat.le_refl _) o).cell (p := p) hlt)).trans h
theorem SmtW.way_stops (n Bs n₀ : Nat) (hn : 1 ≤ n) (s : ByteArray) (hs : s.size = 32) (w : World) (hb : Bs < n₀) (hn₀ : n₀ ≤ w.heap.size) (hc : w.cell? ⟨Bs, 0, none⟩ = some (.string s)) :
    SeqStopsK Fence.wide n Try.prog 40 #[.pointer (some ⟨Bs, 0, none⟩)] (fun x : Nat × Int => #[.int .i64 (x.1 : Int), .int .i64 x.2]) (Below n₀) (fun ys => ys = SmtW.upto (fun j => (j, SmtW.bitV s j)) 256) (fun pre => ∃ k, 1 ≤ k ∧ pre = SmtW.upto (fun j => (j, SmtW.bitV s j)) k) 256 w := fun l J Jx W hW _ _ hY h0 =>
  SmtW.way1_in n l Bs n₀ hn s hs hb J Jx hY W ((hW.cell (p := ⟨Bs, 0, none⟩) (Nat.lt_of_lt_of_le hb hn₀)).trans hc) h0
theorem SmtW.prove_in (key pth p v : ByteArray) (hs : pth.size = 32) (hpath : ∀ w, Calls Try.prog 8 #[.string key] w fun e W' => e = .returned (.string pth) ∧ Below w.heap.size w W')
    (bt ot bn on bl ol : Nat) (w : World) (ht : w.cell? ⟨bt, ot, none⟩ = some (.pointer (some ⟨bn, on, none⟩))) (hn : w.cell? ⟨bn, on + 2, none⟩ = some (.pointer (some ⟨bl, ol, none⟩)))
    (h1 : w.cell? ⟨bl, ol, none⟩ = some (.string p)) (h2 : w.cell? ⟨bl, ol + 1, none⟩ = some (.string v)) (lt : bt < w.heap.size) (ln : bn < w.heap.size) (ll : bl < w.heap.size) :
    Calls Try.prog 19 #[.pointer (some ⟨bt, ot, none⟩), .string key] w fun e W' => e = .returned (.agg #[.slice none 0 0, .bool true, .string p, .string v]) ∧ Below w.heap.size w W' := by
  refine (callsIn_wide (n := 3)).1 ?_
  refine callsIn_of_wp_marks Try.func19 rfl trivial ?_ rfl
  simp only [Try.ntmps19, List.size_toArray, List.length_cons, List.length_nil, Nat.reduceAdd, Nat.reduceSub, Array.replicate_succ, Array.replicate_zero, List.push_toArray, List.append_toArray, List.nil_append, List.cons_append]
  gi_wp2_with (first
    | (refine ⟨trivial, ?_⟩; gi_at_call 8; refine (callsIn_wide.2 (hpath _)).mono ?_; rintro e w' ⟨rfl, hB⟩; have ht := (hB.cell (p := ⟨bt, ot, none⟩) (by simp; omega)).trans (SmtW.cell_al _ (SmtW.cell_al _ ht lt) (by simp; omega)))
    | (refine ⟨trivial, ?_⟩; gi_at_call 26; refine (callsIn_wide.2 (SmtW.way_in pth _)).mono ?_; rintro e w'' ⟨rfl, rfl⟩))
  have hB5 : w.heap.size + 2 ≤ w'.heap.size := by have := hB.size; simp at this; omega
  have hT : Below w.heap.size w w' := (((Below.refl _ w).alloc (Nat.le_refl _) _).alloc (by simp) _).trans (hB.mono (by simp; omega))
  have z : ∀ (j : Nat) (u : Value), (#[Value.slice none 0 0, Value.bool false, Value.string { data := #[] }, Value.string { data := #[] }] : Array Value)[j]? = some u →
      w'.cell? ⟨w.heap.size, j, none⟩ = some u ∧ w'.cell? ⟨w.heap.size + 1, j, none⟩ = some u ∧ w'.frozen? ⟨w.heap.size, j, none⟩ = false ∧ w'.frozen? ⟨w.heap.size + 1, j, none⟩ = false := by
    intro j u hu
    rw [hB.cell (p := ⟨w.heap.size, j, none⟩) (by simp; omega), hB.cell (p := ⟨w.heap.size + 1, j, none⟩) (by simp), hB.frozen (p := ⟨w.heap.size, j, none⟩) (by simp; omega), hB.frozen (p := ⟨w.heap.size + 1, j, none⟩) (by simp)]
    have e1 := World.alloc_heap_new (w.alloc (.cells #[Value.slice none 0 0, Value.bool false, Value.string { data := #[] }, Value.string { data := #[] }] 41)) (.cells #[Value.slice none 0 0, Value.bool false, Value.string { data := #[] }, Value.string { data := #[] }] 41)
    have e0 := (Below.heap_alloc (w.alloc (.cells #[Value.slice none 0 0, Value.bool false, Value.string { data := #[] }, Value.string { data := #[] }] 41)) (.cells #[Value.slice none 0 0, Value.bool false, Value.string { data := #[] }, Value.string { data := #[] }] 41) w.heap.size (by simp)).trans (World.alloc_heap_new w (.cells #[Value.slice none 0 0, Value.bool false, Value.string { data := #[] }, Value.string { data := #[] }] 41))
    rw [show (w.alloc (.cells #[Value.slice none 0 0, Value.bool false, Value.string { data := #[] }, Value.string { data := #[] }] 41)).heap.size = w.heap.size + 1 by simp] at e1
    unfold World.cell? World.frozen?
    simp only [e0, e1]
    refine ⟨?_, ?_, ?_, ?_⟩ <;> simp [hu]
  obtain ⟨W4, hW4⟩ : ∃ W4, (w'.alloc (.cells #[.pointer (some ⟨bn, on, none⟩)] 47)).alloc (.cells #[.string pth] 9) = W4 := ⟨_, rfl⟩
  have hT4 : Below w.heap.size w W4 := by rw [← hW4]; exact (hT.alloc hT.size _).alloc (by simp; omega) _
  have hT5 : Below w'.heap.size w' W4 := by rw [← hW4]; exact ((Below.refl _ w').alloc (Nat.le_refl _) _).alloc (by simp) _
  have hs4 : W4.heap.size = w'.heap.size + 2 := by rw [← hW4]; simp
  have cn : W4.cell? ⟨w'.heap.size, 0, none⟩ = some (.pointer (some ⟨bn, on, none⟩)) := by
    rw [← hW4]
    refine SmtW.cell_al _ ?_ (by simp)
    unfold World.cell?
    rw [World.alloc_heap_new]
    rfl
  have cp : W4.cell? ⟨w'.heap.size + 1, 0, none⟩ = some (.string pth) := by
    rw [← hW4]
    unfold World.cell?
    rw [show w'.heap.size + 1 = (w'.alloc (.cells #[.pointer (some ⟨bn, on, none⟩)] 47)).heap.size by simp, World.alloc_heap_new]
    rfl
  have zz : ∀ (j : Nat) (u : Value), (#[Value.slice none 0 0, Value.bool false, Value.string { data := #[] }, Value.string { data := #[] }] : Array Value)[j]? = some u →
      W4.cell? ⟨w.heap.size, j, none⟩ = some u ∧ W4.cell? ⟨w.heap.size + 1, j, none⟩ = some u ∧ W4.frozen? ⟨w.heap.size, j, none⟩ = false ∧ W4.frozen? ⟨w.heap.size + 1, j, none⟩ = false := by
    intro j u hu
    rw [hT5.cell (p := ⟨w.heap.size, j, none⟩) (by simp; omega), hT5.cell (p := ⟨w.heap.size + 1, j, none⟩) (by simp; omega), hT5.frozen (p := ⟨w.heap.size, j, none⟩) (by simp; omega), hT5.frozen (p := ⟨w.heap.size + 1, j, none⟩) (by simp; omega)]
    exact z j u hu
  have hlt' : w.heap.size + 1 < w'.heap.size := by omega
  apply wpIn_rangeFunc_ownF rfl (by omega) (gf := 40) (lb := #[.pointer (some ⟨w'.heap.size + 1, 0, none⟩)]) rfl trivial (enters_of Try.func40 (by kernel_rfl) rfl)
    (SmtW.way_stops (3 - 1) (w'.heap.size + 1) W4.heap.size (by omega) pth hs _ (by omega) (by rw [hW4]; exact Nat.le_refl _) (by rw [hW4]; exact cp)) belowK_t (belowK_b (by rw [hW4]; exact Nat.le_refl _)) (Below.refl _ _) (fun _ => rfl)
    (fun pre W => (pre = [] ∧ W.cell? ⟨w'.heap.size, 0, none⟩ = some (.pointer (some ⟨bn, on, none⟩)) ∧ ∀ (j : Nat) (u : Value), (#[Value.slice none 0 0, Value.bool false, Value.string { data := #[] }, Value.string { data := #[] }] : Array Value)[j]? = some u →
      W.cell? ⟨w.heap.size, j, none⟩ = some u ∧ W.cell? ⟨w.heap.size + 1, j, none⟩ = some u ∧ W.frozen? ⟨w.heap.size, j, none⟩ = false ∧ W.frozen? ⟨w.heap.size + 1, j, none⟩ = false) ∧ Below w.heap.size w W)
    (fun c _ W => (c = .exit 0 ∧ W.cell? ⟨w'.heap.size, 0, none⟩ = some (.pointer (some ⟨bn, on, none⟩)) ∧ ∀ (j : Nat) (u : Value), (#[Value.slice none 0 0, Value.bool false, Value.string { data := #[] }, Value.string { data := #[] }] : Array Value)[j]? = some u →
      W.cell? ⟨w.heap.size, j, none⟩ = some u ∧ W.cell? ⟨w.heap.size + 1, j, none⟩ = some u ∧ W.frozen? ⟨w.heap.size, j, none⟩ = false ∧ W.frozen? ⟨w.heap.size + 1, j, none⟩ = false) ∧ Below w.heap.size w W)
    (OwnFrom.and (Own.from (fun s A B row hs hg hr => ⟨hs.1, cell_kept hs.2.1 hg hr, fun j u hu => ⟨cell_kept (hs.2.2 j u hu).1 hg hr, cell_kept (hs.2.2 j u hu).2.1 hg hr, (frozen_kept (hs.2.2 j u hu).1 hg hr).trans (hs.2.2 j u hu).2.2.1, (frozen_kept (hs.2.2 j u hu).2.1 hg hr).trans (hs.2.2 j u hu).2.2.2⟩⟩) _) (ownFrom_below (Nat.le_refl _) (by simp; omega)))
    (fun c => OwnFrom.and (Own.from (fun s A B row hs hg hr => ⟨hs.1, cell_kept hs.2.1 hg hr, fun j u hu => ⟨cell_kept (hs.2.2 j u hu).1 hg hr, cell_kept (hs.2.2 j u hu).2.1 hg hr, (frozen_kept (hs.2.2 j u hu).1 hg hr).trans (hs.2.2 j u hu).2.2.1, (frozen_kept (hs.2.2 j u hu).2.1 hg hr).trans (hs.2.2 j u hu).2.2.2⟩⟩) _) (ownFrom_below (Nat.le_refl _) (by simp; omega)))
    ⟨by rw [hW4]; exact ⟨rfl, cn, zz⟩, by rw [hW4]; exact hT4⟩
  case hassign =>
    intro l x W K hK
    gi_wp2
    exact hK
  case hbody =>
    rintro l pre x W ⟨⟨rfl, cn, zz⟩, hT⟩ _
    have hn2 := (hT.cell (p := ⟨bn, on + 2, none⟩) ln).trans hn
    gi_wp2
    exact ⟨KeepsOthers.refl _, ⟨rfl, cn, zz⟩, hT⟩
  case hdone =>
    rintro D ys W hD rfl ⟨⟨h, _⟩, _⟩ _
    exact absurd (congrArg List.length h) (by simp [SmtW.upto])
  case hstop =>
    rintro D c pre W hD hpre ⟨⟨rfl, cn, zz⟩, hT⟩ hK
    have hD2 : w.heap.size ≤ D := by
      rw [hW4, hs4] at hD
      omega
    have hn2 := (hT.cell (p := ⟨bn, on + 2, none⟩) ln).trans hn
    have h12 := (hT.cell (p := ⟨bl, ol, none⟩) ll).trans h1
    have h22 := (hT.cell (p := ⟨bl, ol + 1, none⟩) ll).trans h2
    gi_wp2
    have z50 := (zz 0 _ rfl).2.1
    have z51 := (zz 1 _ rfl).2.1
    have z52 := (zz 2 _ rfl).2.1
    have z53 := (zz 3 _ rfl).2.1
    have f5 := (zz 1 _ rfl).2.2.2
    gi_region
    have z40 := (zz 0 _ rfl).1
    have z41 := (zz 1 _ rfl).1
    have z42 := (zz 2 _ rfl).1
    have z43 := (zz 3 _ rfl).1
    have f4 := (zz 0 _ rfl).2.2.1
    gi_wp2
    obtain ⟨W6, hW6⟩ : ∃ W6, (((((((W.setCell ⟨w.heap.size + 1, 1, none⟩ (.bool true)).setCell ⟨w.heap.size + 1, 2, none⟩ (.string p)).setCell ⟨w.heap.size + 1, 3, none⟩ (.string v)).setCell ⟨w.heap.size, 0, none⟩ (.slice none 0 0)).setCell ⟨w.heap.size, 1, none⟩ (.bool true)).setCell ⟨w.heap.size, 2, none⟩ (.string p)).setCell ⟨w.heap.size, 3, none⟩ (.string v)).drew = W6 := ⟨_, rfl⟩
    have kO : KeepsOthers W W6 := by
      rw [← hW6]
      exact (((((((KeepsOthers.setCell W _ _).trans (KeepsOthers.setCell _ _ _)).trans (KeepsOthers.setCell _ _ _)).trans (KeepsOthers.setCell _ _ _)).trans (KeepsOthers.setCell _ _ _)).trans (KeepsOthers.setCell _ _ _)).trans (KeepsOthers.setCell _ _ _)).trans (KeepsOthers.drew _)
    have hK6 := kO.same D _ hK rfl
    have hT6 : Below w.heap.size w W6 := by
      rw [← hW6]
      exact (((((((hT.setCell (p := ⟨w.heap.size + 1, 1, none⟩) (by simp) _).setCell (p := ⟨w.heap.size + 1, 2, none⟩) (by simp) _).setCell (p := ⟨w.heap.size + 1, 3, none⟩) (by simp) _).setCell (p := ⟨w.heap.size, 0, none⟩) (by simp) _).setCell (p := ⟨w.heap.size, 1, none⟩) (by simp) _).setCell (p := ⟨w.heap.size, 2, none⟩) (by simp) _).setCell (p := ⟨w.heap.size, 3, none⟩) (by simp) _).drew
    have o : ∀ {X : World} {a b : Addr} {u x : Value}, a ≠ b → X.cell? b = some x → (X.setCell a u).cell? b = some x := fun h hx => (World.cell?_setCell_other _ _ _ _ h).trans hx
    have sm : ∀ {X : World} {a : Addr} {u x : Value}, X.cell? a = some x → (X.setCell a u).cell? a = some u := fun hx => World.cell?_setCell_same _ _ _ hx
    have e0 : W6.cell? ⟨w.heap.size, 0, none⟩ = some (.slice none 0 0) := by
      rw [← hW6, World.cell?_drew]
      exact o (by simp) (o (by simp) (o (by simp) (sm (o (by simp) (o (by simp) (o (by simp) z40))))))
    have e1 : W6.cell? ⟨w.heap.size, 1, none⟩ = some (.bool true) := by
      rw [← hW6, World.cell?_drew]
      exact o (by simp) (o (by simp) (sm (o (by simp) (o (by simp) (o (by simp) (o (by simp) z41))))))
    have e2 : W6.cell? ⟨w.heap.size, 2, none⟩ = some (.string p) := by
      rw [← hW6, World.cell?_drew]
      exact o (by simp) (sm (o (by simp) (o (by simp) (o (by simp) (o (by simp) (o (by simp) z42))))))
    have e3 : W6.cell? ⟨w.heap.size, 3, none⟩ = some (.string v) := by
      rw [← hW6, World.cell?_drew]
      exact sm (o (by simp) (o (by simp) (o (by simp) (o (by simp) (o (by simp) (o (by simp) z43))))))
    rw [hW6]
    refine ⟨by simp, .inl ⟨_, _, rfl, run_takeDeferred hK6, ?_⟩⟩
    have kp : ∀ {a : Addr} {x : Value}, W6.cell? a = some x → (W6.putObj D (.deferred none)).cell? a = some x := fun h => cell_kept h (grownBy_putObj' _ D (.deferred none)) (fun r e => by cases e; exact ⟨_, hK6, rfl⟩)
    have g0 := kp e0
    have g1 := kp e1
    have g2 := kp e2
    have g3 := kp e3
    refine ⟨.agg #[.slice none 0 0, .bool true, .string p, .string v], ?_, rfl, hT6.trans (belowK_b (w := w) (Nat.le_refl _) _ D _ _ hD2 hK6 rfl rfl)⟩
    simp [results, Try.f19, go_sem, g0, g1, g2, g3]
#print axioms SmtW.prove_in
end Go.Proofs
