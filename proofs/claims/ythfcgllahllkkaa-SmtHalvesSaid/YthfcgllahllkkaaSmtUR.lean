import Derived.RangeFuncNested
import Derived.RangeFuncBound
import Derived.RangeFuncCalls
import Derived.RangeFuncLeaves
import Derived.RangeFuncFrom
import Derived.Shelf.Abstract
import Derived.Shelf.RegionOpen
import Derived.WalkKit
import Derived.OwnWalkIn
import Derived.TacticsInMore
import Derived.LoopNIn
import Derived.LoopIn
import Derived.RangeFuncBox
import Derived.Test.YthfcgllahllkkaaSmtW
set_option linter.unusedSectionVars false
set_option linter.unusedSimpArgs false
set_option linter.unusedVariables false
set_option maxRecDepth 100000
set_option maxHeartbeats 2000000
namespace Go.Proofs
open Go.RowKit Go.Shelf
attribute [local go_sem] Oper.semAt_some
/-- The iterator's own cell is kept. -/
def SmtU.KC (B : Nat) (W W' : World) : Prop := W'.cell? ⟨B, 0, none⟩ = W.cell? ⟨B, 0, none⟩
theorem SmtU.KC.tr {B : Nat} {X Y Z : World} (h : SmtU.KC B X Y) (k : SmtU.KC B Y Z) : SmtU.KC B X Z := k.trans h
theorem SmtU.KC.put {B n : Nat} (hB : B < n) (W : World) (l : Nat) (o o' : Obj) (hl : n ≤ l) : SmtU.KC B W (W.putObj l o') := by
  unfold SmtU.KC World.cell?
  rw [World.putObj_heap_other (by intro e; simp at e; omega)]
theorem SmtU.way1_in (n l Bs : Nat) (hn : 1 ≤ n) (s : ByteArray) (hs : s.size = 32) (J Jx : List Nat → World → Prop)
    (hY : ∀ (pre : List Nat) (x : Nat) (W : World), J pre W → pre.length < 256 → YieldAt Fence.wide (n - 1) Try.prog l #[.int .i64 (x : Int), .int .i64 (SmtW.bitV s x)] W fun e W' =>
      (e = .returned (.bool true) ∧ J (pre ++ [x]) W' ∧ SmtU.KC Bs W W') ∨ (e = .returned (.bool false) ∧ Jx (pre ++ [x]) W'))
    (W : World) (hBs : W.cell? ⟨Bs, 0, none⟩ = some (.string s)) (h0 : J [] W) :
    CallsIn Fence.wide n Try.prog 40 #[.func (.yield l) #[] #[], .pointer (some ⟨Bs, 0, none⟩)] W fun e W' => (∃ v, e = .returned v) ∧
      ((∃ ys, ys = List.range 256 ∧ J ys W') ∨ (∃ pre, (∃ k, 1 ≤ k ∧ pre = List.range k) ∧ Jx pre W')) := by
  refine callsIn_of_wp Try.func40 rfl trivial ?_ rfl
  simp only [Try.ntmps40, List.size_toArray, List.length_cons, List.length_nil, Nat.reduceAdd, Nat.reduceSub, Array.replicate_succ, Array.replicate_zero, List.push_toArray, List.append_toArray, List.nil_append, List.cons_append]
  gi_wp2
  gi_loopw [4] (fun i wr => ∃ k : Nat, k ≤ 256 ∧ i = .int .i64 k ∧ J (List.range k) wr ∧ wr.cell? ⟨Bs, 0, none⟩ = some (.string s))
    (fun i _ => 256 - (intOf i).toNat)
  case atStart => exact ⟨0, Nat.zero_le _, rfl, h0, hBs⟩
  case round =>
    obtain ⟨k, hk, rfl, hJs, hnx⟩ := hrel
    have hcx : wr.cell? ⟨Bs, 0, none⟩ = some (.string s) := hnx
    by_cases hlt : k < 256
    · obtain ⟨fn, tmps, assign, body, hy, hR⟩ := hY _ k wr hJs (by rw [List.length_range]; exact hlt)
      try dsimp only at hy
      gi_wp2_with (refine ⟨trivial, ?_⟩; gi_at_call 29; refine (callsIn_wide.2 (SmtW.bit_in s hs k hlt _)).mono ?_; rintro e w' ⟨rfl, rfl⟩)
      refine hR.mono ?_
      rintro e W3 (⟨rfl, hJ3, hk3⟩ | ⟨rfl, hJx3⟩)
      · gi_wp2
        go_roundw
        case rel => exact ⟨k + 1, by omega, by simp, by rw [List.range_succ]; exact hJ3, hk3.trans hnx⟩
        case measure => simp [intOf]; omega
      · gi_wp2
        refine bodyPost_ret (results_none rfl _ _ _) rfl ?_
        exact ⟨⟨_, rfl⟩, .inr ⟨_, ⟨k + 1, by omega, List.range_succ.symm⟩, hJx3⟩⟩
    · obtain rfl : k = 256 := by omega
      gi_wp2
      go_end0
      exact ⟨⟨_, rfl⟩, .inl ⟨_, rfl, hJs⟩⟩
theorem SmtU.cell_al {W : World} (o : Obj) {p : Addr} {v : Value} (h : W.cell? p = some v) (hlt : p.block < W.heap.size) : (W.alloc o).cell? p = some v :=
  ((((Below.refl _ W).alloc (Nat.le_refl _) o).cell (p := p) hlt)).trans h
theorem SmtU.way_stops (n Bs : Nat) (hn : 1 ≤ n) (s : ByteArray) (hs : s.size = 32) (w : World) (hb : Bs < w.heap.size) (hc : w.cell? ⟨Bs, 0, none⟩ = some (.string s)) :
    SeqStopsK Fence.wide n Try.prog 40 #[.pointer (some ⟨Bs, 0, none⟩)] (fun x : Nat => #[.int .i64 (x : Int), .int .i64 (SmtW.bitV s x)]) (SmtU.KC Bs) (fun ys => ys = List.range 256) (fun pre => ∃ k, 1 ≤ k ∧ pre = List.range k) 256 w := fun l J Jx W hW _ _ hY h0 =>
  SmtU.way1_in n l Bs hn s hs J Jx hY W ((hW.cell (p := ⟨Bs, 0, none⟩) hb).trans hc) h0
/-- Trees, as they lie in memory. -/
inductive SmtU.T
  | nil
  | leaf (p v h : ByteArray)
  | node (x y : SmtU.T) (h : ByteArray)
def SmtU.T.At (w : World) : SmtU.T → Value → Prop
  | .nil, c => c = .pointer none
  | .leaf p v h, c => ∃ b o bl ol, c = .pointer (some ⟨b, o, none⟩) ∧ b < w.heap.size ∧ bl < w.heap.size ∧ w.cell? ⟨b, o + 2, none⟩ = some (.pointer (some ⟨bl, ol, none⟩)) ∧ w.cell? ⟨bl, ol, none⟩ = some (.string p) ∧ w.cell? ⟨bl, ol + 1, none⟩ = some (.string v) ∧ w.cell? ⟨b, o + 3, none⟩ = some (.string h)
  | .node x y h, c => ∃ b o cx cy, c = .pointer (some ⟨b, o, none⟩) ∧ b < w.heap.size ∧ w.cell? ⟨b, o, none⟩ = some cx ∧ w.cell? ⟨b, o + 1, none⟩ = some cy ∧ w.cell? ⟨b, o + 2, none⟩ = some (.pointer none) ∧ w.cell? ⟨b, o + 3, none⟩ = some (.string h) ∧ SmtU.T.At w x cx ∧ SmtU.T.At w y cy
def SmtU.z32 : ByteArray := ⟨#[0, 0, 0, 0, 0, 0, 0, 0, 0, 0, 0, 0, 0, 0, 0, 0, 0, 0, 0, 0, 0, 0, 0, 0, 0, 0, 0, 0, 0, 0, 0, 0]⟩
def SmtU.T.hash : SmtU.T → ByteArray
  | .nil => SmtU.z32
  | .leaf _ _ h => h
  | .node _ _ h => h
def SmtU.step (b : Nat → Int) (q : SmtU.T × List ByteArray) (k : Nat) : SmtU.T × List ByteArray :=
  match q.1 with
  | .node x y _ => if b k = 0 then (x, q.2 ++ [y.hash]) else (y, q.2 ++ [x.hash])
  | _ => q
def SmtU.run (b : Nat → Int) (t : SmtU.T) (l : List Nat) : SmtU.T × List ByteArray := l.foldl (SmtU.step b) (t, [])
theorem SmtU.run_snoc (b : Nat → Int) (t : SmtU.T) (l : List Nat) (k : Nat) : SmtU.run b t (l ++ [k]) = SmtU.step b (SmtU.run b t l) k := by simp [SmtU.run]
theorem SmtU.bitV_cases (s : ByteArray) (k : Nat) : SmtW.bitV s k = 0 ∨ SmtW.bitV s k = 1 := by
  unfold SmtW.bitV
  split
  · rename_i h
    have : ∀ (x : Fin 256) (j : Fin 8), bits .and .i64 (wrap64 ((x.val : Int) / 2 ^ (7 - j.val))) 1 = 0 ∨ bits .and .i64 (wrap64 ((x.val : Int) / 2 ^ (7 - j.val))) 1 = 1 := by decide +kernel
    exact this ⟨(s[k / 8]'h).toNat, UInt8.toNat_lt _⟩ ⟨k % 8, by omega⟩
  · exact .inl rfl
/-- The proof's block: the digests beside, and nothing else yet. -/
def SmtU.PBox (W : World) (P : Nat) (v : Value) : Prop := W.heap[P]? = some (.cells #[v, .bool false, .string ⟨#[]⟩, .string ⟨#[]⟩] 41 (0, 0))
theorem SmtU.T.At.ptr {w : World} : ∀ {t : SmtU.T} {c : Value}, t.At w c → ∃ x, c = .pointer x
  | .nil, c, h => ⟨none, h⟩
  | .leaf _ _ _, c, ⟨b, o, bl, ol, h, _⟩ => ⟨_, h⟩
  | .node _ _ _, c, ⟨b, o, bl, ol, h, _⟩ => ⟨_, h⟩
theorem SmtU.T.At.below {w W : World} (hB : Below w.heap.size w W) : ∀ {t : SmtU.T} {c : Value}, t.At w c → t.At W c
  | .nil, c, h => h
  | .leaf _ _ _, c, ⟨b, o, bl, ol, h, l1, l2, c1, c2, c3, c4⟩ => ⟨b, o, bl, ol, h, Nat.lt_of_lt_of_le l1 hB.size, Nat.lt_of_lt_of_le l2 hB.size, (hB.cell (p := ⟨b, o + 2, none⟩) l1).trans c1, (hB.cell (p := ⟨bl, ol, none⟩) l2).trans c2, (hB.cell (p := ⟨bl, ol + 1, none⟩) l2).trans c3, (hB.cell (p := ⟨b, o + 3, none⟩) l1).trans c4⟩
  | .node x y _, c, ⟨b, o, cx, cy, h, l1, c1, c2, c3, c4, h1, h2⟩ => ⟨b, o, cx, cy, h, Nat.lt_of_lt_of_le l1 hB.size, (hB.cell (p := ⟨b, o, none⟩) l1).trans c1, (hB.cell (p := ⟨b, o + 1, none⟩) l1).trans c2, (hB.cell (p := ⟨b, o + 2, none⟩) l1).trans c3, (hB.cell (p := ⟨b, o + 3, none⟩) l1).trans c4, SmtU.T.At.below hB h1, SmtU.T.At.below hB h2⟩
theorem SmtU.PBox.lt {W : World} {P : Nat} {v : Value} (h : SmtU.PBox W P v) : P < W.heap.size := (Array.getElem?_eq_some_iff.1 h).1
theorem SmtU.PBox.cells {W : World} {P : Nat} {v : Value} (h : SmtU.PBox W P v) : W.cell? ⟨P, 0, none⟩ = some v ∧ W.cell? ⟨P, 1, none⟩ = some (.bool false) ∧ W.cell? ⟨P, 2, none⟩ = some (.string ⟨#[]⟩) ∧ W.cell? ⟨P, 3, none⟩ = some (.string ⟨#[]⟩) := by
  unfold World.cell?
  simp only [show W.heap[P]? = _ from h]
  exact ⟨rfl, rfl, rfl, rfl⟩
theorem SmtU.PBox.frozen {W : World} {P : Nat} {v : Value} (h : SmtU.PBox W P v) (j : Nat) : W.frozen? ⟨P, j, none⟩ = false := by
  simp [World.frozen?, show W.heap[P]? = _ from h]
theorem SmtU.PBox.kept {W W' : World} {row : Option Nat} {P : Nat} {v : Value} (h : SmtU.PBox W P v) (hg : W.grownBy W' row) (hne : some P ≠ row) : SmtU.PBox W' P v := (hg.block P h.lt hne).trans h
theorem SmtU.PBox.set {W : World} {P : Nat} {v : Value} (v' : Value) (h : SmtU.PBox W P v) : SmtU.PBox (W.setCell ⟨P, 0, none⟩ v') P v' := by
  obtain ⟨hlt, hk⟩ := Array.getElem?_eq_some_iff.1 h
  show (W.heap.modify P _)[P]? = _
  rw [Array.getElem?_eq_getElem (by rw [Array.size_modify]; exact hlt), Array.getElem_modify_self, hk]
  rfl
theorem SmtU.PBox.not_row {W : World} {P : Nat} {u : Value} (h : SmtU.PBox W P u) {base size k : Nat} {v : Value} {xs : List Value} (hr : W.ownsRow base 9 size v k xs) : some P ≠ v.ownBlock := by
  rcases hr.2 with ⟨rfl, _⟩ | ⟨g, cap, cur, rfl, _, hgb, _⟩
  · simp [Value.ownBlock]
  · intro e'
    obtain rfl : P = g := by simpa [Value.ownBlock] using e'
    have := (show W.heap[P]? = _ from h).symm.trans hgb
    simp at this
theorem SmtU.PBox.below {W W' : World} {P n : Nat} {v : Value} (h : SmtU.PBox W P v) (hB : Below n W W') (hn : P < n) : SmtU.PBox W' P v := (hB.block P hn).trans h
theorem SmtU.own_kept {W W' : World} {base size k : Nat} {v : Value} {xs : List Value} {n : Nat} (h : W.ownsRow base 9 size v k xs) (hB : Below W.heap.size W W') : W'.ownsRow base 9 size v k xs := by
  refine ⟨h.1, ?_⟩
  rcases h.2 with ⟨rfl, h0⟩ | ⟨g, cap, cur, rfl, hb, hgb, r⟩
  · exact .inl ⟨rfl, h0⟩
  · exact .inr ⟨g, cap, cur, rfl, hb, (hB.block g (Array.getElem?_eq_some_iff.1 hgb).1).trans hgb, r⟩
theorem SmtU.run_len (b : Nat → Int) (t : SmtU.T) : ∀ l : List Nat, (SmtU.run b t l).2.length ≤ l.length := by
  have h : ∀ (l : List Nat) (q : SmtU.T × List ByteArray), (l.foldl (SmtU.step b) q).2.length ≤ l.length + q.2.length := by
    intro l
    induction l with
    | nil => intro q; simp
    | cons k l ih =>
      intro q
      have h1 := ih (SmtU.step b q k)
      have h2 : (SmtU.step b q k).2.length ≤ 1 + q.2.length := by
        unfold SmtU.step
        split
        · split <;> simp <;> omega
        · omega
      simp only [List.foldl_cons, List.length_cons]
      omega
  intro l
  have := h l (t, [])
  simpa [SmtU.run] using this
theorem SmtU.set_other {W : World} {a b : Addr} {u : Value} (h : a.block ≠ b.block) : (W.setCell a u).cell? b = W.cell? b := World.cell?_setCell_other _ _ _ _ (fun e => h (by rw [e]))
theorem SmtU.app {W w9 w1 : World} {n4 k : Nat} {sv : Value} {xs : List Value} {tmp : Obj} (hb : n4 ≤ W.heap.size) (b2 : W.ownsRow n4 9 1 sv k xs) (hB9 : Below W.heap.size W.drew w9) (hgrow : (w9.alloc tmp).grownBy w1 sv.ownBlock) : Below n4 W w1 ∧ KeepsOthers W w1 := by
  have hs : W.heap.size ≤ w9.heap.size := hB9.size
  constructor
  · refine ((((Below.refl n4 W).drew).trans (hB9.mono hb)).alloc (by omega) tmp).grown hgrow (by simp; omega) fun j ej => ?_
    rcases b2.2 with ⟨rfl, _⟩ | ⟨g, cap, cur, rfl, hb, _, _⟩
    · simp [Value.ownBlock] at ej
    · obtain rfl : g = j := by simpa [Value.ownBlock] using ej
      exact hb
  · have lt : ∀ {X : World} {k : Nat} {o : Obj}, X.heap[k]? = some o → k < X.heap.size := fun h => (Array.getElem?_eq_some_iff.1 h).1
    have h9 : KeepsOthers W w9 := ⟨hs, fun k o h _ => (hB9.block k (lt h)).trans h⟩
    refine (h9.trans (KeepsOthers.alloc w9 tmp)).trans (KeepsOthers.of_grownBy hgrow fun j o ej hj => ?_)
    rcases b2.2 with ⟨rfl, _⟩ | ⟨g, cap, cur, rfl, _, hgb, _⟩
    · simp [Value.ownBlock] at ej
    · obtain rfl : g = j := by simpa [Value.ownBlock] using ej
      have h1 : (w9.alloc tmp).heap[g]? = some (.cells cur 9 (0, 0)) := ((((Below.refl _ w9).alloc (Nat.le_refl _) tmp).block g (Nat.lt_of_lt_of_le (lt hgb) hs)).trans (hB9.block g (lt hgb))).trans hgb
      rw [h1] at hj
      cases hj
      rfl
/-- What a round finds. -/
structure SmtU.St (w : World) (T0 : SmtU.T) (b : Nat → Int) (n4 : Nat) (pre : List Nat) (R P B : Nat) (W : World) : Prop where
  ex : ∃ c sv, SmtU.PBox W P sv ∧ W.ownsRow n4 9 1 sv (SmtU.run b T0 pre).2.length ((SmtU.run b T0 pre).2.map .string) ∧ Boxed W B 47 c ∧ (SmtU.run b T0 pre).1.At w c
  r : SmtU.PBox W R (.slice none 0 0)
  bel : Below w.heap.size w W
  sz : n4 ≤ W.heap.size
theorem SmtU.St.own {w : World} {T0 : SmtU.T} {b : Nat → Int} {R P B n4 : Nat} {pre : List Nat} {X Y : World} {row : Option Nat} (h : SmtU.St w T0 b n4 pre R P B X) (hg : X.grownBy Y row) (hrow : ∀ r, row = some r → ∃ o : Obj, X.heap[r]? = some o ∧ o.isCells = false) (hb : Below w.heap.size w Y) : SmtU.St w T0 b n4 pre R P B Y := by
  obtain ⟨⟨c, sv, h1, h2, h3, h4⟩, h5, h6, h7⟩ := h
  have no : ∀ {k : Nat} {a : Array Value} {e : TypeId} {f : Nat × Nat}, X.heap[k]? = some (.cells a e f) → some k ≠ row := fun hk e => by
    obtain ⟨o, ho, hc⟩ := hrow _ e.symm
    rw [hk] at ho
    cases ho
    cases hc
  refine ⟨⟨c, sv, h1.kept hg (no h1), h2.kept hg ?_, h3.kept hg (no h3), h4⟩, h5.kept hg (no h5), hb, Nat.le_trans h7 hg.size⟩
  rcases h2.2 with ⟨rfl, _⟩ | ⟨g, cap, cur, rfl, _, hgb, _⟩
  · exact .inl rfl
  · exact .inr (fun e => no hgb (by simpa [Value.ownBlock] using e))
/-- What a round that goes on leaves. -/
theorem SmtU.next {w W w9 w1 : World} {T0 : SmtU.T} {b : Nat → Int} {pre : List Nat} {R P B G n4 g cap : Nat} {c sv : Value} {tmp : Obj} {hs : ByteArray} {t2 : SmtU.T} {k : Nat} {xs : List Value} {l : List ByteArray} (hG : G < n4) (hR : R < n4) (hP : P < n4) (hB : B < n4) (hGP : P ≠ G) (hGB : B ≠ G) (hPR : P ≠ R) (hPB : P ≠ B) (hRB : R ≠ B)
    (hRn : w.heap.size ≤ R) (hPn : w.heap.size ≤ P) (hBn : w.heap.size ≤ B) (hb : n4 ≤ W.heap.size)
    (b1 : SmtU.PBox W P sv) (b2 : W.ownsRow n4 9 1 sv k xs) (b3 : Boxed W B 47 c) (bR : SmtU.PBox W R (.slice none 0 0)) (hT : Below w.heap.size w W)
    (hB9 : Below W.heap.size W.drew w9) (hown : w1.ownsRow n4 9 1 (.slice (some ⟨g, 0, none⟩) (k + 1) cap) (k + 1) (xs ++ [.string hs])) (hgrow : (w9.alloc tmp).grownBy w1 sv.ownBlock) :
    (w1.cell? ⟨P, 0, none⟩ = some sv ∧ w1.frozen? ⟨P, 0, none⟩ = false) ∧ Boxed (w1.setCell ⟨P, 0, none⟩ (.slice (some ⟨g, 0, none⟩) (k + 1) cap)) B 47 c ∧ (∀ a : Addr, a.block < w.heap.size → (w1.setCell ⟨P, 0, none⟩ (.slice (some ⟨g, 0, none⟩) (k + 1) cap)).cell? a = w.cell? a) ∧
    (∀ c', t2.At w c' → SmtU.run b T0 (pre) = (t2, l) → k + 1 = l.length → xs ++ [.string hs] = l.map .string →
      KeepsOthers W ((w1.setCell ⟨P, 0, none⟩ (.slice (some ⟨g, 0, none⟩) (k + 1) cap)).setCell ⟨B, 0, none⟩ c') ∧ SmtU.KC G W ((w1.setCell ⟨P, 0, none⟩ (.slice (some ⟨g, 0, none⟩) (k + 1) cap)).setCell ⟨B, 0, none⟩ c') ∧
      SmtU.St w T0 b n4 pre R P B ((w1.setCell ⟨P, 0, none⟩ (.slice (some ⟨g, 0, none⟩) (k + 1) cap)).setCell ⟨B, 0, none⟩ c')) := by
  obtain ⟨hL, hK⟩ := SmtU.app hb b2 hB9 hgrow
  have hg : n4 ≤ g := by
    rcases hown.2 with ⟨h, _⟩ | ⟨g', cap', cur, h, hb, _, _⟩
    · cases h
    · cases h
      exact hb
  have p1 : SmtU.PBox w1 P sv := b1.below hL hP
  have p2 : Boxed w1 B 47 c := (hL.block B hB).trans b3
  have p3 : SmtU.PBox w1 R (.slice none 0 0) := bR.below hL hR
  have q1 := p1.set (.slice (some ⟨g, 0, none⟩) (k + 1) cap)
  have gP := grownBy_setCell' w1 P (.slice (some ⟨g, 0, none⟩) (k + 1) cap)
  have q2 : Boxed (w1.setCell ⟨P, 0, none⟩ (.slice (some ⟨g, 0, none⟩) (k + 1) cap)) B 47 c := p2.kept gP (by intro e; cases e; exact hPB rfl)
  have q3 : SmtU.PBox (w1.setCell ⟨P, 0, none⟩ (.slice (some ⟨g, 0, none⟩) (k + 1) cap)) R (.slice none 0 0) := p3.kept gP (by intro e; cases e; exact hPR rfl)
  have q4 := hown.kept gP (.inr (by intro e; simp [Value.ownBlock] at e; omega))
  have hW1 : Below w.heap.size w w1 := hT.trans (hL.mono (by omega))
  have hW2 : Below w.heap.size w (w1.setCell ⟨P, 0, none⟩ (.slice (some ⟨g, 0, none⟩) (k + 1) cap)) := hW1.setCell (p := ⟨P, 0, none⟩) hPn _
  refine ⟨⟨p1.cells.1, p1.frozen 0⟩, q2, fun a ha => hW2.cell (p := a) ha, fun c' hA hrun hk hx => ⟨(hK.trans (KeepsOthers.setCell _ _ _)).trans (KeepsOthers.setCell _ _ _), ?_, ?_⟩⟩
  · unfold SmtU.KC
    rw [SmtU.set_other (by simpa using hGB), SmtU.set_other (by simpa using hGP)]
    exact hL.cell (p := ⟨G, 0, none⟩) hG
  · have gB := grownBy_setCell' (w1.setCell ⟨P, 0, none⟩ (.slice (some ⟨g, 0, none⟩) (k + 1) cap)) B c'
    refine ⟨⟨c', _, q1.kept gB (by intro e; cases e; exact hPB rfl), ?_, q2.set c', by rw [hrun]; exact hA⟩, q3.kept gB (by intro e; cases e; exact hRB rfl), hW2.setCell (p := ⟨B, 0, none⟩) hBn _, ?_⟩
    · rw [hrun]
      simp only
      rw [← hk, ← hx]
      exact q4.kept gB (.inr (by intro e; simp [Value.ownBlock] at e; omega))
    · exact Nat.le_trans hb (hK.trans ((KeepsOthers.setCell _ _ _).trans (KeepsOthers.setCell _ _ _))).1
end Go.Proofs
/- A region that draws its order, within a round of a range over a function. -/
namespace Go.Proofs
open Go.RowKit Go.Shelf
/-- Where nothing is deferred, a round's region is a region. -/
theorem SmtR.round_any {F : Fence} {n : Nat} {P : Program} {md : Region.Mode} {ops : Array Oper} {Q : Exit → Act → World → Prop} (l : Nat) (hro : F.round = none) (hd : ∀ (i : Nat) (o : Oper) (c : Call), ops[i]? = some o → o.op ≠ Op.defer c) :
    ∀ (fuel : Nat) (listed : Array Bool) (a : Act) (w : World), wpAnyIn F n P md ops Q fuel listed a w → wpAnyIn (F.inRound l) n P md ops Q fuel listed a w
  | 0, _, _, _, h => h
  | fuel + 1, listed, a, w, h => by
    refine ⟨h.1, fun i hi => ?_⟩
    have h2 := h.2 i hi
    unfold wpOpIn at h2 ⊢
    cases ho : ops[i]? with
    | none =>
      rw [ho] at h2
      exact SmtR.round_any l hro hd fuel _ _ _ h2
    | some o =>
      rw [ho] at h2
      simp only at h2 ⊢
      split
      · rename_i hw
        rw [if_pos hw] at h2
        have e : ∀ ρ, o.semAt (F.inRound l).round ρ = o.semAt F.round ρ := fun ρ => by rw [Oper.semAt_eq _ _ _ (fun c => hd i o c ho), Oper.semAt_eq _ _ _ (fun c => hd i o c ho)]
        have h3 : o.wpIn (F.inRound l) n P a w (wpAnyIn F n P md ops Q fuel (listed.setIfInBounds i true)) Q := by
          unfold Oper.wpIn at h2 ⊢
          rw [e]
          exact h2
        exact Oper.wpIn_mono (fun a w h => SmtR.round_any l hro hd fuel _ a w h) h3
      · rename_i hw
        rw [if_neg hw] at h2
        exact ⟨h2.1, SmtR.round_any l hro hd fuel _ _ _ h2.2⟩
theorem SmtR.region_round {F : Fence} {n : Nat} {P : Program} {ops : Array Oper} {Q : Exit → Act → World → Prop} {id : Nat} {a : Act} {w : World} (l : Nat) (hro : F.round = none) (hm : P.follows .mixedOrders = true) (hd : ops.all (fun o => match o.op with | .defer _ => false | _ => true) = true)
    (h : wpAnyIn F n P .any ops Q ops.size (Array.replicate ops.size false) a w.drew) : (Code.region id ops true).wpIn (F.inRound l) n P Q a w :=
  wpIn_region_any hm (SmtR.round_any l hro (fun i o c ho e => by
    have := Array.all_eq_true.1 hd i (Array.getElem?_eq_some_iff.1 ho).1
    rw [(Array.getElem?_eq_some_iff.1 ho).2, e] at this
    cases this) _ _ _ _ h)
theorem SmtR.new_cell (W : World) (v : Value) {t : TypeId} : (W.alloc (.cells #[v] t)).cell? ((⟨W.heap.size, 0, none⟩ : Addr).add 0) = some v := (Boxed.new W t v).cell
/-- An append to an own slice, as one step of a region. -/
theorem SmtR.step_append {F : Fence} {n : Nat} {P : Program} {ops : Array Oper} {o : Oper} {a : Act} {w : World} {K : Act → World → Prop} {Q : Exit → Act → World → Prop} {E : Prop}
    (hg : o.guard = none) (s x : Operand) (t : TypeId) (hop : o.op = Op.call { callee := Callee.builtin Builtin.append, args := #[s, x], argTypes := #[t, t] })
    (base : Nat) (e : TypeId) (i : TypeInfo) (z : Value) (size bytes : Nat) (h1 : P.underlying t = some (.slice e)) (h2 : P.info? e = some i) (h3 : i.zero = some z) (h4 : i.size = size) (h5 : i.bytes = bytes) (h6 : z.cells.size = size) (h7 : 0 < size)
    (v : Value) (k : Nat) (xs : List Value) (hs : a.eval s = v) (hown : w.ownsRow base e size v k xs) (ad : Addr) (m c : Nat) (news : List Value) (hx : a.eval x = .slice (some ad) m c) (hn : news.length = m * size)
    (hc : ∀ j u, news[j]? = some u → w.cell? (ad.add j) = some u) (h1c : ∀ u ∈ news, u.oneCell' = true) (b1 : k + m ≤ maxLen) (b2 : (k + m) * bytes ≤ 140737488355328) (b3 : base ≤ w.heap.size)
    (hK : ∀ v' w', w'.ownsRow base e size v' (k + m) (xs ++ news) → w.grownBy w' v.ownBlock → K (a.put o.dst v') w') :
    if Region.wanted o (yielded ops a.tmps) = true then Oper.wpIn F n P o a w K Q else E := by
  have hw : Region.wanted o (yielded ops a.tmps) = true := by simp [Region.wanted, hg]
  rw [if_pos hw]
  obtain ⟨v', w', hrun, r1, r2, r3⟩ := run_append_own (P := P) w base t o.type e i z size bytes h1 h2 h3 h4 h5 h6 h7 v k xs hown ad m c news hn hc h1c b1 b2 b3
  unfold Oper.wpIn
  refine ⟨?_, ?_⟩
  · simp [Oper.about, hop, resolve, Target.leads, Sem.run_pure]
  · rw [Oper.semAt_plain F _ _ (by rw [hop]; intro c hc'; cases hc')]
    simp [execOp, hop, resolve, invoke, builtin, hs, hx, hrun, Result.andThen]
    exact hK _ _ r1 r2
end Go.Proofs
