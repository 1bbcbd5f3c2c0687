/- (seval) Raft: a replica that gets whatever messages: entries are taken. -/
import Derived.Test.YtholgdogohmdbaaWdD
set_option linter.unusedSectionVars false
set_option linter.unusedSimpArgs false
set_option linter.unusedVariables false
set_option maxHeartbeats 4000000
set_option maxRecDepth 10000
namespace Go.Vm.YtholgdogohmdbaaW
open Go.Proofs
variable {σ : Store} {p g : Nat}
/-- A message. -/
structure WM where
  k : Int
  f : Int
  t : Int
  term : Int
  ix : Int
  lt : Int
  cm : Int
  y : Bool
  ek : SK
  es : List Ent
  off : Int
  pc : List UInt8
  d : Bool
  mk' : SK
  mem : List Int
def WM.m (x : WM) : Msg := ⟨x.k, x.f, x.t, x.term, x.ix, x.lt, x.cm, x.y, x.ek, x.es.length, rows Ent.v x.es, x.off, x.pc, x.d, x.mk', x.mem.length, x.mem.map iV⟩
def LOGS : List Nat := [4609, 4610, 47196288, 55576832]
def BCS : List Nat := [4609, 55578304]
/-- The log, as it lies. -/
def LogAt (σ : Store) (lv : V) (l : List Ent) : Prop :=
  (∃ k, (k = .nil ∨ k = .zero) ∧ lv = .sl k 0 [] ∧ l = []) ∨ ∃ q gq, q ∈ LOGS ∧ lv = .sli q gq 0 l.length 4 ∧ σ q = ⟨gq, .rw, true, rows Ent.v l⟩
/-- Who takes part, as it lies. -/
def BcAt (σ : Store) (bc : V) : Prop :=
  (∃ k, (k = .nil ∨ k = .zero) ∧ bc = .sl k 0 []) ∨ ∃ q gq, ∃ bl : List Int, q ∈ BCS ∧ bc = .sli q gq 0 bl.length 1 ∧ σ q = ⟨gq, .rw, true, bl.map iV⟩ ∧ bl.length ≤ 17592186044416
def idsOf : V → List Nat
  | .sli q _ _ _ _ => [q]
  | _ => []
/-- The node, as it lies. -/
structure NodeW (σ : Store) (g : Nat) (d : Nd) (bc lv : V) : Prop where
  at_ : σ 4608 = ⟨g, .rw, false, nw d bc lv⟩
  bcp : BcAt σ bc
  logp : LogAt σ lv d.l
  apart : ∀ i ∈ idsOf bc, i ∉ idsOf lv
theorem nlog {q k : Nat} (h : q ∈ LOGS) (hk : k ∉ LOGS) : (q == k) = false := beq_no fun e => hk (e ▸ h)
theorem nbc {q k : Nat} (h : q ∈ BCS) (hk : k ∉ BCS) : (q == k) = false := beq_no fun e => hk (e ▸ h)
theorem node_ro {d : Nd} {bc lv : V} (h : NodeW σ g d bc lv) : ∃ kb nb cb kl ids, roV σ 8 (.ptr 4608 g 0) = some (.pt (nw d (.sl kb nb cb) (.sl kl d.l.length (rows Ent.v d.l))) 0, ids) ∧ ∀ i ∈ ids, i ∈ 4608 :: (LOGS ++ BCS) := by
  obtain ⟨e, hb, hl, _⟩ := h
  have hn := elen d.l
  simp -implicitDefEqProofs (disch := omega) only [go_sem, seval, nw] at e
  rcases hb with ⟨kb, _, rfl⟩ | ⟨q, gq, bl, hq, rfl, eq, hbl⟩ <;> rcases hl with ⟨kl, _, rfl, h0⟩ | ⟨r, gr, hr, rfl, er⟩
  · refine ⟨kb, 0, [], kl, [4608], ?_, by simp⟩
    rw [h0] at *
    simp -implicitDefEqProofs (disch := omega) only [go_sem, seval, e, nw, List.length_nil, rows_nil]
  · refine ⟨kb, 0, [], .ro, [4608, r], ?_, by simp; exact .inr (.inl hr)⟩
    simp -implicitDefEqProofs (disch := omega) only [go_sem, seval, e, er, nw]
  · refine ⟨.ro, bl.length, bl.map iV, kl, [4608, q], ?_, by simp; exact .inr (.inr hq)⟩
    rw [h0] at *
    simp -implicitDefEqProofs (disch := omega) only [go_sem, seval, e, eq, nw, List.length_map, List.length_nil, rows_nil]
  · refine ⟨.ro, bl.length, bl.map iV, .ro, [4608, q, r], ?_, by simp; exact ⟨.inr (.inr hq), .inr (.inl hr)⟩⟩
    simp -implicitDefEqProofs (disch := omega) only [go_sem, seval, e, eq, er, nw, List.length_map]
theorem bor1 {G : List V → Option (V × List V)} {v x r : V} {ids : List Nat} {base : Nat} (h : roV σ 8 v = some (x, ids)) (hg : G [x] = some (r, [])) (hr : hasRo 8 r = false) (hm : matV σ 8 base r = some (r, [], base)) :
    callP σ base [.bor] [v] G (passV σ [.bor] [v]) = some ⟨r, [], ids⟩ := by
  have hp : passV σ [.bor] [v] = some ([x], [], ids) := by
    simp only [passV]
    rw [show dep = 8 from rfl, h]
    simp
  rw [hp]
  simp only [callP, List.nodup_nil, List.not_mem_nil, not_false_eq_true, implies_true, and_self, if_true, hg, Option.bind_some]
  rw [show dep = 8 from rfl, hm]
  simp [backV, hr]
theorem bor2 {G : List V → Option (V × List V)} {v x y z r : V} {ids : List Nat} {base : Nat} (h : roV σ 8 v = some (x, ids)) (h2 : roV σ 8 y = some (z, [])) (hg : G [x, z] = some (r, [])) (hr : hasRo 8 r = false) (hm : matV σ 8 base r = some (r, [], base)) :
    callP σ base [.bor, .bor] [v, y] G (passV σ [.bor, .bor] [v, y]) = some ⟨r, [], ids⟩ := by
  have hp : passV σ [.bor, .bor] [v, y] = some ([x, z], [], ids) := by
    simp only [passV]
    rw [show dep = 8 from rfl, h, h2]
    simp
  rw [hp]
  simp only [callP, List.nodup_nil, List.not_mem_nil, not_false_eq_true, implies_true, and_self, if_true, hg, Option.bind_some]
  rw [show dep = 8 from rfl, hm]
  simp [backV, hr]
theorem last_callV {d : Nd} {bc lv : V} (h : NodeW σ g d bc lv) (hb : 0 ≤ d.bi ∧ d.bi ≤ 4294967296) (hl : d.l.length ≤ 1000000) : ∃ ids, ∀ base, callV (tabW fns) σ base 36 [.ptr 4608 g 0] = some ⟨.int .i64 (lastW d), [], ids⟩ := by
  obtain ⟨kb, nb, cb, kl, ids, hro, _⟩ := node_ro h
  refine ⟨ids, fun base => ?_⟩
  rw [call36]
  exact bor1 hro (last_w d (.sl kb nb cb) kl hb hl) rfl rfl
theorem last_call {d : Nd} {bc lv : V} (h : NodeW σ g d bc lv) (hb : 0 ≤ d.bi ∧ d.bi ≤ 4294967296) (hl : d.l.length ≤ 1000000) (base : Nat) : callR (tabW fns) σ base 36 [.ptr 4608 g 0] = some (.int .i64 (lastW d), σ) := by
  obtain ⟨kb, nb, cb, kl, ids, hro, _⟩ := node_ro h
  rw [callr36, bor1 hro (last_w d (.sl kb nb cb) kl hb hl) rfl rfl]
  rfl
theorem term_call {d : Nd} {bc lv : V} (h : NodeW σ g d bc lv) (hb : 0 ≤ d.bi ∧ d.bi ≤ 4294967296) (hl : d.l.length ≤ 1000000) (i : Int) (hi : 0 ≤ i ∧ i ≤ 8589934592) (base : Nat) : callR (tabW fns) σ base 53 [.ptr 4608 g 0, .int .i64 i] = some (.tup [.int .i64 (termW d i).1, .bool (termW d i).2], σ) := by
  obtain ⟨kb, nb, cb, kl, ids, hro, _⟩ := node_ro h
  rw [callr53, bor2 hro rfl (term_w d (.sl kb nb cb) kl hb hl i hi) rfl rfl]
  rfl
end Go.Vm.YtholgdogohmdbaaW
