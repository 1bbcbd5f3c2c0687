/- (seval) Raft: a replica that is asked for its vote: it stands up again; who was voted for. -/
import Derived.Test.YtjakgbhlnndhiaaRaftVG
set_option linter.unusedSectionVars false
set_option linter.unusedSimpArgs false
set_option linter.unusedVariables false
set_option maxHeartbeats 4000000
set_option maxRecDepth 10000
namespace Go.Vm.Ytjakgbhlnndhiaa
open Go.Proofs
section
variable {σ : Store} {base p g : Nat} {S : List Nat} {bl : List Int} {l : List Ent} {term vote since tmo : Int}
theorem bad_call (h : NodeIn σ p g S bl l term vote since tmo) (hl : l.length ≤ 20) (hp : p ∉ S) (hb0 : p ≠ base) (hb1 : p ≠ base + 1) (hS0 : base ∈ S) (hS1 : base + 1 ∈ S) (m : Msg) (hm : mayM m = false) :
    ∃ σ', callR (tabW fns) σ base 18 [.ptr p g 0, .agg m.v] = some (.sl .nil 0 [], σ') ∧ (NodeIn σ' p g S bl l term vote since tmo ∧ ∀ j, j ≠ p → j ∉ S → σ' j = σ j) := by
  have hrl := elen l
  have s := fun bc log hb hg => StepBad term vote since tmo bl.length (bl.map iV) l hl bc log hb (by rw [List.length_map]) hg m hm
  have b1 : (p == base) = false := beq_no hb0
  have b2 : (base == p) = false := beq_no hb0.symm
  have b3 : (p == base + 1) = false := beq_no hb1
  have b4 : (base + 1 == p) = false := beq_no hb1.symm
  have b7 : (base == base + 1) = false := beq_no (by omega)
  have b8 : (base + 1 == base) = false := beq_no (by omega)
  rcases h with ⟨kb, kl, k1, k2, e⟩ | ⟨q, gq, kl, hq, e, e2⟩ | ⟨kb, q, gq, k1, k2, hq, e, e2⟩ | ⟨q, gq, r, gr, hq, hr, hqr, e, e2, e3⟩
  · have s := s (.sl kb bl.length (bl.map iV)) (.sl kl l.length (rows Ent.v l)) (.inl ⟨kb, rfl⟩) (.inl ⟨kl, rfl⟩)
    simp -implicitDefEqProofs (disch := omega) only [go_sem, seval, n2, Msg.v] at e s
    simp -implicitDefEqProofs (disch := omega) only [go_sem, seval, callr18, e, s, Msg.v, ite_self, b1, b2, b3, b4, b7, b8]
    refine ⟨_, rfl, .inl ⟨kb, kl, k1, k2, ?_⟩, fun j h1 h3 => ?_⟩
    · simp -implicitDefEqProofs (disch := omega) only [go_sem, seval, n2]
    · simp -implicitDefEqProofs (disch := omega) only [go_sem, seval, beq_no h1]
  · have n1 : (q == p) = false := beq_no (fun c => hp (c ▸ hq))
    have n2' : (p == q) = false := beq_no (fun c => hp (c.symm ▸ hq))
    have s := s (.osl 1 bl.length (bl.map iV)) (.sl kl l.length (rows Ent.v l)) (.inr rfl) (.inl ⟨kl, rfl⟩)
    simp -implicitDefEqProofs (disch := omega) only [go_sem, seval, n2, Msg.v] at e s
    simp -implicitDefEqProofs (disch := omega) only [go_sem, seval, callr18, e, e2, s, Msg.v, ite_self, List.length_map, n1, n2', b1, b2, b3, b4, b7, b8]
    refine ⟨_, rfl, .inr (.inl ⟨base, (σ base).gen + 1, kl, hS0, ?_, ?_⟩), fun j h1 h3 => ?_⟩
    · simp -implicitDefEqProofs (disch := omega) only [go_sem, seval, n2]
    · simp -implicitDefEqProofs (disch := omega) only [go_sem, seval, b2]
    · simp -implicitDefEqProofs (disch := omega) only [go_sem, seval, beq_no h1, beq_no (fun c : j = q => h3 (c ▸ hq)), beq_no (fun c : j = base => h3 (c ▸ hS0))]
  · have n1 : (q == p) = false := beq_no (fun c => hp (c ▸ hq))
    have n2' : (p == q) = false := beq_no (fun c => hp (c.symm ▸ hq))
    have s := s (.sl kb bl.length (bl.map iV)) (.osl 4 l.length (rows Ent.v l)) (.inl ⟨kb, rfl⟩) (.inr rfl)
    simp -implicitDefEqProofs (disch := omega) only [go_sem, seval, n2, Msg.v] at e s
    simp -implicitDefEqProofs (disch := omega) only [go_sem, seval, callr18, e, e2, s, Msg.v, ite_self, List.length_map, n1, n2', b1, b2, b3, b4, b7, b8]
    refine ⟨_, rfl, .inr (.inr (.inl ⟨kb, base, (σ base).gen + 1, k1, k2, hS0, ?_, ?_⟩)), fun j h1 h3 => ?_⟩
    · simp -implicitDefEqProofs (disch := omega) only [go_sem, seval, n2]
    · simp -implicitDefEqProofs (disch := omega) only [go_sem, seval, b2]
    · simp -implicitDefEqProofs (disch := omega) only [go_sem, seval, beq_no h1, beq_no (fun c : j = q => h3 (c ▸ hq)), beq_no (fun c : j = base => h3 (c ▸ hS0))]
  · have n1 : (q == p) = false := beq_no (fun c => hp (c ▸ hq))
    have n2' : (p == q) = false := beq_no (fun c => hp (c.symm ▸ hq))
    have m1 : (r == p) = false := beq_no (fun c => hp (c ▸ hr))
    have m2 : (p == r) = false := beq_no (fun c => hp (c.symm ▸ hr))
    have m5 : (q == r) = false := beq_no hqr
    have m6 : (r == q) = false := beq_no hqr.symm
    have s := s (.osl 1 bl.length (bl.map iV)) (.osl 4 l.length (rows Ent.v l)) (.inr rfl) (.inr rfl)
    simp -implicitDefEqProofs (disch := omega) only [go_sem, seval, n2, Msg.v] at e s
    simp -implicitDefEqProofs (disch := omega) only [go_sem, seval, callr18, e, e2, e3, s, Msg.v, ite_self, List.length_map, n1, n2', m1, m2, m5, m6, b1, b2, b3, b4, b7, b8]
    refine ⟨_, rfl, .inr (.inr (.inr ⟨base, (σ base).gen + 1, base + 1, (σ (base + 1)).gen + 1, hS0, hS1, by omega, ?_, ?_, ?_⟩)), fun j h1 h3 => ?_⟩
    · simp -implicitDefEqProofs (disch := omega) only [go_sem, seval, n2]
    · simp -implicitDefEqProofs (disch := omega) only [go_sem, seval, b2, b7]
    · simp -implicitDefEqProofs (disch := omega) only [go_sem, seval, b4]
    · simp -implicitDefEqProofs (disch := omega) only [go_sem, seval, beq_no h1, beq_no (fun c : j = q => h3 (c ▸ hq)), beq_no (fun c : j = r => h3 (c ▸ hr)), beq_no (fun c : j = base => h3 (c ▸ hS0)), beq_no (fun c : j = base + 1 => h3 (c ▸ hS1))]
theorem upds_fz (C : Prop) [Decidable C] (is : List Nat) (hS : ∀ i ∈ is, i ∈ S) (j : Nat) (hj : j ∉ S) : upds σ (if C then fzs σ is else []) j = σ j := by
  split
  · rw [upds_fzs, if_neg fun h => hj (hS j h)]
  · rfl
theorem new_call (T : Nat) (hT : T ≤ 2147483647) (hv : -1 ≤ vote ∧ vote < 16) {kb : SK} {kl : SK} (hk : kb = .nil ∨ kb = .ro) (hn : kb = .nil → bl = []) (hbl : bl.length ≤ 17592186044416) (ho : ∀ e ∈ l, e.ok) (hl : l.length ≤ 20) {rv : V} {is : List Nat}
    (hro : roV σ dep rv = some (.agg [.int .i64 (T : Int), .int .i64 vote, .int .i64 0, .int .i64 0, .str [], .sl kb bl.length (bl.map iV), .sl kl l.length (rows Ent.v l)], is)) (his : ∀ i ∈ is, i ∈ S) (hS1 : base + 1 ∈ S) (hS2 : base + 2 ∈ S) :
    ∃ σ', callR (tabW fns) σ base 21 [.int .i64 2, rv, .sl .nil 0 []] = some (.tup [.ptr base ((σ base).gen + 1) 0, .int .i64 0], σ') ∧ (NodeIn σ' base ((σ base).gen + 1) S bl l T vote 0 (tmoT T) ∧ ∀ j, j ≠ base → j ∉ S → σ' j = σ j) := by
  have hrl := elen l
  have s := New2 T hT vote hv kb bl kl l hk hn hbl ho hl
  have hp : passV σ [.bor, .bor, .bor] [.int .i64 2, rv, .sl .nil 0 []] = some ([.int .i64 2, .agg [.int .i64 (T : Int), .int .i64 vote, .int .i64 0, .int .i64 0, .str [], .sl kb bl.length (bl.map iV), .sl kl l.length (rows Ent.v l)], .sl .nil 0 []], [], is) := by
    simp only [passV, hro, show roV σ dep (.int .i64 2) = some (.int .i64 2, []) from rfl, show roV σ dep (.sl .nil 0 []) = some (.sl .nil 0 [], []) from rfl, Option.bind_some, List.append_nil, List.nil_append]
  rw [callR_T at21, hp, callP_some, if_pos ⟨List.nodup_nil, by simp⟩, s, callG_some]
  have e3 : ¬ SK.ro = SK.nil := by simp
  have b7 : ¬ base = base + 1 := by omega
  have b8 : ¬ base + 1 = base := by omega
  have b9 : ¬ base = base + 2 := by omega
  have b10 : ¬ base + 2 = base := by omega
  have b11 : ¬ base + 1 = base + 2 := by omega
  have b12 : ¬ base + 2 = base + 1 := by omega
  have c7 := beq_no b7
  have c8 := beq_no b8
  have c9 := beq_no b9
  have c10 := beq_no b10
  have c11 := beq_no b11
  have c12 := beq_no b12
  unfold intsC ownE
  have fin : ∀ (w1 : List (Nat × Blk)) (k1 : Nat) (B LG : V), matV σ dep base (.tup [.opt (n2 T vote B LG 0 (tmoT T)), .int .i64 0]) = some (.tup [.ptr base ((σ base).gen + 1) 0, .int .i64 0], w1, k1) → (w1.map (·.1)).Nodup → (∀ σ1 : Store, NodeIn (upds σ1 w1) base ((σ base).gen + 1) S bl l T vote 0 (tmoT T)) → (∀ j, j ≠ base → j ∉ S → ∀ σ1 : Store, upds σ1 w1 j = σ1 j) →
      ∃ σ', outS σ (callM σ [.bor, .bor, .bor] [.int .i64 2, rv, .sl .nil 0 []] [] is (.tup [.opt (n2 T vote B LG 0 (tmoT T)), .int .i64 0]) [] (matV σ dep base (.tup [.opt (n2 T vote B LG 0 (tmoT T)), .int .i64 0]))) = some (.tup [.ptr base ((σ base).gen + 1) 0, .int .i64 0], σ') ∧ (NodeIn σ' base ((σ base).gen + 1) S bl l T vote 0 (tmoT T) ∧ ∀ j, j ≠ base → j ∉ S → σ' j = σ j) := by
    intro w1 k1 B LG hm hd hN hF
    rw [hm, callM_some, show backV σ k1 [.bor, .bor, .bor] [.int .i64 2, rv, .sl .nil 0 []] [] = some [] from rfl, callB_some, if_pos (by rw [List.append_nil]; exact hd), outS_some]
    refine ⟨_, rfl, ?_⟩
    rw [List.map_nil, List.nil_append, List.append_nil, upds_append]
    exact ⟨hN _, fun j h1 h2 => (hF j h1 h2 _).trans (upds_fz _ is his j h2)⟩
  rcases hk with rfl | rfl
  · obtain rfl := hn rfl
    by_cases h0 : l = []
    · subst h0
      refine fin [(base, ⟨(σ base).gen + 1, .rw, false, n2 T vote (.sl .nil 0 []) (.sl .nil 0 []) 0 (tmoT T)⟩)] _ _ _ (by simp -implicitDefEqProofs (disch := omega) only [go_sem, seval, n2]; rfl) (by simp) (fun σ1 => .inl ⟨.nil, .nil, .inl rfl, fun _ => rfl, ?_⟩) (fun j h1 h2 σ1 => ?_)
      · simp -implicitDefEqProofs (disch := omega) only [go_sem, seval, n2, List.map_nil, List.length_nil, rows_nil]
      · simp -implicitDefEqProofs (disch := omega) only [go_sem, seval, beq_no h1]
    · rw [if_neg h0]
      refine fin [(base + 1, ⟨(σ (base + 1)).gen + 1, .rw, true, rows Ent.v l⟩), (base, ⟨(σ base).gen + 1, .rw, false, n2 T vote (.sl .nil 0 []) (.sli (base + 1) ((σ (base + 1)).gen + 1) 0 l.length 4) 0 (tmoT T)⟩)] _ _ _ (by simp -implicitDefEqProofs (disch := omega) only [go_sem, seval, n2]; rfl) (by simp) (fun σ1 => .inr (.inr (.inl ⟨.nil, base + 1, (σ (base + 1)).gen + 1, .inl rfl, fun _ => rfl, hS1, ?_, ?_⟩))) (fun j h1 h2 σ1 => ?_)
      · simp -implicitDefEqProofs (disch := omega) only [go_sem, seval, n2, List.map_nil, List.length_nil]
      · simp -implicitDefEqProofs (disch := omega) only [go_sem, seval, c8]
      · simp -implicitDefEqProofs (disch := omega) only [go_sem, seval, beq_no h1, beq_no (fun c : j = base + 1 => h2 (c ▸ hS1))]
  · rw [if_neg e3]
    by_cases h0 : l = []
    · subst h0
      refine fin [(base + 1, ⟨(σ (base + 1)).gen + 1, .rw, true, bl.map iV⟩), (base, ⟨(σ base).gen + 1, .rw, false, n2 T vote (.sli (base + 1) ((σ (base + 1)).gen + 1) 0 bl.length 1) (.sl .nil 0 []) 0 (tmoT T)⟩)] _ _ _ (by simp -implicitDefEqProofs (disch := omega) only [go_sem, seval, n2]; rfl) (by simp) (fun σ1 => .inr (.inl ⟨base + 1, (σ (base + 1)).gen + 1, .nil, hS1, ?_, ?_⟩)) (fun j h1 h2 σ1 => ?_)
      · simp -implicitDefEqProofs (disch := omega) only [go_sem, seval, n2, List.length_nil, rows_nil]
      · simp -implicitDefEqProofs (disch := omega) only [go_sem, seval, c8]
      · simp -implicitDefEqProofs (disch := omega) only [go_sem, seval, beq_no h1, beq_no (fun c : j = base + 1 => h2 (c ▸ hS1))]
    · rw [if_neg h0]
      refine fin [(base + 1, ⟨(σ (base + 1)).gen + 1, .rw, true, bl.map iV⟩), (base + 2, ⟨(σ (base + 2)).gen + 1, .rw, true, rows Ent.v l⟩), (base, ⟨(σ base).gen + 1, .rw, false, n2 T vote (.sli (base + 1) ((σ (base + 1)).gen + 1) 0 bl.length 1) (.sli (base + 2) ((σ (base + 2)).gen + 1) 0 l.length 4) 0 (tmoT T)⟩)] _ _ _ (by simp -implicitDefEqProofs (disch := omega) only [go_sem, seval, n2]; rfl) (by simp) (fun σ1 => .inr (.inr (.inr ⟨base + 1, (σ (base + 1)).gen + 1, base + 2, (σ (base + 2)).gen + 1, hS1, hS2, by omega, ?_, ?_, ?_⟩))) (fun j h1 h2 σ1 => ?_)
      · simp -implicitDefEqProofs (disch := omega) only [go_sem, seval, n2]
      · simp -implicitDefEqProofs (disch := omega) only [go_sem, seval, c8, c11]
      · simp -implicitDefEqProofs (disch := omega) only [go_sem, seval, c10]
      · simp -implicitDefEqProofs (disch := omega) only [go_sem, seval, beq_no h1, beq_no (fun c : j = base + 1 => h2 (c ▸ hS1)), beq_no (fun c : j = base + 2 => h2 (c ▸ hS2))]
end
/-! Who was voted for -/
def encM (vm : List (Int × Int)) : List (V × V) := vm.map fun p => (V.int .i64 p.1, V.int .i64 p.2)
def lk (k : Int) : List (Int × Int) → Option Int
  | [] => none
  | p :: r => if k = p.1 then some p.2 else lk k r
def ptM (k v : Int) : List (Int × Int) → List (Int × Int)
  | [] => [(k, v)]
  | p :: r => if k = p.1 then (k, v) :: r else p :: ptM k v r
theorem mfind_enc (k : Int) : ∀ vm : List (Int × Int), mfind (.one .i) (.int .i64 k) (encM vm) = some ((lk k vm).map (V.int .i64))
  | [] => rfl
  | p :: r => by
    have ih := mfind_enc k r
    simp only [encM, List.map_cons, mfind, eqKV, eqC, if_true, Option.bind_some, lk] at ih ⊢
    by_cases h : k = p.1
    · simp [h]
    · simp only [h, decide_false, Bool.false_eq_true, if_false]
      exact ih
theorem mput_enc (k v : Int) : ∀ vm : List (Int × Int), mput (.one .i) (.int .i64 k) (.int .i64 v) (encM vm) = some (encM (ptM k v vm))
  | [] => rfl
  | p :: r => by
    have ih := mput_enc k v r
    simp only [encM, List.map_cons, mput, eqKV, eqC, if_true, Option.bind_some, ptM] at ih ⊢
    by_cases h : k = p.1
    · simp [h]
    · simp only [h, decide_false, Bool.false_eq_true, if_false, ih, Option.map_some, List.map_cons]
theorem lk_pt (k v k' : Int) : ∀ vm : List (Int × Int), lk k' (ptM k v vm) = if k' = k then some v else lk k' vm
  | [] => by simp only [ptM, lk]
  | p :: r => by
    have ih := lk_pt k v k' r
    by_cases h : k = p.1
    · simp only [ptM, h, if_true, lk]
      by_cases h2 : k' = p.1
      · simp [h2]
      · simp [h2]
    · simp only [ptM, h, if_false, lk, ih]
      by_cases h2 : k' = p.1
      · have : ¬ k' = k := fun c => h (c ▸ h2)
        simp [h2, this, Ne.symm h]
      · simp [h2]
end Go.Vm.Ytjakgbhlnndhiaa
