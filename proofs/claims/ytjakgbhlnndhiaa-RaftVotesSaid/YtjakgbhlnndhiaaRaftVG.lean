/- (seval) Raft: a replica that is asked for its vote: what it keeps is told, in memory. -/
import Derived.Test.YtjakgbhlnndhiaaRaftVF
set_option linter.unusedSectionVars false
set_option linter.unusedSimpArgs false
set_option linter.unusedVariables false
set_option maxHeartbeats 4000000
set_option maxRecDepth 10000
namespace Go.Vm.Ytjakgbhlnndhiaa
open Go.Proofs
def Told (σ : Store) (base p g : Nat) (S : List Nat) (bl : List Int) (l : List Ent) (term vote since tmo : Int) : Prop :=
  ∃ rv wr rd kb kl is b lg, callV (tabW fns) σ base 23 [.ptr p g 0] = some ⟨rv, wr, rd⟩ ∧ rv = .agg [.int .i64 term, .int .i64 vote, .int .i64 0, .int .i64 0, .str [], b, lg] ∧ (∀ i ∈ wr.map (·.1), i = p ∨ i ∈ S) ∧ NodeIn (upds σ wr) p g S bl l term vote since tmo ∧ (∀ j, j ≠ p → j ∉ S → upds σ wr j = σ j) ∧
    (kb = .nil ∨ kb = .ro) ∧ (kb = .nil → bl = []) ∧ roV (upds σ wr) dep rv = some (.agg [.int .i64 term, .int .i64 vote, .int .i64 0, .int .i64 0, .str [], .sl kb bl.length (bl.map iV), .sl kl l.length (rows Ent.v l)], is) ∧ ∀ i ∈ is, i ∈ S
section
variable {σ : Store} {base p g : Nat} {S : List Nat} {bl : List Int} {l : List Ent} {term vote since tmo : Int}
theorem hard_call (h : NodeIn σ p g S bl l term vote since tmo) (ho : ∀ e ∈ l, e.ok) (hl : l.length ≤ 20) (hbl : bl.length ≤ 17592186044416) (hp : p ∉ S) (p0 : p ≠ base) (p1 : p ≠ base + 1) (p2 : p ≠ base + 2) (p3 : p ≠ base + 3) (s0 : base ∈ S) (s1 : base + 1 ∈ S) (s2 : base + 2 ∈ S) (s3 : base + 3 ∈ S) : Told σ base p g S bl l term vote since tmo := by
  have hrl := elen l
  have b0 : (p == base) = false := beq_no p0
  have b1 : (base == p) = false := beq_no p0.symm
  have b2 : (p == base + 1) = false := beq_no p1
  have b3 : (base + 1 == p) = false := beq_no p1.symm
  have b4 : (p == base + 2) = false := beq_no p2
  have b5 : (base + 2 == p) = false := beq_no p2.symm
  have b6 : (p == base + 3) = false := beq_no p3
  have b7 : (base + 3 == p) = false := beq_no p3.symm
  have b8 : (base == base + 1) = false := beq_no (by omega)
  have b9 : (base == base + 2) = false := beq_no (by omega)
  have b10 : (base == base + 3) = false := beq_no (by omega)
  have b11 : (base + 1 == base) = false := beq_no (by omega)
  have b12 : (base + 1 == base + 2) = false := beq_no (by omega)
  have b13 : (base + 1 == base + 3) = false := beq_no (by omega)
  have b14 : (base + 2 == base) = false := beq_no (by omega)
  have b15 : (base + 2 == base + 1) = false := beq_no (by omega)
  have b16 : (base + 2 == base + 3) = false := beq_no (by omega)
  have b17 : (base + 3 == base) = false := beq_no (by omega)
  have b18 : (base + 3 == base + 1) = false := beq_no (by omega)
  have b19 : (base + 3 == base + 2) = false := beq_no (by omega)
  rcases h with ⟨kb, kl, k1, k2, e⟩ | ⟨q, gq, kl, hq, e, e2⟩ | ⟨kb, q, gq, k1, k2, hq, e, e2⟩ | ⟨q, gq, r, gr, hq, hr, hqr, e, e2, e3⟩
  · rcases k1 with rfl | rfl
    · obtain rfl := k2 rfl
      by_cases h0 : l = []
      · subst h0
        have s := H_nil_val_eu (term := term) (vote := vote) (since := since) (tmo := tmo) (kl := kl)
        simp -implicitDefEqProofs (disch := omega) only [go_sem, seval, n2, List.map_nil, List.length_nil, rows_nil] at e s
        refine ⟨?rv1, ?wr1, ?rd1, .nil, .nil, ?iss1, ?b1, ?lg1, ?hc1, ?h11, ?h21, ?h31, ?h41, ?h51, ?h61, ?h71, ?h81⟩
        case hc1 =>
          simp -implicitDefEqProofs (disch := omega) only [go_sem, seval, callV_T at23, e, s, List.length_map, ite_self, b0, b1, b2, b3, b4, b5, b6, b7, b8, b9, b10, b11, b12, b13, b14, b15, b16, b17, b18, b19]
          rfl
        case h11 => rfl
        case h21 => simp [s0, s1, s2, s3]
        case h31 =>
          refine .inl ⟨.nil, kl, (.inl rfl), (fun _ => rfl), ?_⟩
          · simp -implicitDefEqProofs (disch := omega) only [go_sem, seval, n2, List.map_nil, List.length_nil, rows_nil, b0, b1, b2, b3, b4, b5, b6, b7, b8, b9, b10, b11, b12, b13, b14, b15, b16, b17, b18, b19]
        case h41 =>
          intro j h1 h2
          simp -implicitDefEqProofs (disch := omega) only [go_sem, seval, beq_no h1, beq_no (fun c : j = base => h2 (c ▸ s0)), beq_no (fun c : j = base + 1 => h2 (c ▸ s1)), beq_no (fun c : j = base + 2 => h2 (c ▸ s2)), beq_no (fun c : j = base + 3 => h2 (c ▸ s3))]
        case h51 => exact .inl rfl
        case h61 => exact fun _ => rfl
        case h71 =>
          simp -implicitDefEqProofs (disch := omega) only [go_sem, seval, List.length_map, List.map_nil, List.length_nil, rows_nil, b0, b1, b2, b3, b4, b5, b6, b7, b8, b9, b10, b11, b12, b13, b14, b15, b16, b17, b18, b19]
          rfl
        case h81 => simp [s0, s1, s2, s3]
      ·
        have s := H_nil_val_f (term := term) (vote := vote) (since := since) (tmo := tmo) (kl := kl) (ho := ho) (hl := hl) (h0 := h0)
        simp -implicitDefEqProofs (disch := omega) only [go_sem, seval, n2, List.map_nil, List.length_nil] at e s
        refine ⟨?rv2, ?wr2, ?rd2, .nil, .ro, ?iss2, ?b2, ?lg2, ?hc2, ?h12, ?h22, ?h32, ?h42, ?h52, ?h62, ?h72, ?h82⟩
        case hc2 =>
          simp -implicitDefEqProofs (disch := omega) only [go_sem, seval, callV_T at23, e, s, List.length_map, ite_self, b0, b1, b2, b3, b4, b5, b6, b7, b8, b9, b10, b11, b12, b13, b14, b15, b16, b17, b18, b19]
          rfl
        case h12 => rfl
        case h22 => simp [s0, s1, s2, s3]
        case h32 =>
          refine .inl ⟨.nil, kl, (.inl rfl), (fun _ => rfl), ?_⟩
          · simp -implicitDefEqProofs (disch := omega) only [go_sem, seval, n2, List.map_nil, List.length_nil, b0, b1, b2, b3, b4, b5, b6, b7, b8, b9, b10, b11, b12, b13, b14, b15, b16, b17, b18, b19]
        case h42 =>
          intro j h1 h2
          simp -implicitDefEqProofs (disch := omega) only [go_sem, seval, beq_no h1, beq_no (fun c : j = base => h2 (c ▸ s0)), beq_no (fun c : j = base + 1 => h2 (c ▸ s1)), beq_no (fun c : j = base + 2 => h2 (c ▸ s2)), beq_no (fun c : j = base + 3 => h2 (c ▸ s3))]
        case h52 => exact .inl rfl
        case h62 => exact fun _ => rfl
        case h72 =>
          simp -implicitDefEqProofs (disch := omega) only [go_sem, seval, List.length_map, List.map_nil, List.length_nil, b0, b1, b2, b3, b4, b5, b6, b7, b8, b9, b10, b11, b12, b13, b14, b15, b16, b17, b18, b19]
          rfl
        case h82 => simp [s0, s1, s2, s3]
    ·
      have r7 := iV_ro 6 bl
      have r6 := iV_ro 5 bl
      have r5 := iV_ro 4 bl
      by_cases h0 : l = []
      · subst h0
        have s := H_ro_val_eu (term := term) (vote := vote) (since := since) (tmo := tmo) (bl := bl) (hbl := hbl) (kl := kl)
        simp -implicitDefEqProofs (disch := omega) only [go_sem, seval, n2, List.map_nil, List.length_nil, rows_nil] at e s
        refine ⟨?rv3, ?wr3, ?rd3, .ro, .nil, ?iss3, ?b3, ?lg3, ?hc3, ?h13, ?h23, ?h33, ?h43, ?h53, ?h63, ?h73, ?h83⟩
        case hc3 =>
          simp -implicitDefEqProofs (disch := omega) only [go_sem, seval, callV_T at23, e, s, List.length_map, ite_self, r7, r6, r5, b0, b1, b2, b3, b4, b5, b6, b7, b8, b9, b10, b11, b12, b13, b14, b15, b16, b17, b18, b19]
          rfl
        case h13 => rfl
        case h23 => simp [s0, s1, s2, s3]
        case h33 =>
          refine .inl ⟨.ro, kl, (.inr rfl), (fun h => by cases h), ?_⟩
          · simp -implicitDefEqProofs (disch := omega) only [go_sem, seval, n2, List.map_nil, List.length_nil, rows_nil, b0, b1, b2, b3, b4, b5, b6, b7, b8, b9, b10, b11, b12, b13, b14, b15, b16, b17, b18, b19]
        case h43 =>
          intro j h1 h2
          simp -implicitDefEqProofs (disch := omega) only [go_sem, seval, beq_no h1, beq_no (fun c : j = base => h2 (c ▸ s0)), beq_no (fun c : j = base + 1 => h2 (c ▸ s1)), beq_no (fun c : j = base + 2 => h2 (c ▸ s2)), beq_no (fun c : j = base + 3 => h2 (c ▸ s3))]
        case h53 => exact .inr rfl
        case h63 => exact fun h => by cases h
        case h73 =>
          simp -implicitDefEqProofs (disch := omega) only [go_sem, seval, List.length_map, List.map_nil, List.length_nil, rows_nil, b0, b1, b2, b3, b4, b5, b6, b7, b8, b9, b10, b11, b12, b13, b14, b15, b16, b17, b18, b19]
          rfl
        case h83 => simp [s0, s1, s2, s3]
      ·
        have s := H_ro_val_f (term := term) (vote := vote) (since := since) (tmo := tmo) (bl := bl) (hbl := hbl) (kl := kl) (ho := ho) (hl := hl) (h0 := h0)
        simp -implicitDefEqProofs (disch := omega) only [go_sem, seval, n2] at e s
        refine ⟨?rv4, ?wr4, ?rd4, .ro, .ro, ?iss4, ?b4, ?lg4, ?hc4, ?h14, ?h24, ?h34, ?h44, ?h54, ?h64, ?h74, ?h84⟩
        case hc4 =>
          simp -implicitDefEqProofs (disch := omega) only [go_sem, seval, callV_T at23, e, s, List.length_map, ite_self, r7, r6, r5, b0, b1, b2, b3, b4, b5, b6, b7, b8, b9, b10, b11, b12, b13, b14, b15, b16, b17, b18, b19]
          rfl
        case h14 => rfl
        case h24 => simp [s0, s1, s2, s3]
        case h34 =>
          refine .inl ⟨.ro, kl, (.inr rfl), (fun h => by cases h), ?_⟩
          · simp -implicitDefEqProofs (disch := omega) only [go_sem, seval, n2, b0, b1, b2, b3, b4, b5, b6, b7, b8, b9, b10, b11, b12, b13, b14, b15, b16, b17, b18, b19]
        case h44 =>
          intro j h1 h2
          simp -implicitDefEqProofs (disch := omega) only [go_sem, seval, beq_no h1, beq_no (fun c : j = base => h2 (c ▸ s0)), beq_no (fun c : j = base + 1 => h2 (c ▸ s1)), beq_no (fun c : j = base + 2 => h2 (c ▸ s2)), beq_no (fun c : j = base + 3 => h2 (c ▸ s3))]
        case h54 => exact .inr rfl
        case h64 => exact fun h => by cases h
        case h74 =>
          simp -implicitDefEqProofs (disch := omega) only [go_sem, seval, List.length_map, b0, b1, b2, b3, b4, b5, b6, b7, b8, b9, b10, b11, b12, b13, b14, b15, b16, b17, b18, b19]
          rfl
        case h84 => simp [s0, s1, s2, s3]
  ·
    have r7 := iV_ro 6 bl
    have r6 := iV_ro 5 bl
    have r5 := iV_ro 4 bl
    have n1 : (q == p) = false := beq_no (fun c => hp (c ▸ hq))
    have n2' : (p == q) = false := beq_no (fun c => hp (c.symm ▸ hq))
    by_cases h0 : l = []
    · subst h0
      have s := H_own_val_eu (term := term) (vote := vote) (since := since) (tmo := tmo) (bl := bl) (hbl := hbl) (kl := kl)
      simp -implicitDefEqProofs (disch := omega) only [go_sem, seval, n2, List.map_nil, List.length_nil, rows_nil] at e s
      refine ⟨?rv5, ?wr5, ?rd5, .ro, .nil, ?iss5, ?b5, ?lg5, ?hc5, ?h15, ?h25, ?h35, ?h45, ?h55, ?h65, ?h75, ?h85⟩
      case hc5 =>
        simp -implicitDefEqProofs (disch := omega) only [go_sem, seval, callV_T at23, e, e2, s, List.length_map, ite_self, n1, n2', r7, r6, r5, b0, b1, b2, b3, b4, b5, b6, b7, b8, b9, b10, b11, b12, b13, b14, b15, b16, b17, b18, b19]
        rfl
      case h15 => rfl
      case h25 => simp [hq, s0, s1, s2, s3]
      case h35 =>
        refine .inr (.inl ⟨base + 1, (σ (base + 1)).gen + 1, kl, s1, ?_, ?_⟩)
        · simp -implicitDefEqProofs (disch := omega) only [go_sem, seval, n2, List.map_nil, List.length_nil, rows_nil, b0, b1, b2, b3, b4, b5, b6, b7, b8, b9, b10, b11, b12, b13, b14, b15, b16, b17, b18, b19]
        · simp -implicitDefEqProofs (disch := omega) only [go_sem, seval, n2, List.map_nil, List.length_nil, rows_nil, b0, b1, b2, b3, b4, b5, b6, b7, b8, b9, b10, b11, b12, b13, b14, b15, b16, b17, b18, b19]
      case h45 =>
        intro j h1 h2
        simp -implicitDefEqProofs (disch := omega) only [go_sem, seval, beq_no h1, beq_no (fun c : j = base => h2 (c ▸ s0)), beq_no (fun c : j = base + 1 => h2 (c ▸ s1)), beq_no (fun c : j = base + 2 => h2 (c ▸ s2)), beq_no (fun c : j = base + 3 => h2 (c ▸ s3)), beq_no (fun c : j = q => h2 (c ▸ hq))]
      case h55 => exact .inr rfl
      case h65 => exact fun h => by cases h
      case h75 =>
        simp -implicitDefEqProofs (disch := omega) only [go_sem, seval, List.length_map, List.map_nil, List.length_nil, rows_nil, b0, b1, b2, b3, b4, b5, b6, b7, b8, b9, b10, b11, b12, b13, b14, b15, b16, b17, b18, b19]
        rfl
      case h85 => simp [s0, s1, s2, s3]
    · cases hR : (rows Ent.v l).any (hasRo 6)
      ·
        have s := H_own_val_fu (term := term) (vote := vote) (since := since) (tmo := tmo) (bl := bl) (hbl := hbl) (kl := kl) (ho := ho) (hl := hl) (h0 := h0) (hR := hR)
        simp -implicitDefEqProofs (disch := omega) only [go_sem, seval, n2] at e s
        refine ⟨?rv6, ?wr6, ?rd6, .ro, .ro, ?iss6, ?b6, ?lg6, ?hc6, ?h16, ?h26, ?h36, ?h46, ?h56, ?h66, ?h76, ?h86⟩
        case hc6 =>
          simp -implicitDefEqProofs (disch := omega) only [go_sem, seval, callV_T at23, e, e2, s, List.length_map, ite_self, n1, n2', r7, r6, r5, hR, b0, b1, b2, b3, b4, b5, b6, b7, b8, b9, b10, b11, b12, b13, b14, b15, b16, b17, b18, b19]
          rfl
        case h16 => rfl
        case h26 => simp [hq, s0, s1, s2, s3]
        case h36 =>
          refine .inr (.inl ⟨base + 2, (σ (base + 2)).gen + 1, kl, s2, ?_, ?_⟩)
          · simp -implicitDefEqProofs (disch := omega) only [go_sem, seval, n2, b0, b1, b2, b3, b4, b5, b6, b7, b8, b9, b10, b11, b12, b13, b14, b15, b16, b17, b18, b19]
          · simp -implicitDefEqProofs (disch := omega) only [go_sem, seval, n2, b0, b1, b2, b3, b4, b5, b6, b7, b8, b9, b10, b11, b12, b13, b14, b15, b16, b17, b18, b19]
        case h46 =>
          intro j h1 h2
          simp -implicitDefEqProofs (disch := omega) only [go_sem, seval, beq_no h1, beq_no (fun c : j = base => h2 (c ▸ s0)), beq_no (fun c : j = base + 1 => h2 (c ▸ s1)), beq_no (fun c : j = base + 2 => h2 (c ▸ s2)), beq_no (fun c : j = base + 3 => h2 (c ▸ s3)), beq_no (fun c : j = q => h2 (c ▸ hq))]
        case h56 => exact .inr rfl
        case h66 => exact fun h => by cases h
        case h76 =>
          simp -implicitDefEqProofs (disch := omega) only [go_sem, seval, List.length_map, b0, b1, b2, b3, b4, b5, b6, b7, b8, b9, b10, b11, b12, b13, b14, b15, b16, b17, b18, b19]
          rfl
        case h86 => simp [s0, s1, s2, s3]
      ·
        have s := H_own_val_ft (term := term) (vote := vote) (since := since) (tmo := tmo) (bl := bl) (hbl := hbl) (kl := kl) (ho := ho) (hl := hl) (h0 := h0) (hR := hR)
        simp -implicitDefEqProofs (disch := omega) only [go_sem, seval, n2] at e s
        refine ⟨?rv7, ?wr7, ?rd7, .ro, .ro, ?iss7, ?b7, ?lg7, ?hc7, ?h17, ?h27, ?h37, ?h47, ?h57, ?h67, ?h77, ?h87⟩
        case hc7 =>
          simp -implicitDefEqProofs (disch := omega) only [go_sem, seval, callV_T at23, e, e2, s, List.length_map, ite_self, n1, n2', r7, r6, r5, hR, b0, b1, b2, b3, b4, b5, b6, b7, b8, b9, b10, b11, b12, b13, b14, b15, b16, b17, b18, b19]
          rfl
        case h17 => rfl
        case h27 => simp [hq, s0, s1, s2, s3]
        case h37 =>
          refine .inl ⟨.ro, kl, (.inr rfl), (fun h => by cases h), ?_⟩
          · simp -implicitDefEqProofs (disch := omega) only [go_sem, seval, n2, b0, b1, b2, b3, b4, b5, b6, b7, b8, b9, b10, b11, b12, b13, b14, b15, b16, b17, b18, b19]
        case h47 =>
          intro j h1 h2
          simp -implicitDefEqProofs (disch := omega) only [go_sem, seval, beq_no h1, beq_no (fun c : j = base => h2 (c ▸ s0)), beq_no (fun c : j = base + 1 => h2 (c ▸ s1)), beq_no (fun c : j = base + 2 => h2 (c ▸ s2)), beq_no (fun c : j = base + 3 => h2 (c ▸ s3)), beq_no (fun c : j = q => h2 (c ▸ hq))]
        case h57 => exact .inr rfl
        case h67 => exact fun h => by cases h
        case h77 =>
          simp -implicitDefEqProofs (disch := omega) only [go_sem, seval, List.length_map, b0, b1, b2, b3, b4, b5, b6, b7, b8, b9, b10, b11, b12, b13, b14, b15, b16, b17, b18, b19]
          rfl
        case h87 => simp [s0, s1, s2, s3]
  ·
    have n1 : (q == p) = false := beq_no (fun c => hp (c ▸ hq))
    have n2' : (p == q) = false := beq_no (fun c => hp (c.symm ▸ hq))
    rcases k1 with rfl | rfl
    · obtain rfl := k2 rfl
      by_cases h0 : l = []
      · subst h0
        have s := H_nil_own_eu (term := term) (vote := vote) (since := since) (tmo := tmo)
        simp -implicitDefEqProofs (disch := omega) only [go_sem, seval, n2, List.map_nil, List.length_nil, rows_nil] at e s
        simp -implicitDefEqProofs (disch := omega) only [go_sem, seval, rows_nil] at e2
        refine ⟨?rv8, ?wr8, ?rd8, .nil, .nil, ?iss8, ?b8, ?lg8, ?hc8, ?h18, ?h28, ?h38, ?h48, ?h58, ?h68, ?h78, ?h88⟩
        case hc8 =>
          simp -implicitDefEqProofs (disch := omega) only [go_sem, seval, callV_T at23, e, e2, s, List.length_map, ite_self, n1, n2', b0, b1, b2, b3, b4, b5, b6, b7, b8, b9, b10, b11, b12, b13, b14, b15, b16, b17, b18, b19]
          rfl
        case h18 => rfl
        case h28 => simp [hq, s0, s1, s2, s3]
        case h38 =>
          refine .inr (.inr (.inl ⟨.nil, base, (σ (base)).gen + 1, (.inl rfl), (fun _ => rfl), s0, ?_, ?_⟩))
          · simp -implicitDefEqProofs (disch := omega) only [go_sem, seval, n2, List.map_nil, List.length_nil, rows_nil, b0, b1, b2, b3, b4, b5, b6, b7, b8, b9, b10, b11, b12, b13, b14, b15, b16, b17, b18, b19]
          · simp -implicitDefEqProofs (disch := omega) only [go_sem, seval, n2, List.map_nil, List.length_nil, rows_nil, b0, b1, b2, b3, b4, b5, b6, b7, b8, b9, b10, b11, b12, b13, b14, b15, b16, b17, b18, b19]
        case h48 =>
          intro j h1 h2
          simp -implicitDefEqProofs (disch := omega) only [go_sem, seval, beq_no h1, beq_no (fun c : j = base => h2 (c ▸ s0)), beq_no (fun c : j = base + 1 => h2 (c ▸ s1)), beq_no (fun c : j = base + 2 => h2 (c ▸ s2)), beq_no (fun c : j = base + 3 => h2 (c ▸ s3)), beq_no (fun c : j = q => h2 (c ▸ hq))]
        case h58 => exact .inl rfl
        case h68 => exact fun _ => rfl
        case h78 =>
          simp -implicitDefEqProofs (disch := omega) only [go_sem, seval, List.length_map, List.map_nil, List.length_nil, rows_nil, b0, b1, b2, b3, b4, b5, b6, b7, b8, b9, b10, b11, b12, b13, b14, b15, b16, b17, b18, b19]
          rfl
        case h88 => simp [s0, s1, s2, s3]
      · cases hR : (rows Ent.v l).any (hasRo 6)
        ·
          have s := H_nil_own_fu (term := term) (vote := vote) (since := since) (tmo := tmo) (ho := ho) (hl := hl) (h0 := h0) (hR := hR)
          simp -implicitDefEqProofs (disch := omega) only [go_sem, seval, n2, List.map_nil, List.length_nil] at e s
          refine ⟨?rv9, ?wr9, ?rd9, .nil, .ro, ?iss9, ?b9, ?lg9, ?hc9, ?h19, ?h29, ?h39, ?h49, ?h59, ?h69, ?h79, ?h89⟩
          case hc9 =>
            simp -implicitDefEqProofs (disch := omega) only [go_sem, seval, callV_T at23, e, e2, s, List.length_map, ite_self, n1, n2', hR, b0, b1, b2, b3, b4, b5, b6, b7, b8, b9, b10, b11, b12, b13, b14, b15, b16, b17, b18, b19]
            rfl
          case h19 => rfl
          case h29 => simp [hq, s0, s1, s2, s3]
          case h39 =>
            refine .inr (.inr (.inl ⟨.nil, base + 1, (σ (base + 1)).gen + 1, (.inl rfl), (fun _ => rfl), s1, ?_, ?_⟩))
            · simp -implicitDefEqProofs (disch := omega) only [go_sem, seval, n2, List.map_nil, List.length_nil, b0, b1, b2, b3, b4, b5, b6, b7, b8, b9, b10, b11, b12, b13, b14, b15, b16, b17, b18, b19]
            · simp -implicitDefEqProofs (disch := omega) only [go_sem, seval, n2, List.map_nil, List.length_nil, b0, b1, b2, b3, b4, b5, b6, b7, b8, b9, b10, b11, b12, b13, b14, b15, b16, b17, b18, b19]
          case h49 =>
            intro j h1 h2
            simp -implicitDefEqProofs (disch := omega) only [go_sem, seval, beq_no h1, beq_no (fun c : j = base => h2 (c ▸ s0)), beq_no (fun c : j = base + 1 => h2 (c ▸ s1)), beq_no (fun c : j = base + 2 => h2 (c ▸ s2)), beq_no (fun c : j = base + 3 => h2 (c ▸ s3)), beq_no (fun c : j = q => h2 (c ▸ hq))]
          case h59 => exact .inl rfl
          case h69 => exact fun _ => rfl
          case h79 =>
            simp -implicitDefEqProofs (disch := omega) only [go_sem, seval, List.length_map, List.map_nil, List.length_nil, b0, b1, b2, b3, b4, b5, b6, b7, b8, b9, b10, b11, b12, b13, b14, b15, b16, b17, b18, b19]
            rfl
          case h89 => simp [s0, s1, s2, s3]
        ·
          have s := H_nil_own_ft (term := term) (vote := vote) (since := since) (tmo := tmo) (ho := ho) (hl := hl) (h0 := h0) (hR := hR)
          simp -implicitDefEqProofs (disch := omega) only [go_sem, seval, n2, List.map_nil, List.length_nil] at e s
          refine ⟨?rv10, ?wr10, ?rd10, .nil, .ro, ?iss10, ?b10, ?lg10, ?hc10, ?h110, ?h210, ?h310, ?h410, ?h510, ?h610, ?h710, ?h810⟩
          case hc10 =>
            simp -implicitDefEqProofs (disch := omega) only [go_sem, seval, callV_T at23, e, e2, s, List.length_map, ite_self, n1, n2', hR, b0, b1, b2, b3, b4, b5, b6, b7, b8, b9, b10, b11, b12, b13, b14, b15, b16, b17, b18, b19]
            rfl
          case h110 => rfl
          case h210 => simp [hq, s0, s1, s2, s3]
          case h310 =>
            refine .inl ⟨.nil, .ro, (.inl rfl), (fun _ => rfl), ?_⟩
            · simp -implicitDefEqProofs (disch := omega) only [go_sem, seval, n2, List.map_nil, List.length_nil, b0, b1, b2, b3, b4, b5, b6, b7, b8, b9, b10, b11, b12, b13, b14, b15, b16, b17, b18, b19]
          case h410 =>
            intro j h1 h2
            simp -implicitDefEqProofs (disch := omega) only [go_sem, seval, beq_no h1, beq_no (fun c : j = base => h2 (c ▸ s0)), beq_no (fun c : j = base + 1 => h2 (c ▸ s1)), beq_no (fun c : j = base + 2 => h2 (c ▸ s2)), beq_no (fun c : j = base + 3 => h2 (c ▸ s3)), beq_no (fun c : j = q => h2 (c ▸ hq))]
          case h510 => exact .inl rfl
          case h610 => exact fun _ => rfl
          case h710 =>
            simp -implicitDefEqProofs (disch := omega) only [go_sem, seval, List.length_map, List.map_nil, List.length_nil, b0, b1, b2, b3, b4, b5, b6, b7, b8, b9, b10, b11, b12, b13, b14, b15, b16, b17, b18, b19]
            rfl
          case h810 => simp [s0, s1, s2, s3]
    ·
      have r7 := iV_ro 6 bl
      have r6 := iV_ro 5 bl
      have r5 := iV_ro 4 bl
      by_cases h0 : l = []
      · subst h0
        have s := H_ro_own_eu (term := term) (vote := vote) (since := since) (tmo := tmo) (bl := bl) (hbl := hbl)
        simp -implicitDefEqProofs (disch := omega) only [go_sem, seval, n2, List.map_nil, List.length_nil, rows_nil] at e s
        simp -implicitDefEqProofs (disch := omega) only [go_sem, seval, rows_nil] at e2
        refine ⟨?rv11, ?wr11, ?rd11, .ro, .nil, ?iss11, ?b11, ?lg11, ?hc11, ?h111, ?h211, ?h311, ?h411, ?h511, ?h611, ?h711, ?h811⟩
        case hc11 =>
          simp -implicitDefEqProofs (disch := omega) only [go_sem, seval, callV_T at23, e, e2, s, List.length_map, ite_self, n1, n2', r7, r6, r5, b0, b1, b2, b3, b4, b5, b6, b7, b8, b9, b10, b11, b12, b13, b14, b15, b16, b17, b18, b19]
          rfl
        case h111 => rfl
        case h211 => simp [hq, s0, s1, s2, s3]
        case h311 =>
          refine .inr (.inr (.inl ⟨.ro, base + 1, (σ (base + 1)).gen + 1, (.inr rfl), (fun h => by cases h), s1, ?_, ?_⟩))
          · simp -implicitDefEqProofs (disch := omega) only [go_sem, seval, n2, List.map_nil, List.length_nil, rows_nil, b0, b1, b2, b3, b4, b5, b6, b7, b8, b9, b10, b11, b12, b13, b14, b15, b16, b17, b18, b19]
          · simp -implicitDefEqProofs (disch := omega) only [go_sem, seval, n2, List.map_nil, List.length_nil, rows_nil, b0, b1, b2, b3, b4, b5, b6, b7, b8, b9, b10, b11, b12, b13, b14, b15, b16, b17, b18, b19]
        case h411 =>
          intro j h1 h2
          simp -implicitDefEqProofs (disch := omega) only [go_sem, seval, beq_no h1, beq_no (fun c : j = base => h2 (c ▸ s0)), beq_no (fun c : j = base + 1 => h2 (c ▸ s1)), beq_no (fun c : j = base + 2 => h2 (c ▸ s2)), beq_no (fun c : j = base + 3 => h2 (c ▸ s3)), beq_no (fun c : j = q => h2 (c ▸ hq))]
        case h511 => exact .inr rfl
        case h611 => exact fun h => by cases h
        case h711 =>
          simp -implicitDefEqProofs (disch := omega) only [go_sem, seval, List.length_map, List.map_nil, List.length_nil, rows_nil, b0, b1, b2, b3, b4, b5, b6, b7, b8, b9, b10, b11, b12, b13, b14, b15, b16, b17, b18, b19]
          rfl
        case h811 => simp [s0, s1, s2, s3]
      · cases hR : (rows Ent.v l).any (hasRo 6)
        ·
          have s := H_ro_own_fu (term := term) (vote := vote) (since := since) (tmo := tmo) (bl := bl) (hbl := hbl) (ho := ho) (hl := hl) (h0 := h0) (hR := hR)
          simp -implicitDefEqProofs (disch := omega) only [go_sem, seval, n2] at e s
          refine ⟨?rv12, ?wr12, ?rd12, .ro, .ro, ?iss12, ?b12, ?lg12, ?hc12, ?h112, ?h212, ?h312, ?h412, ?h512, ?h612, ?h712, ?h812⟩
          case hc12 =>
            simp -implicitDefEqProofs (disch := omega) only [go_sem, seval, callV_T at23, e, e2, s, List.length_map, ite_self, n1, n2', r7, r6, r5, hR, b0, b1, b2, b3, b4, b5, b6, b7, b8, b9, b10, b11, b12, b13, b14, b15, b16, b17, b18, b19]
            rfl
          case h112 => rfl
          case h212 => simp [hq, s0, s1, s2, s3]
          case h312 =>
            refine .inr (.inr (.inl ⟨.ro, base + 2, (σ (base + 2)).gen + 1, (.inr rfl), (fun h => by cases h), s2, ?_, ?_⟩))
            · simp -implicitDefEqProofs (disch := omega) only [go_sem, seval, n2, b0, b1, b2, b3, b4, b5, b6, b7, b8, b9, b10, b11, b12, b13, b14, b15, b16, b17, b18, b19]
            · simp -implicitDefEqProofs (disch := omega) only [go_sem, seval, n2, b0, b1, b2, b3, b4, b5, b6, b7, b8, b9, b10, b11, b12, b13, b14, b15, b16, b17, b18, b19]
          case h412 =>
            intro j h1 h2
            simp -implicitDefEqProofs (disch := omega) only [go_sem, seval, beq_no h1, beq_no (fun c : j = base => h2 (c ▸ s0)), beq_no (fun c : j = base + 1 => h2 (c ▸ s1)), beq_no (fun c : j = base + 2 => h2 (c ▸ s2)), beq_no (fun c : j = base + 3 => h2 (c ▸ s3)), beq_no (fun c : j = q => h2 (c ▸ hq))]
          case h512 => exact .inr rfl
          case h612 => exact fun h => by cases h
          case h712 =>
            simp -implicitDefEqProofs (disch := omega) only [go_sem, seval, List.length_map, b0, b1, b2, b3, b4, b5, b6, b7, b8, b9, b10, b11, b12, b13, b14, b15, b16, b17, b18, b19]
            rfl
          case h812 => simp [s0, s1, s2, s3]
        ·
          have s := H_ro_own_ft (term := term) (vote := vote) (since := since) (tmo := tmo) (bl := bl) (hbl := hbl) (ho := ho) (hl := hl) (h0 := h0) (hR := hR)
          simp -implicitDefEqProofs (disch := omega) only [go_sem, seval, n2] at e s
          refine ⟨?rv13, ?wr13, ?rd13, .ro, .ro, ?iss13, ?b13, ?lg13, ?hc13, ?h113, ?h213, ?h313, ?h413, ?h513, ?h613, ?h713, ?h813⟩
          case hc13 =>
            simp -implicitDefEqProofs (disch := omega) only [go_sem, seval, callV_T at23, e, e2, s, List.length_map, ite_self, n1, n2', r7, r6, r5, hR, b0, b1, b2, b3, b4, b5, b6, b7, b8, b9, b10, b11, b12, b13, b14, b15, b16, b17, b18, b19]
            rfl
          case h113 => rfl
          case h213 => simp [hq, s0, s1, s2, s3]
          case h313 =>
            refine .inl ⟨.ro, .ro, (.inr rfl), (fun h => by cases h), ?_⟩
            · simp -implicitDefEqProofs (disch := omega) only [go_sem, seval, n2, b0, b1, b2, b3, b4, b5, b6, b7, b8, b9, b10, b11, b12, b13, b14, b15, b16, b17, b18, b19]
          case h413 =>
            intro j h1 h2
            simp -implicitDefEqProofs (disch := omega) only [go_sem, seval, beq_no h1, beq_no (fun c : j = base => h2 (c ▸ s0)), beq_no (fun c : j = base + 1 => h2 (c ▸ s1)), beq_no (fun c : j = base + 2 => h2 (c ▸ s2)), beq_no (fun c : j = base + 3 => h2 (c ▸ s3)), beq_no (fun c : j = q => h2 (c ▸ hq))]
          case h513 => exact .inr rfl
          case h613 => exact fun h => by cases h
          case h713 =>
            simp -implicitDefEqProofs (disch := omega) only [go_sem, seval, List.length_map, b0, b1, b2, b3, b4, b5, b6, b7, b8, b9, b10, b11, b12, b13, b14, b15, b16, b17, b18, b19]
            rfl
          case h813 => simp [s0, s1, s2, s3]
  ·
    have r7 := iV_ro 6 bl
    have r6 := iV_ro 5 bl
    have r5 := iV_ro 4 bl
    have n1 : (q == p) = false := beq_no (fun c => hp (c ▸ hq))
    have n2' : (p == q) = false := beq_no (fun c => hp (c.symm ▸ hq))
    have m1 : (r == p) = false := beq_no (fun c => hp (c ▸ hr))
    have m2 : (p == r) = false := beq_no (fun c => hp (c.symm ▸ hr))
    have m5 : (q == r) = false := beq_no hqr
    have m6 : (r == q) = false := beq_no hqr.symm
    by_cases h0 : l = []
    · subst h0
      have s := H_own_own_eu (term := term) (vote := vote) (since := since) (tmo := tmo) (bl := bl) (hbl := hbl)
      simp -implicitDefEqProofs (disch := omega) only [go_sem, seval, n2, List.map_nil, List.length_nil, rows_nil] at e s
      simp -implicitDefEqProofs (disch := omega) only [go_sem, seval, rows_nil] at e3
      refine ⟨?rv14, ?wr14, ?rd14, .ro, .nil, ?iss14, ?b14, ?lg14, ?hc14, ?h114, ?h214, ?h314, ?h414, ?h514, ?h614, ?h714, ?h814⟩
      case hc14 =>
        simp -implicitDefEqProofs (disch := omega) only [go_sem, seval, callV_T at23, e, e2, e3, s, List.length_map, ite_self, n1, n2', m1, m2, m5, m6, r7, r6, r5, b0, b1, b2, b3, b4, b5, b6, b7, b8, b9, b10, b11, b12, b13, b14, b15, b16, b17, b18, b19]
        rfl
      case h114 => rfl
      case h214 => simp [hq, hr, s0, s1, s2, s3]
      case h314 =>
        refine .inr (.inr (.inr ⟨base + 1, (σ (base + 1)).gen + 1, base + 2, (σ (base + 2)).gen + 1, s1, s2, by omega, ?_, ?_, ?_⟩))
        · simp -implicitDefEqProofs (disch := omega) only [go_sem, seval, n2, List.map_nil, List.length_nil, rows_nil, b0, b1, b2, b3, b4, b5, b6, b7, b8, b9, b10, b11, b12, b13, b14, b15, b16, b17, b18, b19]
        · simp -implicitDefEqProofs (disch := omega) only [go_sem, seval, n2, List.map_nil, List.length_nil, rows_nil, b0, b1, b2, b3, b4, b5, b6, b7, b8, b9, b10, b11, b12, b13, b14, b15, b16, b17, b18, b19]
        · simp -implicitDefEqProofs (disch := omega) only [go_sem, seval, n2, List.map_nil, List.length_nil, rows_nil, b0, b1, b2, b3, b4, b5, b6, b7, b8, b9, b10, b11, b12, b13, b14, b15, b16, b17, b18, b19]
      case h414 =>
        intro j h1 h2
        simp -implicitDefEqProofs (disch := omega) only [go_sem, seval, beq_no h1, beq_no (fun c : j = base => h2 (c ▸ s0)), beq_no (fun c : j = base + 1 => h2 (c ▸ s1)), beq_no (fun c : j = base + 2 => h2 (c ▸ s2)), beq_no (fun c : j = base + 3 => h2 (c ▸ s3)), beq_no (fun c : j = q => h2 (c ▸ hq)), beq_no (fun c : j = r => h2 (c ▸ hr))]
      case h514 => exact .inr rfl
      case h614 => exact fun h => by cases h
      case h714 =>
        simp -implicitDefEqProofs (disch := omega) only [go_sem, seval, List.length_map, List.map_nil, List.length_nil, rows_nil, b0, b1, b2, b3, b4, b5, b6, b7, b8, b9, b10, b11, b12, b13, b14, b15, b16, b17, b18, b19]
        rfl
      case h814 => simp [s0, s1, s2, s3]
    · cases hR : (rows Ent.v l).any (hasRo 6)
      ·
        have s := H_own_own_fu (term := term) (vote := vote) (since := since) (tmo := tmo) (bl := bl) (hbl := hbl) (ho := ho) (hl := hl) (h0 := h0) (hR := hR)
        simp -implicitDefEqProofs (disch := omega) only [go_sem, seval, n2] at e s
        refine ⟨?rv15, ?wr15, ?rd15, .ro, .ro, ?iss15, ?b15, ?lg15, ?hc15, ?h115, ?h215, ?h315, ?h415, ?h515, ?h615, ?h715, ?h815⟩
        case hc15 =>
          simp -implicitDefEqProofs (disch := omega) only [go_sem, seval, callV_T at23, e, e2, e3, s, List.length_map, ite_self, n1, n2', m1, m2, m5, m6, r7, r6, r5, hR, b0, b1, b2, b3, b4, b5, b6, b7, b8, b9, b10, b11, b12, b13, b14, b15, b16, b17, b18, b19]
          rfl
        case h115 => rfl
        case h215 => simp [hq, hr, s0, s1, s2, s3]
        case h315 =>
          refine .inr (.inr (.inr ⟨base + 2, (σ (base + 2)).gen + 1, base + 3, (σ (base + 3)).gen + 1, s2, s3, by omega, ?_, ?_, ?_⟩))
          · simp -implicitDefEqProofs (disch := omega) only [go_sem, seval, n2, b0, b1, b2, b3, b4, b5, b6, b7, b8, b9, b10, b11, b12, b13, b14, b15, b16, b17, b18, b19]
          · simp -implicitDefEqProofs (disch := omega) only [go_sem, seval, n2, b0, b1, b2, b3, b4, b5, b6, b7, b8, b9, b10, b11, b12, b13, b14, b15, b16, b17, b18, b19]
          · simp -implicitDefEqProofs (disch := omega) only [go_sem, seval, n2, b0, b1, b2, b3, b4, b5, b6, b7, b8, b9, b10, b11, b12, b13, b14, b15, b16, b17, b18, b19]
        case h415 =>
          intro j h1 h2
          simp -implicitDefEqProofs (disch := omega) only [go_sem, seval, beq_no h1, beq_no (fun c : j = base => h2 (c ▸ s0)), beq_no (fun c : j = base + 1 => h2 (c ▸ s1)), beq_no (fun c : j = base + 2 => h2 (c ▸ s2)), beq_no (fun c : j = base + 3 => h2 (c ▸ s3)), beq_no (fun c : j = q => h2 (c ▸ hq)), beq_no (fun c : j = r => h2 (c ▸ hr))]
        case h515 => exact .inr rfl
        case h615 => exact fun h => by cases h
        case h715 =>
          simp -implicitDefEqProofs (disch := omega) only [go_sem, seval, List.length_map, b0, b1, b2, b3, b4, b5, b6, b7, b8, b9, b10, b11, b12, b13, b14, b15, b16, b17, b18, b19]
          rfl
        case h815 => simp [s0, s1, s2, s3]
      ·
        have s := H_own_own_ft (term := term) (vote := vote) (since := since) (tmo := tmo) (bl := bl) (hbl := hbl) (ho := ho) (hl := hl) (h0 := h0) (hR := hR)
        simp -implicitDefEqProofs (disch := omega) only [go_sem, seval, n2] at e s
        refine ⟨?rv16, ?wr16, ?rd16, .ro, .ro, ?iss16, ?b16, ?lg16, ?hc16, ?h116, ?h216, ?h316, ?h416, ?h516, ?h616, ?h716, ?h816⟩
        case hc16 =>
          simp -implicitDefEqProofs (disch := omega) only [go_sem, seval, callV_T at23, e, e2, e3, s, List.length_map, ite_self, n1, n2', m1, m2, m5, m6, r7, r6, r5, hR, b0, b1, b2, b3, b4, b5, b6, b7, b8, b9, b10, b11, b12, b13, b14, b15, b16, b17, b18, b19]
          rfl
        case h116 => rfl
        case h216 => simp [hq, hr, s0, s1, s2, s3]
        case h316 =>
          refine .inl ⟨.ro, .ro, (.inr rfl), (fun h => by cases h), ?_⟩
          · simp -implicitDefEqProofs (disch := omega) only [go_sem, seval, n2, b0, b1, b2, b3, b4, b5, b6, b7, b8, b9, b10, b11, b12, b13, b14, b15, b16, b17, b18, b19]
        case h416 =>
          intro j h1 h2
          simp -implicitDefEqProofs (disch := omega) only [go_sem, seval, beq_no h1, beq_no (fun c : j = base => h2 (c ▸ s0)), beq_no (fun c : j = base + 1 => h2 (c ▸ s1)), beq_no (fun c : j = base + 2 => h2 (c ▸ s2)), beq_no (fun c : j = base + 3 => h2 (c ▸ s3)), beq_no (fun c : j = q => h2 (c ▸ hq)), beq_no (fun c : j = r => h2 (c ▸ hr))]
        case h516 => exact .inr rfl
        case h616 => exact fun h => by cases h
        case h716 =>
          simp -implicitDefEqProofs (disch := omega) only [go_sem, seval, List.length_map, b0, b1, b2, b3, b4, b5, b6, b7, b8, b9, b10, b11, b12, b13, b14, b15, b16, b17, b18, b19]
          rfl
        case h816 => simp [s0, s1, s2, s3]
end
end Go.Vm.Ytjakgbhlnndhiaa
