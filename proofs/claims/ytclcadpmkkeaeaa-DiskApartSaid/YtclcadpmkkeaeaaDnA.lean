/- (seval) Behind a loss of power: what is torn; plain facts. -/
import Derived.Test.YtclcadpmkkeaeaaDmC
import Derived.Test.YtclcadpmkkeaeaaDmF
set_option linter.unusedSectionVars false
set_option linter.unusedSimpArgs false
set_option linter.unusedVariables false
set_option maxHeartbeats 40000000
set_option maxRecDepth 10000
namespace Go.Vm
theorem crA_all (kf : Nat → Bool) (torn : Int) {P : DE × DE → Prop} (h1 : ∀ e, looE e = false → P (e, e)) (h2 : ∀ e kp t, looE e = true → P (e, newF e (leftF e kp t))) : ∀ l : List DE, ∀ p ∈ (crA kf torn l).1, P p := by
  refine snoc_ind (by simp [crA]) fun l e ih => ?_
  rw [crA_snoc]
  unfold crS
  split
  · rename_i h
    intro p hp
    rcases List.mem_append.1 hp with hp | hp
    · exact ih p hp
    · rw [List.mem_singleton] at hp
      rw [hp]
      exact h2 e _ _ h
  · rename_i h
    intro p hp
    rcases List.mem_append.1 hp with hp | hp
    · exact ih p hp
    · rw [List.mem_singleton] at hp
      rw [hp]
      exact h1 e (by simpa using h)
theorem crA_mem (kf : Nat → Bool) (torn : Int) (l : List DE) : ∀ p ∈ (crA kf torn l).1, p.2.n = p.1.n ∧ (looE p.1 = false → p.2 = p.1) := by
  refine crA_all kf torn (fun e _ => ⟨rfl, fun _ => rfl⟩) (fun e kp t h => ⟨rfl, fun h2 => ?_⟩) l
  simp only at h2
  rw [h] at h2
  cases h2
theorem crA_in (kf : Nat → Bool) (torn : Int) {l : List DE} {e : DE} (h : e ∈ l) : ∃ e', (e, e') ∈ (crA kf torn l).1 := by
  have := crA_fst kf torn l
  rw [← this, List.mem_map] at h
  obtain ⟨⟨a, b⟩, h1, h2⟩ := h
  simp only at h2
  subst h2
  exact ⟨b, h1⟩
theorem crA_in1 (kf : Nat → Bool) (torn : Int) {l : List DE} {p : DE × DE} (h : p ∈ (crA kf torn l).1) : p.1 ∈ l := by
  rw [← crA_fst kf torn l]
  exact List.mem_map.2 ⟨p, h, rfl⟩
theorem crL_srt (kf : Nat → Bool) (torn : Int) {l : List DE} (h : Srt DE.n l) : Srt DE.n (crL kf torn l) := by
  have e : (crL kf torn l).map DE.n = l.map DE.n := by
    unfold crL
    conv => rhs; rw [← crA_fst kf torn l]
    rw [List.map_map, List.map_map]
    exact List.map_congr_left fun p hp => (crA_mem kf torn l p hp).1
  unfold Srt at h ⊢
  have h1 : (l.map DE.n).Pairwise (fun x y => tl x y = true) := by rw [List.pairwise_map]; exact h
  rw [← e, List.pairwise_map] at h1
  exact h1
theorem kept_face {F : List DE} (h : Srt DE.n F) {e : DE} (he : e ∈ F) : faceA (kept F) e.n = e.a ∧ (e.a = true → faceS (kept F) e.n = e.s) := by
  have hk : Srt DE.n (kept F) := h.filter _
  unfold faceA faceS
  by_cases hg : gone e = true
  · have hn : fnd DE.n (kept F) e.n = none := by
      rw [fnd_none]
      intro g hgk hgn
      obtain ⟨h1, h2⟩ := List.mem_filter.1 hgk
      rw [h.uniq h1 he hgn, hg] at h2
      cases h2
    rw [hn]
    have ha : e.a = false := by
      unfold gone at hg
      cases hx : e.a
      · rfl
      · rw [hx] at hg; cases hg
    rw [ha]
    exact ⟨rfl, fun c => by cases c⟩
  · have hs : fnd DE.n (kept F) e.n = some e := (fnd_some hk).2 ⟨List.mem_filter.2 ⟨he, by simpa using hg⟩, rfl⟩
    rw [hs]
    exact ⟨rfl, fun _ => rfl⟩
/-- Is a file behind the loss neither as it was, nor as it was sure to be? -/
def difE (e e' : DE) : Bool := (e'.a != e.a || (e'.a && !decide (e'.s = e.s))) && (e'.a != e.b || (e'.a && !decide (e'.s = e.s2)))
theorem dif_kept (e : DE) (kp : Bool) (t : Int) (h : kp = true) : difE e (newF e (leftF e kp t)) = false := by
  unfold leftF
  rw [if_pos h]
  simp [difE, newF]
theorem dif_sure (e : DE) (t : Int) (h : ¬ (0 < t)) : difE e (newF e (leftF e false t)) = false := by
  unfold leftF
  have : min (max t 0) (e.s.length : Int) = 0 := by omega
  simp [difE, newF, this]
theorem dif_same (e : DE) : difE e e = false := by simp [difE]
def one (t : Int) : Nat := if 0 < t then 1 else 0
theorem dif_count (kf : Nat → Bool) (torn : Int) : ∀ l : List DE, (crA kf torn l).1.countP (fun p => difE p.1 p.2) + one (crA kf torn l).2.2 ≤ one torn := by
  refine snoc_ind (by simp [crA]) fun l e ih => ?_
  rw [crA_snoc]
  generalize crA kf torn l = A at *
  obtain ⟨ps, bit, t⟩ := A
  unfold crS
  simp only at ih ⊢
  split
  · simp only [List.countP_append, List.countP_cons, List.countP_nil]
    cases hk : kf bit
    · have h0 : one (leftT false t) = 0 := by simp [leftT, one]
      rw [h0]
      by_cases ht : 0 < t
      · have : one t = 1 := by simp [one, ht]
        split <;> omega
      · rw [dif_sure e t ht]
        simp
        omega
    · have h0 : leftT true t = t := by simp [leftT]
      rw [h0, dif_kept e true t rfl]
      simpa using ih
  · simp only [List.countP_append, List.countP_cons, List.countP_nil, dif_same]
    simpa using ih
/-- The same, of a name. -/
def disN (K now sure : List DF) (x : Tx) : Bool := false
def difN (K : List DE) (now sure : List DF) (x : Tx) : Bool :=
  ((faceA K x != (fnd DF.n now x).isSome) || (faceA K x && !decide (faceS K x = fS (fnd DF.n now x)))) && ((faceA K x != (fnd DF.n sure x).isSome) || (faceA K x && !decide (faceS K x = fS (fnd DF.n sure x))))
theorem difN_eq (kf : Nat → Bool) (torn : Int) {l : List DE} (h : Srt DE.n l) (ho : OkE l) {p : DE × DE} (hp : p ∈ (crA kf torn l).1) : difN (kept (crL kf torn l)) (nowL l) (sureL l) p.1.n = difE p.1 p.2 := by
  obtain ⟨e, e'⟩ := p
  have he := crA_in1 kf torn hp
  have hm := crA_mem kf torn l _ hp
  simp only at he hm ⊢
  have hF : e' ∈ crL kf torn l := List.mem_map.2 ⟨(e, e'), hp, rfl⟩
  obtain ⟨k1, k2⟩ := kept_face (crL_srt kf torn h) hF
  rw [hm.1] at k1 k2
  have hf : fnd DE.n l e.n = some e := (fnd_some h).2 ⟨he, rfl⟩
  obtain ⟨o1, o2⟩ := ho e he
  unfold difN difE
  rw [k1, fnd_now h, fnd_sure h, hf]
  simp only [Option.bind_some]
  cases ha' : e'.a
  · rcases Bool.eq_false_or_eq_true e.a with ha | ha <;> rcases Bool.eq_false_or_eq_true e.b with hb | hb <;> simp [ha, hb]
  · rw [k2 ha']
    rcases Bool.eq_false_or_eq_true e.a with ha | ha <;> rcases Bool.eq_false_or_eq_true e.b with hb | hb <;> simp [ha, hb, fS, fileOf, sureOf, o1, o2]
theorem torn_le (kf : Nat → Bool) (torn : Int) {l : List DE} (h : Srt DE.n l) (ho : OkE l) : ((looN (nowL l) (sureL l)).countP (difN (kept (crL kf torn l)) (nowL l) (sureL l))) ≤ one torn := by
  rw [loo_eq h ho, List.countP_map]
  have h1 : (l.filter looE).countP ((difN (kept (crL kf torn l)) (nowL l) (sureL l)) ∘ DE.n) ≤ l.countP ((difN (kept (crL kf torn l)) (nowL l) (sureL l)) ∘ DE.n) := (List.filter_sublist).countP_le
  have h2 : l.countP ((difN (kept (crL kf torn l)) (nowL l) (sureL l)) ∘ DE.n) = (crA kf torn l).1.countP (fun p => difE p.1 p.2) := by
    conv => lhs; arg 2; rw [← crA_fst kf torn l]
    rw [List.countP_map]
    refine List.countP_congr fun p hp => ?_
    simp only [Function.comp]
    rw [difN_eq kf torn h ho hp]
  have h3 := dif_count kf torn l
  omega
/-- What was sure and as it is now, is so behind the loss. -/
theorem firm (kf : Nat → Bool) (torn : Int) {l : List DE} (h : Srt DE.n l) (ho : OkE l) {g : DF} (hg : g ∈ sureL l) (h1 : (fnd DF.n (nowL l) g.n).isSome = true) (h2 : fS (fnd DF.n (nowL l) g.n) = g.s) : faceA (kept (crL kf torn l)) g.n = true ∧ faceS (kept (crL kf torn l)) g.n = fS (fnd DF.n (nowL l) g.n) := by
  obtain ⟨e, he, hb, rfl⟩ := mem_sure.1 hg
  have hf : fnd DE.n l e.n = some e := (fnd_some h).2 ⟨he, rfl⟩
  have hn : (sureOf e).n = e.n := rfl
  have hs : (sureOf e).s = e.s2 := rfl
  rw [hn, fnd_now h, hf] at h1 h2
  rw [hn, fnd_now h, hf]
  rw [hs] at h2
  simp only [Option.bind_some] at h1 h2 ⊢
  have ha : e.a = true := by
    cases hx : e.a
    · rw [hx] at h1; cases h1
    · rfl
  rw [if_pos ha] at h2 ⊢
  have h2' : e.s = e.s2 := h2
  have hlo : looE e = false := by simp [looE, ha, hb, h2']
  obtain ⟨e', hp⟩ := crA_in kf torn he
  have hm := (crA_mem kf torn l _ hp).2 hlo
  simp only at hm
  subst hm
  have hF : e' ∈ crL kf torn l := List.mem_map.2 ⟨(e', e'), hp, rfl⟩
  obtain ⟨k1, k2⟩ := kept_face (crL_srt kf torn h) hF
  exact ⟨k1.trans ha, k2 ha⟩
end Go.Vm
/- (seval) Behind a loss of power: what is done ahead. -/
namespace Go.Vm
def nrm (M : St → Prop) : Ex → St → Prop := fun e s' => match e with | .normal => M s' | _ => False
theorem wp_cut {tbl : Tbl} {a b : IC} {Q : Ex → St → Prop} {s : St} (M : St → Prop) (h1 : wpA tbl a (nrm M) s) (h2 : ∀ s', M s' → wpA tbl b Q s') : wpA tbl (.seq a b) Q s := by
  refine wpA_mono (c := a) (fun e s' h => ?_) h1
  cases e with
  | normal => exact h2 s' h
  | exit i => exact h.elim
  | ret => exact h.elim
end Go.Vm
namespace Go.Vm.Ytclcadpmkkeaeaa
open Go.Proofs
theorem fit_le {l : List DE} {ch n m : Nat} (h : Fit l ch n) (hm : n ≤ m) : Fit l ch m := by
  obtain ⟨h1, h2, h3, h4, h5, h6⟩ := h
  exact ⟨h1, h2, h3, by omega, by omega, by omega⟩
theorem act_len (a : Act) : a.v.length = 8 := rfl
def okAct (a : Act) : Prop := a.n.length ≤ 140737488355328 ∧ a.t.length ≤ 140737488355328
/-- The two in memory. -/
def MemG (q ql qn : Nat) (l : List DE) (ch : Nat) (c0 c1 : V) (σ : Store) : Prop := ∃ g, c0 = .ptr q g 0 ∧
  ((∃ g1 g2, σ q = ⟨g, .rw, false, dkv (.sli ql g1 0 l.length 6) (-1) ch false⟩ ∧ σ ql = ⟨g1, .rw, true, rows DE.v l⟩ ∧ c1 = .sli qn g2 0 (nowL l).length 3 ∧ σ qn = ⟨g2, .rw, true, rows DF.v (nowL l)⟩) ∨
   (∃ g1 k, σ q = ⟨g, .rw, false, dkv (.sli ql g1 0 l.length 6) (-1) ch false⟩ ∧ σ ql = ⟨g1, .rw, true, rows DE.v l⟩ ∧ c1 = .sl k (nowL l).length (rows DF.v (nowL l))) ∨
   (∃ k, l = [] ∧ σ q = ⟨g, .rw, false, dkv (.sl .nil 0 []) (-1) ch false⟩ ∧ c1 = .sl k (nowL l).length (rows DF.v (nowL l))))
structure Par where
  k : SK
  k' : SK
  la : List Act
  lb : List Act
  f1 : Int
  f2 : Int
  f3 : Int
def Cst (p : Par) (s : St) : Prop := s.t 0 = .sl p.k p.la.length (rows Act.v p.la) ∧ s.t 1 = .sl p.k' p.lb.length (rows Act.v p.lb) ∧ s.t 5 = .ptr 384 1 0 ∧ s.σ 384 = ⟨1, .rw, false, [.int .i64 p.f1, .int .i64 p.f2, .int .i64 p.f3]⟩ ∧ s.t 7 = .ptr 512 1 0
def PairC (l : List DE) (ch : Nat) (k2 : SK) (c0 c1 : V) (σ : Store) : Prop := σ 512 = ⟨1, .rw, false, [c0, c1, .sl k2 (sureL l).length (rows DF.v (sureL l)), .int .i64 (-1), .sl .nil 0 [], .int .i64 (ch : Int), .bool false]⟩
/-- The state fits, also what is sure. -/
def Fit2 (l : List DE) (ch n : Nat) : Prop := Fit l ch n ∧ sizeF (sureL l) ≤ 50 * n
theorem fit2_le {l : List DE} {ch n m : Nat} (h : Fit2 l ch n) (hm : n ≤ m) : Fit2 l ch m := ⟨fit_le h.1 hm, by have := h.2; omega⟩
theorem do_ok3 {lv nv : V} {k2 : SK} {l : List DE} (h : Forms lv nv l) (ch n : Nat) (hf : Fit2 l ch n) (hn : n ≤ 100) (a : Act) (hk : 0 ≤ a.k ∧ a.k ≤ 5) (ho : okAct a) :
    ∃ lv' nv' k2' l' ch', Forms lv' nv' l' ∧ Fit2 l' ch' (n + 1) ∧ Gf fns 7 [Pv lv nv k2 l (-1) ch, .agg a.v] = some (.tup [Pv lv' nv' k2' l' (-1) ch', .bool true], []) := by
  obtain ⟨a1, a2, a3, a4, a5, h1, h2, _, h3, h4⟩ := do_ok2 h (-1) ch n hf.1 hn (by omega) a hk ho.1 ho.2 (k2 := k2)
  have h5 := hf.2
  have h6 := hf.1.used
  exact ⟨a1, a2, a3, a4, a5, h1, ⟨h2, by omega⟩, h4⟩
def m0S (p : Par) (s : St) : Prop := Cst p s ∧ PairC [] 0 .nil (.ptr 1792 1 0) (.sl .nil 0 []) s.σ ∧ s.σ 1792 = ⟨1, .rw, false, dkv (.sl .nil 0 []) (-1) 0 false⟩
def a0S (p : Par) (i : Nat) (s : St) : Prop := i ≤ p.la.length ∧ i ≤ 25 ∧ Cst p s ∧ s.t 8 = .int .i64 (i : Int) ∧ ∃ l ch k2 c0 c1 q, q ∈ [1792, 3776] ∧ Fit2 l ch i ∧ PairC l ch k2 c0 c1 s.σ ∧ MemG q (q + 1) (q + 2) l ch c0 c1 s.σ
def m1S (p : Par) (s : St) : Prop := Cst p s ∧ ∃ l ch k2 c0 c1 q, q ∈ [1792, 3776] ∧ Fit2 l ch 25 ∧ PairC l ch k2 c0 c1 s.σ ∧ MemG q (q + 1) (q + 2) l ch c0 c1 s.σ
def m2S (p : Par) (s : St) : Prop := Cst p s ∧ ∃ l ch k2 c0 c1 q, q ∈ [1792, 3776] ∧ Fit2 l ch 25 ∧ PairC l ch k2 c0 c1 s.σ ∧ ∃ g, c0 = .ptr q g 0 ∧
  ((∃ g1, s.σ q = ⟨g, .rw, false, dkv (.sli 4096 g1 0 (syncL l).length 6) (-1) ch false⟩ ∧ s.σ 4096 = ⟨g1, .rw, true, rows DE.v (syncL l)⟩) ∨ (syncL l = [] ∧ s.σ q = ⟨g, .rw, false, dkv (.sl .nil 0 []) (-1) ch false⟩)) ∧
  ((∃ g2, c1 = .sli (q + 2) g2 0 (nowL l).length 3 ∧ s.σ (q + 2) = ⟨g2, .rw, true, rows DF.v (nowL l)⟩) ∨ ∃ k, c1 = .sl k (nowL l).length (rows DF.v (nowL l)))
def trips : List (Nat × Nat) := [(1792, 4096), (3776, 4096), (6592, 6592 + 1)]
def m3S (p : Par) (s : St) : Prop := Cst p s ∧ ∃ l ch k2 c0 c1 q ql, (q, ql) ∈ trips ∧ Fit2 l ch 26 ∧ PairC l ch k2 c0 c1 s.σ ∧ MemG q ql (6592 + 2) l ch c0 c1 s.σ
def a1S (p : Par) (i : Nat) (s : St) : Prop := i ≤ p.lb.length ∧ i ≤ 25 ∧ Cst p s ∧ s.t 9 = .int .i64 (i : Int) ∧ ∃ l ch k2 c0 c1 q ql, (q, ql) ∈ trips ∧ Fit2 l ch (26 + i) ∧ PairC l ch k2 c0 c1 s.σ ∧ MemG q ql (6592 + 2) l ch c0 c1 s.σ
def m4S (p : Par) (s : St) : Prop := Cst p s ∧ ∃ l ch k2 c0 c1 q ql, (q, ql) ∈ trips ∧ Fit2 l ch 51 ∧ PairC l ch k2 c0 c1 s.σ ∧ MemG q ql (6592 + 2) l ch c0 c1 s.σ
def L0 : IC := match ir3.body with | .seq _ (.seq _ (.seq a _)) => a | _ => .skip
def L1 : IC := match ir3.body with | .seq _ (.seq _ (.seq _ (.seq a _))) => a | _ => .skip
def L2 : IC := match ir3.body with | .seq _ (.seq _ (.seq _ (.seq _ (.seq a _)))) => a | _ => .skip
def L3 : IC := match ir3.body with | .seq _ (.seq _ (.seq _ (.seq _ (.seq _ (.seq a _))))) => a | _ => .skip
theorem nowZ : (nowL []).length = 0 := rfl
theorem nowR : rows DF.v (nowL []) = [] := rfl
theorem sureZ : (sureL []).length = 0 := rfl
theorem sureR : rows DF.v (sureL []) = [] := rfl
theorem loop0_ok (p : Par) (hok : ∀ a ∈ p.la, okAct a) (hal : p.la.length ≤ 140737488355328) (s : St) (h : m0S p s) : wpA (tabW fns) L0 (nrm (m1S p)) s := by
  obtain ⟨t, σ⟩ := s
  obtain ⟨⟨c0, c1, c5, d5, c7⟩, hP, hd⟩ := h
  simp only at c0 c1 c5 d5 c7 hd
  unfold PairC at hP
  dsimp only at hP
  show wpA (tabW fns) (.seq _ (.block 0 (.loop lp3_0))) _ _
  unfold nrm
  simp -implicitDefEqProofs (disch := omega) only [go_sem, seval, go_sem]
  refine wp_loopS (a0S p) (fun i => p.la.length - i) 0 ⟨by omega, by omega, ⟨by simp -implicitDefEqProofs (disch := omega) only [go_sem, seval, c0], by simp -implicitDefEqProofs (disch := omega) only [go_sem, seval, c1], by simp -implicitDefEqProofs (disch := omega) only [go_sem, seval, c5], by simp -implicitDefEqProofs (disch := omega) only [go_sem, seval, d5], by simp -implicitDefEqProofs (disch := omega) only [go_sem, seval, c7]⟩, by simp -implicitDefEqProofs (disch := omega) only [go_sem, seval, go_sem], [], 0, .nil, .ptr 1792 1 0, .sl .nil 0 [], 1792, by simp, ⟨⟨List.Pairwise.nil, by simp [OkE], by simp [NmE], by simp, by simp [usedL], by simp⟩, by simp [sizeF, sureL]⟩, by unfold PairC; simp -implicitDefEqProofs (disch := omega) only [go_sem, seval, hP], 1, rfl, .inr (.inr ⟨.nil, rfl, by simp -implicitDefEqProofs (disch := omega) only [go_sem, seval, hd], by simp [nowZ, nowR]⟩)⟩ ?_
  clear c0 c1 c5 d5 c7 hP hd
  clear t σ
  rintro i ⟨t, σ⟩ ⟨hi, hi25, ⟨c0, c1, c5, d5, c7⟩, h8, l, ch, k2, d0, d1, q, hq, hf, hP, g, rfl, hM⟩
  simp only at c0 c1 c5 d5 c7 h8 hM
  unfold PairC at hP
  dsimp only at hP
  by_cases hc : i < p.la.length
  · by_cases h25 : i < 25
    · simp -implicitDefEqProofs (disch := omega) only [go_sem, seval, lp3_0, c0, h8, hc, h25]
      have rr := rows_row (f := Act.v) act_len hc
      have cc : gt (rows Act.v p.la) (i * 8) = .int .i64 (gt p.la i).k := by
        have := rows_at (f := Act.v) (j := 0) act_len hc (by omega)
        simp only [Nat.add_zero] at this
        simp [gt, List.getD_eq_getElem?_getD, this, Act.v]
      have hel := rows_length (f := Act.v) act_len p.la
      have q2 : i * 8 + 8 ≤ p.la.length * 8 := by omega
      have hoa := hok (gt p.la i) (by rw [gt_eq hc]; exact List.getElem_mem hc)
      generalize gt p.la i = a at *
      by_cases k1 : 0 ≤ a.k
      · by_cases k6 : a.k < 6
        · simp -implicitDefEqProofs (disch := omega) only [go_sem, seval, c0, h8, cc, hel, q2, k1, k6]
          have hel2 := elen l
          have hrn := flen (nowL l)
          have hlen := hf.1.len
          have hnl := now_len_le l
          simp only [List.mem_cons, List.not_mem_nil, or_false] at hq
          rcases hM with ⟨g1, g2, sq, sq1, rfl, sq2⟩ | ⟨g1, k, sq, sq1, rfl⟩ | ⟨k, rfl, sq, rfl⟩
          · obtain ⟨lv2, nv2, k3, L, ch2, hF, hf2, hD⟩ := do_ok3 (k2 := k2) (l := l) (.inl ⟨rfl, rfl⟩) ch i hf (by omega) a (by omega) hoa
            have hel3 := elen L
            have hrn3 := flen (nowL L)
            have hlen3 := hf2.1.len
            rcases hq with rfl | rfl <;> rcases hF with ⟨rfl, rfl⟩ | ⟨rfl, k4, rfl⟩ | ⟨rfl, rfl, k4, rfl⟩
            · simp -implicitDefEqProofs (disch := omega) only [go_sem, seval, Pv, dkv, Act.v] at hD
              simp -implicitDefEqProofs (disch := omega) only [go_sem, seval, dkv] at sq
              refine wp_draw_E ?_
              simp -implicitDefEqProofs (disch := omega) only [go_sem, seval, c0, h8, c7, hP, sq, sq1, sq2, rr, hel, q2, hel2, hrn, ero, fro, ite_self, Act.v, hD, hel3, hrn3]
              exact ⟨i + 1, by omega, by omega, by omega, ⟨by simp -implicitDefEqProofs (disch := omega) only [go_sem, seval, c0], by simp -implicitDefEqProofs (disch := omega) only [go_sem, seval, c1], by simp -implicitDefEqProofs (disch := omega) only [go_sem, seval, c5], by simp -implicitDefEqProofs (disch := omega) only [go_sem, seval, d5], by simp -implicitDefEqProofs (disch := omega) only [go_sem, seval, c7]⟩, by simp -implicitDefEqProofs (disch := omega) only [go_sem, seval, go_sem], _, ch2, k3, _, _, 3776, by simp, hf2, by unfold PairC; simp -implicitDefEqProofs (disch := omega) only [go_sem, seval, go_sem]; rfl, _, rfl, .inl ⟨_, _, (by first | (simp -implicitDefEqProofs (disch := omega) only [go_sem, seval, dkv]; done) | (simp -implicitDefEqProofs (disch := omega) only [go_sem, seval, dkv]; rfl)), (by first | (simp -implicitDefEqProofs (disch := omega) only [go_sem, seval, go_sem]; done) | (simp -implicitDefEqProofs (disch := omega) only [go_sem, seval, go_sem]; rfl)), (by first | (simp -implicitDefEqProofs (disch := omega) only [go_sem, seval, go_sem]; done) | (simp -implicitDefEqProofs (disch := omega) only [go_sem, seval, go_sem]; rfl)), (by first | (simp -implicitDefEqProofs (disch := omega) only [go_sem, seval, go_sem]; done) | (simp -implicitDefEqProofs (disch := omega) only [go_sem, seval, go_sem]; rfl))⟩⟩
            · simp -implicitDefEqProofs (disch := omega) only [go_sem, seval, Pv, dkv, Act.v] at hD
              simp -implicitDefEqProofs (disch := omega) only [go_sem, seval, dkv] at sq
              refine wp_draw_E ?_
              simp -implicitDefEqProofs (disch := omega) only [go_sem, seval, c0, h8, c7, hP, sq, sq1, sq2, rr, hel, q2, hel2, hrn, ero, fro, ite_self, Act.v, hD, hel3, hrn3]
              exact ⟨i + 1, by omega, by omega, by omega, ⟨by simp -implicitDefEqProofs (disch := omega) only [go_sem, seval, c0], by simp -implicitDefEqProofs (disch := omega) only [go_sem, seval, c1], by simp -implicitDefEqProofs (disch := omega) only [go_sem, seval, c5], by simp -implicitDefEqProofs (disch := omega) only [go_sem, seval, d5], by simp -implicitDefEqProofs (disch := omega) only [go_sem, seval, c7]⟩, by simp -implicitDefEqProofs (disch := omega) only [go_sem, seval, go_sem], _, ch2, k3, _, _, 3776, by simp, hf2, by unfold PairC; simp -implicitDefEqProofs (disch := omega) only [go_sem, seval, go_sem]; rfl, _, rfl, .inr (.inl ⟨_, k4, (by first | (simp -implicitDefEqProofs (disch := omega) only [go_sem, seval, dkv]; done) | (simp -implicitDefEqProofs (disch := omega) only [go_sem, seval, dkv]; rfl)), (by first | (simp -implicitDefEqProofs (disch := omega) only [go_sem, seval, go_sem]; done) | (simp -implicitDefEqProofs (disch := omega) only [go_sem, seval, go_sem]; rfl)), (by first | (simp -implicitDefEqProofs (disch := omega) only [go_sem, seval, go_sem]; done) | (simp -implicitDefEqProofs (disch := omega) only [go_sem, seval, go_sem]; rfl))⟩)⟩
            · simp -implicitDefEqProofs (disch := omega) only [go_sem, seval, Pv, dkv, Act.v, rows_nil, List.length_nil] at hD
              simp -implicitDefEqProofs (disch := omega) only [go_sem, seval, dkv] at sq
              refine wp_draw_E ?_
              simp -implicitDefEqProofs (disch := omega) only [go_sem, seval, c0, h8, c7, hP, sq, sq1, sq2, rr, hel, q2, hel2, hrn, ero, fro, ite_self, Act.v, hD, hel3, hrn3]
              exact ⟨i + 1, by omega, by omega, by omega, ⟨by simp -implicitDefEqProofs (disch := omega) only [go_sem, seval, c0], by simp -implicitDefEqProofs (disch := omega) only [go_sem, seval, c1], by simp -implicitDefEqProofs (disch := omega) only [go_sem, seval, c5], by simp -implicitDefEqProofs (disch := omega) only [go_sem, seval, d5], by simp -implicitDefEqProofs (disch := omega) only [go_sem, seval, c7]⟩, by simp -implicitDefEqProofs (disch := omega) only [go_sem, seval, go_sem], _, ch2, k3, _, _, 3776, by simp, hf2, by unfold PairC; simp -implicitDefEqProofs (disch := omega) only [go_sem, seval, go_sem]; rfl, _, rfl, .inr (.inr ⟨k4, rfl, (by first | (simp -implicitDefEqProofs (disch := omega) only [go_sem, seval, dkv]; done) | (simp -implicitDefEqProofs (disch := omega) only [go_sem, seval, dkv]; rfl)), (by first | (simp -implicitDefEqProofs (disch := omega) only [go_sem, seval, go_sem]; done) | (simp -implicitDefEqProofs (disch := omega) only [go_sem, seval, go_sem]; rfl))⟩)⟩
            · simp -implicitDefEqProofs (disch := omega) only [go_sem, seval, Pv, dkv, Act.v] at hD
              simp -implicitDefEqProofs (disch := omega) only [go_sem, seval, dkv] at sq
              refine wp_draw_E ?_
              simp -implicitDefEqProofs (disch := omega) only [go_sem, seval, c0, h8, c7, hP, sq, sq1, sq2, rr, hel, q2, hel2, hrn, ero, fro, ite_self, Act.v, hD, hel3, hrn3]
              exact ⟨i + 1, by omega, by omega, by omega, ⟨by simp -implicitDefEqProofs (disch := omega) only [go_sem, seval, c0], by simp -implicitDefEqProofs (disch := omega) only [go_sem, seval, c1], by simp -implicitDefEqProofs (disch := omega) only [go_sem, seval, c5], by simp -implicitDefEqProofs (disch := omega) only [go_sem, seval, d5], by simp -implicitDefEqProofs (disch := omega) only [go_sem, seval, c7]⟩, by simp -implicitDefEqProofs (disch := omega) only [go_sem, seval, go_sem], _, ch2, k3, _, _, 3776, by simp, hf2, by unfold PairC; simp -implicitDefEqProofs (disch := omega) only [go_sem, seval, go_sem]; rfl, _, rfl, .inl ⟨_, _, (by first | (simp -implicitDefEqProofs (disch := omega) only [go_sem, seval, dkv]; done) | (simp -implicitDefEqProofs (disch := omega) only [go_sem, seval, dkv]; rfl)), (by first | (simp -implicitDefEqProofs (disch := omega) only [go_sem, seval, go_sem]; done) | (simp -implicitDefEqProofs (disch := omega) only [go_sem, seval, go_sem]; rfl)), (by first | (simp -implicitDefEqProofs (disch := omega) only [go_sem, seval, go_sem]; done) | (simp -implicitDefEqProofs (disch := omega) only [go_sem, seval, go_sem]; rfl)), (by first | (simp -implicitDefEqProofs (disch := omega) only [go_sem, seval, go_sem]; done) | (simp -implicitDefEqProofs (disch := omega) only [go_sem, seval, go_sem]; rfl))⟩⟩
            · simp -implicitDefEqProofs (disch := omega) only [go_sem, seval, Pv, dkv, Act.v] at hD
              simp -implicitDefEqProofs (disch := omega) only [go_sem, seval, dkv] at sq
              refine wp_draw_E ?_
              simp -implicitDefEqProofs (disch := omega) only [go_sem, seval, c0, h8, c7, hP, sq, sq1, sq2, rr, hel, q2, hel2, hrn, ero, fro, ite_self, Act.v, hD, hel3, hrn3]
              exact ⟨i + 1, by omega, by omega, by omega, ⟨by simp -implicitDefEqProofs (disch := omega) only [go_sem, seval, c0], by simp -implicitDefEqProofs (disch := omega) only [go_sem, seval, c1], by simp -implicitDefEqProofs (disch := omega) only [go_sem, seval, c5], by simp -implicitDefEqProofs (disch := omega) only [go_sem, seval, d5], by simp -implicitDefEqProofs (disch := omega) only [go_sem, seval, c7]⟩, by simp -implicitDefEqProofs (disch := omega) only [go_sem, seval, go_sem], _, ch2, k3, _, _, 3776, by simp, hf2, by unfold PairC; simp -implicitDefEqProofs (disch := omega) only [go_sem, seval, go_sem]; rfl, _, rfl, .inr (.inl ⟨_, k4, (by first | (simp -implicitDefEqProofs (disch := omega) only [go_sem, seval, dkv]; done) | (simp -implicitDefEqProofs (disch := omega) only [go_sem, seval, dkv]; rfl)), (by first | (simp -implicitDefEqProofs (disch := omega) only [go_sem, seval, go_sem]; done) | (simp -implicitDefEqProofs (disch := omega) only [go_sem, seval, go_sem]; rfl)), (by first | (simp -implicitDefEqProofs (disch := omega) only [go_sem, seval, go_sem]; done) | (simp -implicitDefEqProofs (disch := omega) only [go_sem, seval, go_sem]; rfl))⟩)⟩
            · simp -implicitDefEqProofs (disch := omega) only [go_sem, seval, Pv, dkv, Act.v, rows_nil, List.length_nil] at hD
              simp -implicitDefEqProofs (disch := omega) only [go_sem, seval, dkv] at sq
              refine wp_draw_E ?_
              simp -implicitDefEqProofs (disch := omega) only [go_sem, seval, c0, h8, c7, hP, sq, sq1, sq2, rr, hel, q2, hel2, hrn, ero, fro, ite_self, Act.v, hD, hel3, hrn3]
              exact ⟨i + 1, by omega, by omega, by omega, ⟨by simp -implicitDefEqProofs (disch := omega) only [go_sem, seval, c0], by simp -implicitDefEqProofs (disch := omega) only [go_sem, seval, c1], by simp -implicitDefEqProofs (disch := omega) only [go_sem, seval, c5], by simp -implicitDefEqProofs (disch := omega) only [go_sem, seval, d5], by simp -implicitDefEqProofs (disch := omega) only [go_sem, seval, c7]⟩, by simp -implicitDefEqProofs (disch := omega) only [go_sem, seval, go_sem], _, ch2, k3, _, _, 3776, by simp, hf2, by unfold PairC; simp -implicitDefEqProofs (disch := omega) only [go_sem, seval, go_sem]; rfl, _, rfl, .inr (.inr ⟨k4, rfl, (by first | (simp -implicitDefEqProofs (disch := omega) only [go_sem, seval, dkv]; done) | (simp -implicitDefEqProofs (disch := omega) only [go_sem, seval, dkv]; rfl)), (by first | (simp -implicitDefEqProofs (disch := omega) only [go_sem, seval, go_sem]; done) | (simp -implicitDefEqProofs (disch := omega) only [go_sem, seval, go_sem]; rfl))⟩)⟩
          · obtain ⟨lv2, nv2, k3, L, ch2, hF, hf2, hD⟩ := do_ok3 (k2 := k2) (l := l) (.inr (.inl ⟨rfl, k, rfl⟩)) ch i hf (by omega) a (by omega) hoa
            have hel3 := elen L
            have hrn3 := flen (nowL L)
            have hlen3 := hf2.1.len
            rcases hq with rfl | rfl <;> rcases hF with ⟨rfl, rfl⟩ | ⟨rfl, k4, rfl⟩ | ⟨rfl, rfl, k4, rfl⟩
            · simp -implicitDefEqProofs (disch := omega) only [go_sem, seval, Pv, dkv, Act.v] at hD
              simp -implicitDefEqProofs (disch := omega) only [go_sem, seval, dkv] at sq
              refine wp_draw_E ?_
              simp -implicitDefEqProofs (disch := omega) only [go_sem, seval, c0, h8, c7, hP, sq, sq1, rr, hel, q2, hel2, hrn, ero, fro, ite_self, Act.v, hD, hel3, hrn3]
              exact ⟨i + 1, by omega, by omega, by omega, ⟨by simp -implicitDefEqProofs (disch := omega) only [go_sem, seval, c0], by simp -implicitDefEqProofs (disch := omega) only [go_sem, seval, c1], by simp -implicitDefEqProofs (disch := omega) only [go_sem, seval, c5], by simp -implicitDefEqProofs (disch := omega) only [go_sem, seval, d5], by simp -implicitDefEqProofs (disch := omega) only [go_sem, seval, c7]⟩, by simp -implicitDefEqProofs (disch := omega) only [go_sem, seval, go_sem], _, ch2, k3, _, _, 3776, by simp, hf2, by unfold PairC; simp -implicitDefEqProofs (disch := omega) only [go_sem, seval, go_sem]; rfl, _, rfl, .inl ⟨_, _, (by first | (simp -implicitDefEqProofs (disch := omega) only [go_sem, seval, dkv]; done) | (simp -implicitDefEqProofs (disch := omega) only [go_sem, seval, dkv]; rfl)), (by first | (simp -implicitDefEqProofs (disch := omega) only [go_sem, seval, go_sem]; done) | (simp -implicitDefEqProofs (disch := omega) only [go_sem, seval, go_sem]; rfl)), (by first | (simp -implicitDefEqProofs (disch := omega) only [go_sem, seval, go_sem]; done) | (simp -implicitDefEqProofs (disch := omega) only [go_sem, seval, go_sem]; rfl)), (by first | (simp -implicitDefEqProofs (disch := omega) only [go_sem, seval, go_sem]; done) | (simp -implicitDefEqProofs (disch := omega) only [go_sem, seval, go_sem]; rfl))⟩⟩
            · simp -implicitDefEqProofs (disch := omega) only [go_sem, seval, Pv, dkv, Act.v] at hD
              simp -implicitDefEqProofs (disch := omega) only [go_sem, seval, dkv] at sq
              refine wp_draw_E ?_
              simp -implicitDefEqProofs (disch := omega) only [go_sem, seval, c0, h8, c7, hP, sq, sq1, rr, hel, q2, hel2, hrn, ero, fro, ite_self, Act.v, hD, hel3, hrn3]
              exact ⟨i + 1, by omega, by omega, by omega, ⟨by simp -implicitDefEqProofs (disch := omega) only [go_sem, seval, c0], by simp -implicitDefEqProofs (disch := omega) only [go_sem, seval, c1], by simp -implicitDefEqProofs (disch := omega) only [go_sem, seval, c5], by simp -implicitDefEqProofs (disch := omega) only [go_sem, seval, d5], by simp -implicitDefEqProofs (disch := omega) only [go_sem, seval, c7]⟩, by simp -implicitDefEqProofs (disch := omega) only [go_sem, seval, go_sem], _, ch2, k3, _, _, 3776, by simp, hf2, by unfold PairC; simp -implicitDefEqProofs (disch := omega) only [go_sem, seval, go_sem]; rfl, _, rfl, .inr (.inl ⟨_, k4, (by first | (simp -implicitDefEqProofs (disch := omega) only [go_sem, seval, dkv]; done) | (simp -implicitDefEqProofs (disch := omega) only [go_sem, seval, dkv]; rfl)), (by first | (simp -implicitDefEqProofs (disch := omega) only [go_sem, seval, go_sem]; done) | (simp -implicitDefEqProofs (disch := omega) only [go_sem, seval, go_sem]; rfl)), (by first | (simp -implicitDefEqProofs (disch := omega) only [go_sem, seval, go_sem]; done) | (simp -implicitDefEqProofs (disch := omega) only [go_sem, seval, go_sem]; rfl))⟩)⟩
            · simp -implicitDefEqProofs (disch := omega) only [go_sem, seval, Pv, dkv, Act.v, rows_nil, List.length_nil] at hD
              simp -implicitDefEqProofs (disch := omega) only [go_sem, seval, dkv] at sq
              refine wp_draw_E ?_
              simp -implicitDefEqProofs (disch := omega) only [go_sem, seval, c0, h8, c7, hP, sq, sq1, rr, hel, q2, hel2, hrn, ero, fro, ite_self, Act.v, hD, hel3, hrn3]
              exact ⟨i + 1, by omega, by omega, by omega, ⟨by simp -implicitDefEqProofs (disch := omega) only [go_sem, seval, c0], by simp -implicitDefEqProofs (disch := omega) only [go_sem, seval, c1], by simp -implicitDefEqProofs (disch := omega) only [go_sem, seval, c5], by simp -implicitDefEqProofs (disch := omega) only [go_sem, seval, d5], by simp -implicitDefEqProofs (disch := omega) only [go_sem, seval, c7]⟩, by simp -implicitDefEqProofs (disch := omega) only [go_sem, seval, go_sem], _, ch2, k3, _, _, 3776, by simp, hf2, by unfold PairC; simp -implicitDefEqProofs (disch := omega) only [go_sem, seval, go_sem]; rfl, _, rfl, .inr (.inr ⟨k4, rfl, (by first | (simp -implicitDefEqProofs (disch := omega) only [go_sem, seval, dkv]; done) | (simp -implicitDefEqProofs (disch := omega) only [go_sem, seval, dkv]; rfl)), (by first | (simp -implicitDefEqProofs (disch := omega) only [go_sem, seval, go_sem]; done) | (simp -implicitDefEqProofs (disch := omega) only [go_sem, seval, go_sem]; rfl))⟩)⟩
            · simp -implicitDefEqProofs (disch := omega) only [go_sem, seval, Pv, dkv, Act.v] at hD
              simp -implicitDefEqProofs (disch := omega) only [go_sem, seval, dkv] at sq
              refine wp_draw_E ?_
              simp -implicitDefEqProofs (disch := omega) only [go_sem, seval, c0, h8, c7, hP, sq, sq1, rr, hel, q2, hel2, hrn, ero, fro, ite_self, Act.v, hD, hel3, hrn3]
              exact ⟨i + 1, by omega, by omega, by omega, ⟨by simp -implicitDefEqProofs (disch := omega) only [go_sem, seval, c0], by simp -implicitDefEqProofs (disch := omega) only [go_sem, seval, c1], by simp -implicitDefEqProofs (disch := omega) only [go_sem, seval, c5], by simp -implicitDefEqProofs (disch := omega) only [go_sem, seval, d5], by simp -implicitDefEqProofs (disch := omega) only [go_sem, seval, c7]⟩, by simp -implicitDefEqProofs (disch := omega) only [go_sem, seval, go_sem], _, ch2, k3, _, _, 3776, by simp, hf2, by unfold PairC; simp -implicitDefEqProofs (disch := omega) only [go_sem, seval, go_sem]; rfl, _, rfl, .inl ⟨_, _, (by first | (simp -implicitDefEqProofs (disch := omega) only [go_sem, seval, dkv]; done) | (simp -implicitDefEqProofs (disch := omega) only [go_sem, seval, dkv]; rfl)), (by first | (simp -implicitDefEqProofs (disch := omega) only [go_sem, seval, go_sem]; done) | (simp -implicitDefEqProofs (disch := omega) only [go_sem, seval, go_sem]; rfl)), (by first | (simp -implicitDefEqProofs (disch := omega) only [go_sem, seval, go_sem]; done) | (simp -implicitDefEqProofs (disch := omega) only [go_sem, seval, go_sem]; rfl)), (by first | (simp -implicitDefEqProofs (disch := omega) only [go_sem, seval, go_sem]; done) | (simp -implicitDefEqProofs (disch := omega) only [go_sem, seval, go_sem]; rfl))⟩⟩
            · simp -implicitDefEqProofs (disch := omega) only [go_sem, seval, Pv, dkv, Act.v] at hD
              simp -implicitDefEqProofs (disch := omega) only [go_sem, seval, dkv] at sq
              refine wp_draw_E ?_
              simp -implicitDefEqProofs (disch := omega) only [go_sem, seval, c0, h8, c7, hP, sq, sq1, rr, hel, q2, hel2, hrn, ero, fro, ite_self, Act.v, hD, hel3, hrn3]
              exact ⟨i + 1, by omega, by omega, by omega, ⟨by simp -implicitDefEqProofs (disch := omega) only [go_sem, seval, c0], by simp -implicitDefEqProofs (disch := omega) only [go_sem, seval, c1], by simp -implicitDefEqProofs (disch := omega) only [go_sem, seval, c5], by simp -implicitDefEqProofs (disch := omega) only [go_sem, seval, d5], by simp -implicitDefEqProofs (disch := omega) only [go_sem, seval, c7]⟩, by simp -implicitDefEqProofs (disch := omega) only [go_sem, seval, go_sem], _, ch2, k3, _, _, 3776, by simp, hf2, by unfold PairC; simp -implicitDefEqProofs (disch := omega) only [go_sem, seval, go_sem]; rfl, _, rfl, .inr (.inl ⟨_, k4, (by first | (simp -implicitDefEqProofs (disch := omega) only [go_sem, seval, dkv]; done) | (simp -implicitDefEqProofs (disch := omega) only [go_sem, seval, dkv]; rfl)), (by first | (simp -implicitDefEqProofs (disch := omega) only [go_sem, seval, go_sem]; done) | (simp -implicitDefEqProofs (disch := omega) only [go_sem, seval, go_sem]; rfl)), (by first | (simp -implicitDefEqProofs (disch := omega) only [go_sem, seval, go_sem]; done) | (simp -implicitDefEqProofs (disch := omega) only [go_sem, seval, go_sem]; rfl))⟩)⟩
            · simp -implicitDefEqProofs (disch := omega) only [go_sem, seval, Pv, dkv, Act.v, rows_nil, List.length_nil] at hD
              simp -implicitDefEqProofs (disch := omega) only [go_sem, seval, dkv] at sq
              refine wp_draw_E ?_
              simp -implicitDefEqProofs (disch := omega) only [go_sem, seval, c0, h8, c7, hP, sq, sq1, rr, hel, q2, hel2, hrn, ero, fro, ite_self, Act.v, hD, hel3, hrn3]
              exact ⟨i + 1, by omega, by omega, by omega, ⟨by simp -implicitDefEqProofs (disch := omega) only [go_sem, seval, c0], by simp -implicitDefEqProofs (disch := omega) only [go_sem, seval, c1], by simp -implicitDefEqProofs (disch := omega) only [go_sem, seval, c5], by simp -implicitDefEqProofs (disch := omega) only [go_sem, seval, d5], by simp -implicitDefEqProofs (disch := omega) only [go_sem, seval, c7]⟩, by simp -implicitDefEqProofs (disch := omega) only [go_sem, seval, go_sem], _, ch2, k3, _, _, 3776, by simp, hf2, by unfold PairC; simp -implicitDefEqProofs (disch := omega) only [go_sem, seval, go_sem]; rfl, _, rfl, .inr (.inr ⟨k4, rfl, (by first | (simp -implicitDefEqProofs (disch := omega) only [go_sem, seval, dkv]; done) | (simp -implicitDefEqProofs (disch := omega) only [go_sem, seval, dkv]; rfl)), (by first | (simp -implicitDefEqProofs (disch := omega) only [go_sem, seval, go_sem]; done) | (simp -implicitDefEqProofs (disch := omega) only [go_sem, seval, go_sem]; rfl))⟩)⟩
          · obtain ⟨lv2, nv2, k3, L, ch2, hF, hf2, hD⟩ := do_ok3 (k2 := k2) (l := []) (.inr (.inr ⟨rfl, rfl, k, rfl⟩)) ch i hf (by omega) a (by omega) hoa
            have hel3 := elen L
            have hrn3 := flen (nowL L)
            have hlen3 := hf2.1.len
            rcases hq with rfl | rfl <;> rcases hF with ⟨rfl, rfl⟩ | ⟨rfl, k4, rfl⟩ | ⟨rfl, rfl, k4, rfl⟩
            · simp -implicitDefEqProofs (disch := omega) only [go_sem, seval, Pv, dkv, Act.v] at hD
              simp -implicitDefEqProofs (disch := omega) only [go_sem, seval, dkv] at sq
              refine wp_draw_E ?_
              simp -implicitDefEqProofs (disch := omega) only [go_sem, seval, c0, h8, c7, hP, sq, rr, hel, q2, hel2, hrn, ero, fro, ite_self, Act.v, hD, hel3, hrn3]
              exact ⟨i + 1, by omega, by omega, by omega, ⟨by simp -implicitDefEqProofs (disch := omega) only [go_sem, seval, c0], by simp -implicitDefEqProofs (disch := omega) only [go_sem, seval, c1], by simp -implicitDefEqProofs (disch := omega) only [go_sem, seval, c5], by simp -implicitDefEqProofs (disch := omega) only [go_sem, seval, d5], by simp -implicitDefEqProofs (disch := omega) only [go_sem, seval, c7]⟩, by simp -implicitDefEqProofs (disch := omega) only [go_sem, seval, go_sem], _, ch2, k3, _, _, 3776, by simp, hf2, by unfold PairC; simp -implicitDefEqProofs (disch := omega) only [go_sem, seval, go_sem]; rfl, _, rfl, .inl ⟨_, _, (by first | (simp -implicitDefEqProofs (disch := omega) only [go_sem, seval, dkv]; done) | (simp -implicitDefEqProofs (disch := omega) only [go_sem, seval, dkv]; rfl)), (by first | (simp -implicitDefEqProofs (disch := omega) only [go_sem, seval, go_sem]; done) | (simp -implicitDefEqProofs (disch := omega) only [go_sem, seval, go_sem]; rfl)), (by first | (simp -implicitDefEqProofs (disch := omega) only [go_sem, seval, go_sem]; done) | (simp -implicitDefEqProofs (disch := omega) only [go_sem, seval, go_sem]; rfl)), (by first | (simp -implicitDefEqProofs (disch := omega) only [go_sem, seval, go_sem]; done) | (simp -implicitDefEqProofs (disch := omega) only [go_sem, seval, go_sem]; rfl))⟩⟩
            · simp -implicitDefEqProofs (disch := omega) only [go_sem, seval, Pv, dkv, Act.v] at hD
              simp -implicitDefEqProofs (disch := omega) only [go_sem, seval, dkv] at sq
              refine wp_draw_E ?_
              simp -implicitDefEqProofs (disch := omega) only [go_sem, seval, c0, h8, c7, hP, sq, rr, hel, q2, hel2, hrn, ero, fro, ite_self, Act.v, hD, hel3, hrn3]
              exact ⟨i + 1, by omega, by omega, by omega, ⟨by simp -implicitDefEqProofs (disch := omega) only [go_sem, seval, c0], by simp -implicitDefEqProofs (disch := omega) only [go_sem, seval, c1], by simp -implicitDefEqProofs (disch := omega) only [go_sem, seval, c5], by simp -implicitDefEqProofs (disch := omega) only [go_sem, seval, d5], by simp -implicitDefEqProofs (disch := omega) only [go_sem, seval, c7]⟩, by simp -implicitDefEqProofs (disch := omega) only [go_sem, seval, go_sem], _, ch2, k3, _, _, 3776, by simp, hf2, by unfold PairC; simp -implicitDefEqProofs (disch := omega) only [go_sem, seval, go_sem]; rfl, _, rfl, .inr (.inl ⟨_, k4, (by first | (simp -implicitDefEqProofs (disch := omega) only [go_sem, seval, dkv]; done) | (simp -implicitDefEqProofs (disch := omega) only [go_sem, seval, dkv]; rfl)), (by first | (simp -implicitDefEqProofs (disch := omega) only [go_sem, seval, go_sem]; done) | (simp -implicitDefEqProofs (disch := omega) only [go_sem, seval, go_sem]; rfl)), (by first | (simp -implicitDefEqProofs (disch := omega) only [go_sem, seval, go_sem]; done) | (simp -implicitDefEqProofs (disch := omega) only [go_sem, seval, go_sem]; rfl))⟩)⟩
            · simp -implicitDefEqProofs (disch := omega) only [go_sem, seval, Pv, dkv, Act.v, rows_nil, List.length_nil] at hD
              simp -implicitDefEqProofs (disch := omega) only [go_sem, seval, dkv] at sq
              refine wp_draw_E ?_
              simp -implicitDefEqProofs (disch := omega) only [go_sem, seval, c0, h8, c7, hP, sq, rr, hel, q2, hel2, hrn, ero, fro, ite_self, Act.v, hD, hel3, hrn3]
              exact ⟨i + 1, by omega, by omega, by omega, ⟨by simp -implicitDefEqProofs (disch := omega) only [go_sem, seval, c0], by simp -implicitDefEqProofs (disch := omega) only [go_sem, seval, c1], by simp -implicitDefEqProofs (disch := omega) only [go_sem, seval, c5], by simp -implicitDefEqProofs (disch := omega) only [go_sem, seval, d5], by simp -implicitDefEqProofs (disch := omega) only [go_sem, seval, c7]⟩, by simp -implicitDefEqProofs (disch := omega) only [go_sem, seval, go_sem], _, ch2, k3, _, _, 3776, by simp, hf2, by unfold PairC; simp -implicitDefEqProofs (disch := omega) only [go_sem, seval, go_sem]; rfl, _, rfl, .inr (.inr ⟨k4, rfl, (by first | (simp -implicitDefEqProofs (disch := omega) only [go_sem, seval, dkv]; done) | (simp -implicitDefEqProofs (disch := omega) only [go_sem, seval, dkv]; rfl)), (by first | (simp -implicitDefEqProofs (disch := omega) only [go_sem, seval, go_sem]; done) | (simp -implicitDefEqProofs (disch := omega) only [go_sem, seval, go_sem]; rfl))⟩)⟩
            · simp -implicitDefEqProofs (disch := omega) only [go_sem, seval, Pv, dkv, Act.v] at hD
              simp -implicitDefEqProofs (disch := omega) only [go_sem, seval, dkv] at sq
              refine wp_draw_E ?_
              simp -implicitDefEqProofs (disch := omega) only [go_sem, seval, c0, h8, c7, hP, sq, rr, hel, q2, hel2, hrn, ero, fro, ite_self, Act.v, hD, hel3, hrn3]
              exact ⟨i + 1, by omega, by omega, by omega, ⟨by simp -implicitDefEqProofs (disch := omega) only [go_sem, seval, c0], by simp -implicitDefEqProofs (disch := omega) only [go_sem, seval, c1], by simp -implicitDefEqProofs (disch := omega) only [go_sem, seval, c5], by simp -implicitDefEqProofs (disch := omega) only [go_sem, seval, d5], by simp -implicitDefEqProofs (disch := omega) only [go_sem, seval, c7]⟩, by simp -implicitDefEqProofs (disch := omega) only [go_sem, seval, go_sem], _, ch2, k3, _, _, 3776, by simp, hf2, by unfold PairC; simp -implicitDefEqProofs (disch := omega) only [go_sem, seval, go_sem]; rfl, _, rfl, .inl ⟨_, _, (by first | (simp -implicitDefEqProofs (disch := omega) only [go_sem, seval, dkv]; done) | (simp -implicitDefEqProofs (disch := omega) only [go_sem, seval, dkv]; rfl)), (by first | (simp -implicitDefEqProofs (disch := omega) only [go_sem, seval, go_sem]; done) | (simp -implicitDefEqProofs (disch := omega) only [go_sem, seval, go_sem]; rfl)), (by first | (simp -implicitDefEqProofs (disch := omega) only [go_sem, seval, go_sem]; done) | (simp -implicitDefEqProofs (disch := omega) only [go_sem, seval, go_sem]; rfl)), (by first | (simp -implicitDefEqProofs (disch := omega) only [go_sem, seval, go_sem]; done) | (simp -implicitDefEqProofs (disch := omega) only [go_sem, seval, go_sem]; rfl))⟩⟩
            · simp -implicitDefEqProofs (disch := omega) only [go_sem, seval, Pv, dkv, Act.v] at hD
              simp -implicitDefEqProofs (disch := omega) only [go_sem, seval, dkv] at sq
              refine wp_draw_E ?_
              simp -implicitDefEqProofs (disch := omega) only [go_sem, seval, c0, h8, c7, hP, sq, rr, hel, q2, hel2, hrn, ero, fro, ite_self, Act.v, hD, hel3, hrn3]
              exact ⟨i + 1, by omega, by omega, by omega, ⟨by simp -implicitDefEqProofs (disch := omega) only [go_sem, seval, c0], by simp -implicitDefEqProofs (disch := omega) only [go_sem, seval, c1], by simp -implicitDefEqProofs (disch := omega) only [go_sem, seval, c5], by simp -implicitDefEqProofs (disch := omega) only [go_sem, seval, d5], by simp -implicitDefEqProofs (disch := omega) only [go_sem, seval, c7]⟩, by simp -implicitDefEqProofs (disch := omega) only [go_sem, seval, go_sem], _, ch2, k3, _, _, 3776, by simp, hf2, by unfold PairC; simp -implicitDefEqProofs (disch := omega) only [go_sem, seval, go_sem]; rfl, _, rfl, .inr (.inl ⟨_, k4, (by first | (simp -implicitDefEqProofs (disch := omega) only [go_sem, seval, dkv]; done) | (simp -implicitDefEqProofs (disch := omega) only [go_sem, seval, dkv]; rfl)), (by first | (simp -implicitDefEqProofs (disch := omega) only [go_sem, seval, go_sem]; done) | (simp -implicitDefEqProofs (disch := omega) only [go_sem, seval, go_sem]; rfl)), (by first | (simp -implicitDefEqProofs (disch := omega) only [go_sem, seval, go_sem]; done) | (simp -implicitDefEqProofs (disch := omega) only [go_sem, seval, go_sem]; rfl))⟩)⟩
            · simp -implicitDefEqProofs (disch := omega) only [go_sem, seval, Pv, dkv, Act.v, rows_nil, List.length_nil] at hD
              simp -implicitDefEqProofs (disch := omega) only [go_sem, seval, dkv] at sq
              refine wp_draw_E ?_
              simp -implicitDefEqProofs (disch := omega) only [go_sem, seval, c0, h8, c7, hP, sq, rr, hel, q2, hel2, hrn, ero, fro, ite_self, Act.v, hD, hel3, hrn3]
              exact ⟨i + 1, by omega, by omega, by omega, ⟨by simp -implicitDefEqProofs (disch := omega) only [go_sem, seval, c0], by simp -implicitDefEqProofs (disch := omega) only [go_sem, seval, c1], by simp -implicitDefEqProofs (disch := omega) only [go_sem, seval, c5], by simp -implicitDefEqProofs (disch := omega) only [go_sem, seval, d5], by simp -implicitDefEqProofs (disch := omega) only [go_sem, seval, c7]⟩, by simp -implicitDefEqProofs (disch := omega) only [go_sem, seval, go_sem], _, ch2, k3, _, _, 3776, by simp, hf2, by unfold PairC; simp -implicitDefEqProofs (disch := omega) only [go_sem, seval, go_sem]; rfl, _, rfl, .inr (.inr ⟨k4, rfl, (by first | (simp -implicitDefEqProofs (disch := omega) only [go_sem, seval, dkv]; done) | (simp -implicitDefEqProofs (disch := omega) only [go_sem, seval, dkv]; rfl)), (by first | (simp -implicitDefEqProofs (disch := omega) only [go_sem, seval, go_sem]; done) | (simp -implicitDefEqProofs (disch := omega) only [go_sem, seval, go_sem]; rfl))⟩)⟩
        · simp -implicitDefEqProofs (disch := omega) only [go_sem, seval, c0, h8, cc, hel, q2, k1, k6]
          exact ⟨i + 1, by omega, by omega, by omega, ⟨by simp -implicitDefEqProofs (disch := omega) only [go_sem, seval, c0], by simp -implicitDefEqProofs (disch := omega) only [go_sem, seval, c1], by simp -implicitDefEqProofs (disch := omega) only [go_sem, seval, c5], by simp -implicitDefEqProofs (disch := omega) only [go_sem, seval, d5], by simp -implicitDefEqProofs (disch := omega) only [go_sem, seval, c7]⟩, by simp -implicitDefEqProofs (disch := omega) only [go_sem, seval, go_sem], l, ch, k2, _, d1, q, hq, fit2_le hf (by omega), by unfold PairC; simp -implicitDefEqProofs (disch := omega) only [go_sem, seval, hP], g, rfl, hM⟩
      · simp -implicitDefEqProofs (disch := omega) only [go_sem, seval, c0, h8, cc, hel, q2, k1]
        exact ⟨i + 1, by omega, by omega, by omega, ⟨by simp -implicitDefEqProofs (disch := omega) only [go_sem, seval, c0], by simp -implicitDefEqProofs (disch := omega) only [go_sem, seval, c1], by simp -implicitDefEqProofs (disch := omega) only [go_sem, seval, c5], by simp -implicitDefEqProofs (disch := omega) only [go_sem, seval, d5], by simp -implicitDefEqProofs (disch := omega) only [go_sem, seval, c7]⟩, by simp -implicitDefEqProofs (disch := omega) only [go_sem, seval, go_sem], l, ch, k2, _, d1, q, hq, fit2_le hf (by omega), by unfold PairC; simp -implicitDefEqProofs (disch := omega) only [go_sem, seval, hP], g, rfl, hM⟩
    · simp -implicitDefEqProofs (disch := omega) only [go_sem, seval, lp3_0, c0, h8, hc, h25]
      exact ⟨⟨by simp -implicitDefEqProofs (disch := omega) only [go_sem, seval, c0], by simp -implicitDefEqProofs (disch := omega) only [go_sem, seval, c1], by simp -implicitDefEqProofs (disch := omega) only [go_sem, seval, c5], by simp -implicitDefEqProofs (disch := omega) only [go_sem, seval, d5], by simp -implicitDefEqProofs (disch := omega) only [go_sem, seval, c7]⟩, l, ch, k2, _, d1, q, hq, fit2_le hf (by omega), by unfold PairC; simp -implicitDefEqProofs (disch := omega) only [go_sem, seval, hP], g, rfl, hM⟩
  · simp -implicitDefEqProofs (disch := omega) only [go_sem, seval, lp3_0, c0, h8, hc]
    exact ⟨⟨by simp -implicitDefEqProofs (disch := omega) only [go_sem, seval, c0], by simp -implicitDefEqProofs (disch := omega) only [go_sem, seval, c1], by simp -implicitDefEqProofs (disch := omega) only [go_sem, seval, c5], by simp -implicitDefEqProofs (disch := omega) only [go_sem, seval, d5], by simp -implicitDefEqProofs (disch := omega) only [go_sem, seval, c7]⟩, l, ch, k2, _, d1, q, hq, fit2_le hf (by omega), by unfold PairC; simp -implicitDefEqProofs (disch := omega) only [go_sem, seval, hP], g, rfl, hM⟩
end Go.Vm.Ytclcadpmkkeaeaa
