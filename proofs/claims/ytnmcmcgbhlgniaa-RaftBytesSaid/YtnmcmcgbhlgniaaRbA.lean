/- (seval) Messages of replicas as bytes, in the machine: they are put. -/
import Derived.Test.YtnmcmcgbhlgniaaRbP
import Derived.Test.YtnmcmcgbhlgniaaHeadB
import Derived.Test.YtnmcmcgbhlgniaaRaftVB
set_option linter.unusedSectionVars false
set_option linter.unusedSimpArgs false
set_option linter.unusedVariables false
set_option maxHeartbeats 4000000
set_option maxRecDepth 10000
namespace Go.Vm.Ytnmcmcgbhlgniaa
open Go.Proofs
theorem wn1 (B : List UInt8) (hB : B.length ≤ 1000000000000) {x : Int} (h : 0 ≤ x ∧ x < 256) : Gf fns 50 [wrV B, .int .u64 x, .int .i64 1] = some (.tup [], [wrV (B ++ [byte1 x])]) := by
  have a := WNumber_ok B (UInt64.ofNat x.toNat) 1 (by omega) (by omega)
  rw [← byte_u64 h, show bytes8 1 = 1 from rfl, byte_num h] at a
  exact a
def pidM : List Nat := [1, 704, 1344]
def pmS (B : List UInt8) (k : SK) (m : List Int) (i : Nat) (s : St) : Prop := i ≤ m.length ∧ s.t 0 = .ptr 0 1 0 ∧ s.t 11 = .sl k m.length (m.map iI) ∧ s.t 12 = .int .i64 (m.length : Int) ∧ s.t 13 = .int .i64 (i : Int) ∧ WAt (B ++ membB (m.take i) ++ [] ) 0 1 pidM s.σ
def mb (n : Nat) (m : List Int) : List UInt8 := UInt8.ofNat n :: m.map byte1
def pmS2 (B : List UInt8) (k : SK) (m : List Int) (i : Nat) (s : St) : Prop := i ≤ m.length ∧ s.t 0 = .ptr 0 1 0 ∧ s.t 11 = .sl k m.length (m.map iI) ∧ s.t 12 = .int .i64 (m.length : Int) ∧ s.t 13 = .int .i64 (i : Int) ∧ WAt (B ++ mb m.length (m.take i)) 0 1 pidM s.σ
theorem PutM_g (B : List UInt8) (hB : B.length ≤ 100000000000) (k : SK) (m : List Int) (hm : ∀ x ∈ m, 0 ≤ x ∧ x < 256) (hl : m.length ≤ 100) : Gf fns 36 [wrV B, .sl k m.length (m.map iI)] = some (.tup [], [wrV (B ++ membB m)]) := by
  have a1 := wn1 B (by omega) (x := (m.length : Int)) ⟨by omega, by omega⟩
  have hb : byte1 (m.length : Int) = UInt8.ofNat m.length := by unfold byte1; rw [Int.toNat_natCast]
  rw [hb] at a1
  refine Gf_start rfl rfl (startW (fun σ k => by simp -implicitDefEqProofs (disch := omega) only [go_sem, seval, go_sem]) fun σ hs => ?_)
  simp -implicitDefEqProofs (disch := omega) only [go_sem, seval, go_sem]
  refine contC_ex (wcall (f := 50) rfl B _ 0 1 [1] hs (by simp) (by simp -implicitDefEqProofs (disch := omega) only [go_sem, seval, go_sem]) a1 (fun k σ' => by simp -implicitDefEqProofs (disch := omega) only [go_sem, seval, go_sem])) ?_
  rintro σ2 ⟨hs2, _⟩
  simp -implicitDefEqProofs (disch := omega) only [go_sem, seval, go_sem]
  refine wp_loopS (pmS2 B k m) (fun i => m.length - i) 0 ⟨by omega, by simp -implicitDefEqProofs (disch := omega) only [go_sem, seval, go_sem], by simp -implicitDefEqProofs (disch := omega) only [go_sem, seval, go_sem], by simp -implicitDefEqProofs (disch := omega) only [go_sem, seval, go_sem], by simp -implicitDefEqProofs (disch := omega) only [go_sem, seval, go_sem], hs2.ids (by simp [pidM])⟩ ?_
  rintro i ⟨t, σ⟩ ⟨hi, t0, t11, t12, t13, hw⟩
  simp only at hi t0 t11 t12 t13 hw
  simp -implicitDefEqProofs (disch := omega) only [go_sem, seval, lp36_0, t12, t13]
  refine condC_dec (fun hc => ?_) (fun hc => ?_)
  · have hx := hm _ (gt_mem8 hc)
    have ha : 0 ≤ gt m i := hx.1
    have hb2 : gt m i < 18446744073709551616 := by omega
    have hlt : ((m.take i).map byte1).length = i := by simp; omega
    have m1 := wn1 (B ++ mb m.length (m.take i)) (by rw [List.length_append, mb, List.length_cons, hlt]; omega) hx
    simp -implicitDefEqProofs (disch := omega) only [go_sem, seval, t0, t11, t13, iI]
    refine contC_ex (wcall (f := 50) rfl _ _ 0 1 pidM hw (by simp [pidM]) (by simp -implicitDefEqProofs (disch := omega) only [go_sem, seval, go_sem]) m1 (fun k σ' => by simp -implicitDefEqProofs (disch := omega) only [go_sem, seval, go_sem])) ?_
    rintro σ3 ⟨hs3, _⟩
    simp -implicitDefEqProofs (disch := omega) only [go_sem, seval, t0, t11, t12, t13]
    refine ⟨i + 1, by omega, by omega, by simp -implicitDefEqProofs (disch := omega) only [go_sem, seval, t0], by simp -implicitDefEqProofs (disch := omega) only [go_sem, seval, t11], by simp -implicitDefEqProofs (disch := omega) only [go_sem, seval, t12], by simp -implicitDefEqProofs (disch := omega) only [go_sem, seval, go_sem], ?_⟩
    have e : B ++ mb m.length (m.take (i + 1)) = B ++ mb m.length (m.take i) ++ [byte1 (gt m i)] := by rw [take_gt hc]; simp [mb]
    rw [e]
    exact hs3.ids (by simp [pidM])
  · obtain rfl : i = m.length := by omega
    rw [take_all (Nat.le_refl _)] at hw
    obtain ⟨q, o1, o2, _⟩ := hw.own (by simp [pidM])
    simp -implicitDefEqProofs (disch := omega) only [go_sem, seval, o1, o2, mb, membB]
def _root_.Go.Vm.En.vk (k : SK) (e : En) : List V := [.int .i64 e.term, .str e.s, .bool e.conf, .sl k e.mem.length (e.mem.map iI)]
theorem boolB_num (b : Bool) : numB (if b = true then 1 else 0) 1 = boolB b := by cases b <;> rfl
theorem PutE_g (B : List UInt8) (hB : B.length ≤ 50000000000) (k : SK) (e : En) (h : e.okE) : Gf fns 23 [wrV B, .agg (e.vk k)] = some (.tup [], [wrV (B ++ enB e)]) := by
  obtain ⟨h1, h2, h3, h4⟩ := h
  obtain ⟨term, s, conf, mem⟩ := e
  simp only at h1 h2 h3 h4
  have a1 := WCount_ok B term (by omega) (by omega)
  have a2 := WBool_ok (B ++ cntB term) conf (by rw [List.length_append, cntB_len]; omega)
  rw [boolB_num] at a2
  refine Gf_start rfl rfl (startW (fun σ k => by simp -implicitDefEqProofs (disch := omega) only [go_sem, seval, En.vk]) fun σ hs => ?_)
  simp -implicitDefEqProofs (disch := omega) only [go_sem, seval, En.vk]
  refine contC_ex (wcall (f := 33) rfl B _ 0 1 [1] (hs.same (by simp -implicitDefEqProofs (disch := omega) only [go_sem, seval, go_sem]) (by simp; simp -implicitDefEqProofs (disch := omega) only [go_sem, seval, go_sem])) (by simp) (by simp -implicitDefEqProofs (disch := omega) only [go_sem, seval, go_sem]) a1 (fun k σ' => by simp -implicitDefEqProofs (disch := omega) only [go_sem, seval, go_sem])) ?_
  rintro σ2 ⟨hs2, e2⟩
  have f2 := e2 256 (by simp) (by simp) (by simp)
  simp -implicitDefEqProofs (disch := omega) only [go_sem, seval, go_sem] at f2
  simp -implicitDefEqProofs (disch := omega) only [go_sem, seval, f2]
  refine contC_ex (wcall (f := 34) rfl _ _ 0 1 _ hs2 (by simp) (by simp -implicitDefEqProofs (disch := omega) only [go_sem, seval, go_sem]) a2 (fun k σ' => by simp -implicitDefEqProofs (disch := omega) only [go_sem, seval, go_sem])) ?_
  rintro σ3 ⟨hs3, e3⟩
  have f3 := e3 256 (by simp) (by simp) (by simp)
  rw [f2] at f3
  cases conf with
  | true =>
    have hm := h3 rfl
    have hr := (memb_range hm).1
    have a3 := PutM_g (B ++ cntB term ++ boolB true) (by simp only [List.length_append, cntB_len, boolB, List.length_singleton]; omega) k mem (fun x hx => by have := hr x hx; omega) (by have := memb_len hm; omega)
    simp -implicitDefEqProofs (disch := omega) only [go_sem, seval, f3]
    refine contC_ex (wcall (f := 36) rfl _ _ 0 1 _ hs3 (by simp) (by simp -implicitDefEqProofs (disch := omega) only [go_sem, seval, go_sem]) a3 (fun k σ' => by simp -implicitDefEqProofs (disch := omega) only [go_sem, seval, go_sem])) ?_
    rintro σ4 ⟨hs4, e4⟩
    obtain ⟨q, o1, o2, _⟩ := hs4.own (by simp)
    have ee : B ++ cntB term ++ boolB true ++ membB mem = B ++ enB ⟨term, s, true, mem⟩ := by simp only [enB, if_true, List.append_assoc]
    rw [ee] at o1
    simp -implicitDefEqProofs (disch := omega) only [go_sem, seval, o1, o2]
  | false =>
    have a3 := WText_ok (B ++ cntB term ++ boolB false) s (by simp only [List.length_append, cntB_len, boolB, List.length_singleton]; omega)
    simp -implicitDefEqProofs (disch := omega) only [go_sem, seval, f3]
    refine contC_ex (wcall (f := 35) rfl _ _ 0 1 _ hs3 (by simp) (by simp -implicitDefEqProofs (disch := omega) only [go_sem, seval, go_sem]) a3 (fun k σ' => by simp -implicitDefEqProofs (disch := omega) only [go_sem, seval, go_sem])) ?_
    rintro σ4 ⟨hs4, e4⟩
    obtain ⟨q, o1, o2, _⟩ := hs4.own (by simp)
    have ee : B ++ cntB term ++ boolB false ++ numB (UInt64.ofNat s.length) 4 ++ s = B ++ enB ⟨term, s, false, mem⟩ := by simp only [enB, textB, Bool.false_eq_true, if_false, List.append_assoc]
    rw [ee] at o1
    simp -implicitDefEqProofs (disch := omega) only [go_sem, seval, o1, o2]
/-! Whole messages -/
def pk (p : En × SK) : List V := p.1.vk p.2
theorem pk_len (p : En × SK) : (pk p).length = 4 := rfl
def _root_.Go.Vm.Ms.vk (m : Ms) (ek : SK) (l : List (En × SK)) (mk : SK) : List V := [.int .i64 m.k, .int .i64 m.f, .int .i64 m.t, .int .i64 m.term, .int .i64 m.ix, .int .i64 m.lt, .int .i64 m.cm, .bool m.y, .sl ek l.length (rows pk l), .int .i64 m.off, .str m.pc, .bool m.d, .sl mk m.mem.length (m.mem.map iI)]
def pidP : List Nat := [1, 2112, 2432, 2688, 3008, 3648, 3968, 4352, 4864]
theorem prow (l : List (En × SK)) (i : Nat) (h : i < l.length) : ((rows pk l).drop (i * 4)).take 4 = pk (gt l i) := rows_row pk_len h
theorem plen (l : List (En × SK)) : (rows pk l).length = l.length * 4 := rows_length pk_len l
def nB (m : Ms) (i : Nat) : List UInt8 := (m.nums.take i).flatMap cntB
theorem nB_len (m : Ms) (i : Nat) : (nB m i).length ≤ 32 := by
  unfold nB
  have hlen : ∀ k : List Int, (k.flatMap cntB).length = 4 * k.length := by
    intro k
    induction k with
    | nil => rfl
    | cons a k ih => rw [List.flatMap_cons, List.length_append, cntB_len, ih, List.length_cons]; omega
  rw [hlen, List.length_take]
  have : m.nums.length = 8 := rfl
  omega
theorem ensB_len (l : List En) (h : ∀ e ∈ l, e.okE) : (ensB l).length ≤ 1048590 * l.length := by
  induction l with
  | nil => simp [ensB]
  | cons e l ih =>
    have h1 := enB_len_le (h e (by simp))
    have h2 := ih (fun x hx => h x (List.mem_cons_of_mem _ hx))
    simp only [ensB, List.flatMap_cons, List.length_append, List.length_cons] at h2 ⊢
    omega
def p1S (g3 g24 : Nat) (B : List UInt8) (m : Ms) (ek : SK) (l : List (En × SK)) (mk : SK) (i : Nat) (s : St) : Prop := i ≤ 8 ∧ s.t 0 = .ptr 0 1 0 ∧ s.t 3 = .ptr 256 g3 0 ∧ s.σ 256 = ⟨g3, .rw, false, m.vk ek l mk⟩ ∧ s.t 24 = .sli 1600 g24 0 8 1 ∧ s.σ 1600 = ⟨g24, .rw, true, m.nums.map iI⟩ ∧ s.t 25 = .int .i64 8 ∧ s.t 26 = .int .i64 (i : Int) ∧ WAt (B ++ nB m i) 0 1 pidP s.σ
def p2S (g3 : Nat) (B : List UInt8) (m : Ms) (ek : SK) (l : List (En × SK)) (mk : SK) (i : Nat) (s : St) : Prop := i ≤ l.length ∧ s.t 0 = .ptr 0 1 0 ∧ s.t 3 = .ptr 256 g3 0 ∧ s.σ 256 = ⟨g3, .rw, false, m.vk ek l mk⟩ ∧ s.t 48 = .sl ek l.length (rows pk l) ∧ s.t 49 = .int .i64 (l.length : Int) ∧ s.t 50 = .int .i64 (i : Int) ∧ WAt (B ++ nB m 8 ++ boolB m.y ++ boolB m.d ++ numB (UInt64.ofNat l.length) 4 ++ ensB (m.es.take i)) 0 1 pidP s.σ
theorem Put_g (B : List UInt8) (hB : B.length ≤ 1000000000) (m : Ms) (h : m.okM) (ek : SK) (l : List (En × SK)) (mk : SK) (hml : m.es = l.map (·.1)) : Gf fns 12 [wrV B, .agg (m.vk ek l mk)] = some (.tup [], [wrV (B ++ msB m)]) := by
  obtain ⟨h1, h2, h3, h4, h5⟩ := h
  have hll : m.es.length = l.length := by rw [hml, List.length_map]
  have hpl := plen l
  have n8 := nB_len m 8
  refine Gf_start rfl rfl (startW (fun σ k => by simp -implicitDefEqProofs (disch := omega) only [go_sem, seval, Ms.vk]) fun σ hs => ?_)
  simp -implicitDefEqProofs (disch := omega) only [go_sem, seval, Ms.vk]
  refine wp_loopS (p1S ((σ 256).gen + 1) ((σ 1600).gen + 1) B m ek l mk) (fun i => 8 - i) 0 ⟨by omega, by simp -implicitDefEqProofs (disch := omega) only [go_sem, seval, go_sem], by simp -implicitDefEqProofs (disch := omega) only [go_sem, seval, go_sem], by simp -implicitDefEqProofs (disch := omega) only [go_sem, seval, Ms.vk], by simp -implicitDefEqProofs (disch := omega) only [go_sem, seval, go_sem], by simp -implicitDefEqProofs (disch := omega) only [go_sem, seval, Ms.nums, iI, List.map_cons, List.map_nil], by simp -implicitDefEqProofs (disch := omega) only [go_sem, seval, go_sem], by simp -implicitDefEqProofs (disch := omega) only [go_sem, seval, go_sem], ?_⟩ ?_
  · rw [show B ++ nB m 0 = B by simp [nB]]
    exact (hs.same (by simp -implicitDefEqProofs (disch := omega) only [go_sem, seval, go_sem]) (by simp; simp -implicitDefEqProofs (disch := omega) only [go_sem, seval, go_sem])).ids (by simp [pidP])
  generalize (σ 256).gen + 1 = g3
  generalize (σ 1600).gen + 1 = g24
  clear hs
  clear σ
  rintro i ⟨t, σ⟩ ⟨hi, t0, t3, u3, t24, u24, t25, t26, hw⟩
  simp only at hi t0 t3 u3 t24 u24 t25 t26 hw
  simp -implicitDefEqProofs (disch := omega) only [go_sem, seval, lp12_0, t25, t26]
  refine condC_dec (fun hc => ?_) (fun hc => ?_)
  · have hx := h1 _ (gt_mem8 (show i < m.nums.length from hc))
    have hni := nB_len m i
    have a1 := WCount_ok (B ++ nB m i) (gt m.nums i) (by omega) (by rw [List.length_append]; omega)
    have hl8 : (m.nums.map iI).length = 8 := rfl
    have hcell : (m.nums.map iI)[i]? = some (.int .i64 (gt m.nums i)) := by
      rw [List.getElem?_map, List.getElem?_eq_getElem (show i < m.nums.length from hc), gt_eq (show i < m.nums.length from hc)]
      rfl
    obtain ⟨nl, hnl⟩ : ∃ nl, m.nums.map iI = nl := ⟨_, rfl⟩
    rw [hnl] at hl8 hcell u24
    simp -implicitDefEqProofs (disch := omega) only [go_sem, seval, t0, t24, t26, u24, hcell]
    refine contC_ex (wcall (f := 33) rfl _ _ 0 1 pidP hw (by simp [pidP]) (by simp -implicitDefEqProofs (disch := omega) only [go_sem, seval, go_sem]) a1 (fun k σ' => by simp -implicitDefEqProofs (disch := omega) only [go_sem, seval, go_sem])) ?_
    rintro σ2 ⟨hs2, e2⟩
    simp -implicitDefEqProofs (disch := omega) only [go_sem, seval, t0, t3, t24, t25, t26]
    refine ⟨i + 1, by omega, by omega, by simp -implicitDefEqProofs (disch := omega) only [go_sem, seval, t0], by simp -implicitDefEqProofs (disch := omega) only [go_sem, seval, t3], (e2 256 (by simp) (by simp) (by simp [pidP])).trans (by simp -implicitDefEqProofs (disch := omega) only [go_sem, seval, u3]), by simp -implicitDefEqProofs (disch := omega) only [go_sem, seval, t24], (e2 1600 (by simp) (by simp) (by simp [pidP])).trans (by rw [hnl]; simp -implicitDefEqProofs (disch := omega) only [go_sem, seval, u24]), by simp -implicitDefEqProofs (disch := omega) only [go_sem, seval, t25], by simp -implicitDefEqProofs (disch := omega) only [go_sem, seval, go_sem], ?_⟩
    have e : B ++ nB m (i + 1) = B ++ nB m i ++ cntB (gt m.nums i) := by rw [nB, take_gt (show i < m.nums.length from hc), List.flatMap_append, List.flatMap_singleton, List.append_assoc]; rfl
    rw [e]
    exact hs2.ids (by simp [pidP])
  · obtain rfl : i = 8 := by omega
    have a1 := WBool_ok (B ++ nB m 8) m.y (by rw [List.length_append]; omega)
    rw [boolB_num] at a1
    have a2 := WBool_ok (B ++ nB m 8 ++ boolB m.y) m.d (by simp only [List.length_append, boolB, List.length_singleton]; omega)
    rw [boolB_num] at a2
    have a3 := WCount_ok (B ++ nB m 8 ++ boolB m.y ++ boolB m.d) (l.length : Int) (by omega) (by simp only [List.length_append, boolB, List.length_singleton]; omega)
    rw [Int.toNat_natCast] at a3
    simp -implicitDefEqProofs (disch := omega) only [go_sem, seval, Ms.vk] at u3
    simp -implicitDefEqProofs (disch := omega) only [go_sem, seval, t0, t3, u3]
    refine contC_ex (wcall (f := 34) rfl _ _ 0 1 pidP hw (by simp [pidP]) (by simp -implicitDefEqProofs (disch := omega) only [go_sem, seval, go_sem]) a1 (fun k σ' => by simp -implicitDefEqProofs (disch := omega) only [go_sem, seval, go_sem])) ?_
    rintro σ2 ⟨hs2, e2⟩
    have f2 := (e2 256 (by simp) (by simp) (by simp [pidP])).trans u3
    simp -implicitDefEqProofs (disch := omega) only [go_sem, seval, t0, t3, f2]
    refine contC_ex (wcall (f := 34) rfl _ _ 0 1 _ hs2 (by simp [pidP]) (by simp -implicitDefEqProofs (disch := omega) only [go_sem, seval, go_sem]) a2 (fun k σ' => by simp -implicitDefEqProofs (disch := omega) only [go_sem, seval, go_sem])) ?_
    rintro σ3 ⟨hs3, e3⟩
    have f3 := (e3 256 (by simp) (by simp) (by simp [pidP])).trans f2
    simp -implicitDefEqProofs (disch := omega) only [go_sem, seval, t0, t3, f3]
    refine contC_ex (wcall (f := 33) rfl _ _ 0 1 _ hs3 (by simp [pidP]) (by simp -implicitDefEqProofs (disch := omega) only [go_sem, seval, go_sem]) a3 (fun k σ' => by simp -implicitDefEqProofs (disch := omega) only [go_sem, seval, go_sem])) ?_
    rintro σ4 ⟨hs4, e4⟩
    have f4 := (e4 256 (by simp) (by simp) (by simp [pidP])).trans f3
    simp -implicitDefEqProofs (disch := omega) only [go_sem, seval, t0, t3, f4]
    refine wp_loopS (p2S g3 B m ek l mk) (fun i => l.length - i) 0 ⟨by omega, by simp -implicitDefEqProofs (disch := omega) only [go_sem, seval, t0], by simp -implicitDefEqProofs (disch := omega) only [go_sem, seval, t3], by simp -implicitDefEqProofs (disch := omega) only [go_sem, seval, f4, Ms.vk], by simp -implicitDefEqProofs (disch := omega) only [go_sem, seval, go_sem], by simp -implicitDefEqProofs (disch := omega) only [go_sem, seval, go_sem], by simp -implicitDefEqProofs (disch := omega) only [go_sem, seval, go_sem], ?_⟩ ?_
    · rw [show B ++ nB m 8 ++ boolB m.y ++ boolB m.d ++ numB (UInt64.ofNat l.length) 4 ++ ensB (m.es.take 0) = B ++ nB m 8 ++ boolB m.y ++ boolB m.d ++ numB (UInt64.ofNat l.length) 4 by simp [ensB]]
      exact hs4.ids (by simp [pidP])
    clear hw hs2 hs3 hs4 e2 e3 e4 f2 f3 f4
    rintro i ⟨t, σ⟩ ⟨hi, t0, t3, u3, t48, t49, t50, hw⟩
    simp only at hi t0 t3 u3 t48 t49 t50 hw
    have hpre : (B ++ nB m 8 ++ boolB m.y ++ boolB m.d ++ numB (UInt64.ofNat l.length) 4).length ≤ 1000000100 := by simp only [List.length_append, boolB, List.length_singleton, numB_len]; omega
    generalize hPre : B ++ nB m 8 ++ boolB m.y ++ boolB m.d ++ numB (UInt64.ofNat l.length) 4 = Pre at *
    simp -implicitDefEqProofs (disch := omega) only [go_sem, seval, lp12_1, t49, t50]
    refine condC_dec (fun hc => ?_) (fun hc => ?_)
    · have hr := prow l i hc
      have hei : gt m.es i = (gt l i).1 := by
        rw [gt_eq (by omega), gt_eq hc]
        simp only [hml, List.getElem_map]
      have hok := h3 (gt m.es i) (by rw [gt_eq (show i < m.es.length by omega)]; exact List.getElem_mem (by omega))
      have hel := ensB_len (m.es.take i) fun e he => h3 e (List.mem_of_mem_take he)
      have hlt : (m.es.take i).length = i := by simp; omega
      rw [hlt] at hel
      rw [hei] at hok
      have a1 := PutE_g (Pre ++ ensB (m.es.take i)) (by rw [List.length_append]; omega) (gt l i).2 (gt l i).1 hok
      have esn : Pre ++ ensB (m.es.take (i + 1)) = Pre ++ ensB (m.es.take i) ++ enB (gt l i).1 := by rw [take_gt (show i < m.es.length by omega), ensB_snoc, hei, List.append_assoc]
      generalize gt l i = p at *
      obtain ⟨⟨term, s, conf, mem⟩, k⟩ := p
      simp -implicitDefEqProofs (disch := omega) only [go_sem, seval, pk, En.vk] at hr
      simp only at a1 esn
      simp -implicitDefEqProofs (disch := omega) only [go_sem, seval, t0, t48, t50, hr]
      refine contC_ex (wcall (f := 23) rfl _ _ 0 1 pidP (hw.same (by simp -implicitDefEqProofs (disch := omega) only [go_sem, seval, go_sem]) (by simp [pidP]; simp -implicitDefEqProofs (disch := omega) only [go_sem, seval, go_sem])) (by simp [pidP]) (by simp -implicitDefEqProofs (disch := omega) only [go_sem, seval, En.vk]) a1 (fun k σ' => by simp -implicitDefEqProofs (disch := omega) only [go_sem, seval, go_sem])) ?_
      rintro σ5 ⟨hs5, e5⟩
      simp -implicitDefEqProofs (disch := omega) only [go_sem, seval, t0, t3, t48, t49, t50]
      refine ⟨i + 1, by omega, by omega, by simp -implicitDefEqProofs (disch := omega) only [go_sem, seval, t0], by simp -implicitDefEqProofs (disch := omega) only [go_sem, seval, t3], (e5 256 (by simp) (by simp) (by simp [pidP])).trans (by simp -implicitDefEqProofs (disch := omega) only [go_sem, seval, u3]), by simp -implicitDefEqProofs (disch := omega) only [go_sem, seval, t48], by simp -implicitDefEqProofs (disch := omega) only [go_sem, seval, t49], by simp -implicitDefEqProofs (disch := omega) only [go_sem, seval, go_sem], ?_⟩
      rw [hPre, esn]
      exact hs5.ids (by simp [pidP])
    · obtain rfl : i = l.length := by omega
      rw [take_all (show m.es.length ≤ l.length by omega)] at hw
      have hel := ensB_len m.es h3
      have b1 := WText_ok (Pre ++ ensB m.es) m.pc (by rw [List.length_append]; omega)
      have b2 := WBool_ok (Pre ++ ensB m.es ++ numB (UInt64.ofNat m.pc.length) 4 ++ m.pc) (decide (0 < m.mem.length)) (by simp only [List.length_append, numB_len]; omega)
      rw [boolB_num] at b2
      simp -implicitDefEqProofs (disch := omega) only [go_sem, seval, Ms.vk] at u3
      simp -implicitDefEqProofs (disch := omega) only [go_sem, seval, t0, t3, u3]
      refine contC_ex (wcall (f := 35) rfl _ _ 0 1 pidP hw (by simp [pidP]) (by simp -implicitDefEqProofs (disch := omega) only [go_sem, seval, go_sem]) b1 (fun k σ' => by simp -implicitDefEqProofs (disch := omega) only [go_sem, seval, go_sem])) ?_
      rintro σ5 ⟨hs5, e5⟩
      have f5 := (e5 256 (by simp) (by simp) (by simp [pidP])).trans u3
      simp -implicitDefEqProofs (disch := omega) only [go_sem, seval, t0, t3, f5]
      refine contC_ex (wcall (f := 34) rfl _ _ 0 1 _ hs5 (by simp [pidP]) (by simp -implicitDefEqProofs (disch := omega) only [go_sem, seval, go_sem]) b2 (fun k σ' => by simp -implicitDefEqProofs (disch := omega) only [go_sem, seval, go_sem])) ?_
      rintro σ6 ⟨hs6, e6⟩
      have f6 := (e6 256 (by simp) (by simp) (by simp [pidP])).trans f5
      have hnu : nB m 8 = m.nums.flatMap cntB := rfl
      by_cases hm : m.mem = []
      · have hz : ¬ 0 < m.mem.length := by simp [hm]
        obtain ⟨q, o1, o2, _⟩ := hs6.own (by simp [pidP])
        have ee : Pre ++ ensB m.es ++ numB (UInt64.ofNat m.pc.length) 4 ++ m.pc ++ boolB (decide (0 < m.mem.length)) = B ++ msB m := by
          rw [← hPre, hnu]
          simp only [msB, textB, hm, List.append_assoc, if_true, List.append_nil, hll, List.length_nil, Nat.lt_irrefl, decide_false, not_true]
        rw [ee] at o1
        simp -implicitDefEqProofs (disch := omega) only [go_sem, seval, t0, t3, f6, hz, o1, o2]
      · have hz : 0 < m.mem.length := List.length_pos_iff.2 hm
        have hmb := h5 hm
        have hr := (memb_range hmb).1
        have b3 := PutM_g (Pre ++ ensB m.es ++ numB (UInt64.ofNat m.pc.length) 4 ++ m.pc ++ boolB (decide (0 < m.mem.length))) (by simp only [List.length_append, numB_len, boolB, List.length_singleton]; omega) mk m.mem (fun x hx => by have := hr x hx; omega) (by have := memb_len hmb; omega)
        simp -implicitDefEqProofs (disch := omega) only [go_sem, seval, t0, t3, f6, hz]
        refine contC_ex (wcall (f := 36) rfl _ _ 0 1 _ hs6 (by simp [pidP]) (by simp -implicitDefEqProofs (disch := omega) only [go_sem, seval, go_sem]) b3 (fun k σ' => by simp -implicitDefEqProofs (disch := omega) only [go_sem, seval, go_sem])) ?_
        rintro σ7 ⟨hs7, e7⟩
        obtain ⟨q, o1, o2, _⟩ := hs7.own (by simp [pidP])
        have ee : Pre ++ ensB m.es ++ numB (UInt64.ofNat m.pc.length) 4 ++ m.pc ++ boolB (decide (0 < m.mem.length)) ++ membB m.mem = B ++ msB m := by
          rw [← hPre, hnu]
          simp only [msB, textB, hm, hz, List.append_assoc, if_false, hll, decide_true, not_false_eq_true]
        rw [ee] at o1
        simp -implicitDefEqProofs (disch := omega) only [go_sem, seval, o1, o2]
end Go.Vm.Ytnmcmcgbhlgniaa
