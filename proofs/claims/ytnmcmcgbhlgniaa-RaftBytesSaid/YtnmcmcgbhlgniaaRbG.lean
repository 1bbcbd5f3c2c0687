/- (seval) Messages of replicas as bytes: the law. -/
import Derived.Test.YtnmcmcgbhlgniaaRbE
set_option linter.unusedSectionVars false
set_option linter.unusedSimpArgs false
set_option linter.unusedVariables false
set_option maxHeartbeats 16000000
set_option maxRecDepth 10000
namespace Go.Vm
theorem wp_cut {tbl : Tbl} {a b : IC} {Q : Ex → St → Prop} {s : St} (M : St → Prop) (h1 : wpA tbl a (fun e s' => match e with | .normal => M s' | _ => False) s) (h2 : ∀ s', M s' → wpA tbl b Q s') : wpA tbl (.seq a b) Q s := by
  refine wpA_mono (c := a) (fun e s' h => ?_) h1
  cases e with
  | normal => exact h2 s' h
  | exit i => exact h.elim
  | ret => exact h.elim
end Go.Vm
namespace Go.Vm.Ytnmcmcgbhlgniaa
open Go.Proofs
def msgOf (m : Ms) (ek : SK) (l : List (En × SK)) (mk : SK) : Msg := ⟨m.k, m.f, m.t, m.term, m.ix, m.lt, m.cm, m.y, ek, l.length, rows pk l, m.off, m.pc, m.d, mk, m.mem.length, m.mem.map iI⟩
def m0S (s : List UInt8) (m : Ms) (ek : SK) (l : List (En × SK)) (mk : SK) (s' : St) : Prop := s'.t 1 = .str s ∧ s'.t 2 = .ptr 192 1 0 ∧ s'.σ 192 = ⟨1, .rw, false, m.vk ek l mk⟩
def m1S (s : List UInt8) (m : Ms) (ek : SK) (l : List (En × SK)) (mk : SK) (b : Bool) (s' : St) : Prop := s'.t 1 = .str s ∧ s'.t 2 = .ptr 192 1 0 ∧ s'.σ 192 = ⟨1, .rw, false, m.vk ek l mk⟩ ∧ s'.t 5 = .bool b
def okReg : IC := match ir3.body with | .seq _ (.seq a _) => a | _ => .skip
theorem mayM_all {m : Msg} (h : mayM m = true) : 1 ≤ m.k ∧ m.k ≤ 6 ∧ 0 ≤ m.f ∧ m.f < 16 ∧ 0 ≤ m.t ∧ m.t < 16 ∧ ¬ m.f = m.t ∧ 0 ≤ m.term ∧ m.term ≤ 2147483647 ∧ 0 ≤ m.ix ∧ m.ix ≤ 2147483647 ∧ 0 ≤ m.lt ∧ m.lt ≤ 2147483647 ∧ 0 ≤ m.cm ∧ m.cm ≤ 2147483647 ∧ 0 ≤ m.off ∧ m.off ≤ 2147483647 ∧ m.lt ≤ m.term ∧ m.en ≤ 16 ∧ m.pc.length ≤ 200 := by
  simp only [mayM, Bool.and_eq_true, decide_eq_true_eq, Bool.not_eq_true', decide_eq_false_iff_not] at h
  exact h
theorem ok_region (s : List UInt8) (m : Ms) (ek : SK) (l : List (En × SK)) (mk : SK) (hl : l.length ≤ 140737488355328) (hp : m.pc.length ≤ 140737488355328) {t : Nat → V} {σ : Store} (h : m0S s m ek l mk ⟨t, σ⟩) {a : IC} (ha : a = okReg) : wpA (tabW fns) a (fun e s' => match e with | .normal => m1S s m ek l mk (mayM (msgOf m ek l mk)) s' | _ => False) ⟨t, σ⟩ := by
  subst ha
  have hreg : okReg = okReg := rfl
  obtain ⟨t1, t2, u2⟩ := h
  simp only at t1 t2 u2
  have u2' := u2
  simp -implicitDefEqProofs (disch := omega) only [go_sem, seval, Ms.vk] at u2'
  by_cases a0 : 1 ≤ m.k
  rotate_left
  · have hB : mayM (msgOf m ek l mk) = false := by
      cases hb : mayM (msgOf m ek l mk)
      · rfl
      · have := mayM_all hb
        simp only [msgOf] at this
        omega
    simp -implicitDefEqProofs (disch := omega) only [go_sem, seval, okReg, ir3, a0, t2, u2']
    exact ⟨by simp -implicitDefEqProofs (disch := omega) only [go_sem, seval, t1], by simp -implicitDefEqProofs (disch := omega) only [go_sem, seval, t2], by simp -implicitDefEqProofs (disch := omega) only [go_sem, seval, u2], by rw [hB]; simp -implicitDefEqProofs (disch := omega) only [go_sem, seval, go_sem]⟩
  by_cases a1 : m.k ≤ 6
  rotate_left
  · have hB : mayM (msgOf m ek l mk) = false := by
      cases hb : mayM (msgOf m ek l mk)
      · rfl
      · have := mayM_all hb
        simp only [msgOf] at this
        omega
    simp -implicitDefEqProofs (disch := omega) only [go_sem, seval, okReg, ir3, a0, a1, t2, u2']
    exact ⟨by simp -implicitDefEqProofs (disch := omega) only [go_sem, seval, t1], by simp -implicitDefEqProofs (disch := omega) only [go_sem, seval, t2], by simp -implicitDefEqProofs (disch := omega) only [go_sem, seval, u2], by rw [hB]; simp -implicitDefEqProofs (disch := omega) only [go_sem, seval, go_sem]⟩
  by_cases a2 : 0 ≤ m.f
  rotate_left
  · have hB : mayM (msgOf m ek l mk) = false := by
      cases hb : mayM (msgOf m ek l mk)
      · rfl
      · have := mayM_all hb
        simp only [msgOf] at this
        omega
    simp -implicitDefEqProofs (disch := omega) only [go_sem, seval, okReg, ir3, a0, a1, a2, t2, u2']
    exact ⟨by simp -implicitDefEqProofs (disch := omega) only [go_sem, seval, t1], by simp -implicitDefEqProofs (disch := omega) only [go_sem, seval, t2], by simp -implicitDefEqProofs (disch := omega) only [go_sem, seval, u2], by rw [hB]; simp -implicitDefEqProofs (disch := omega) only [go_sem, seval, go_sem]⟩
  by_cases a3 : m.f < 16
  rotate_left
  · have hB : mayM (msgOf m ek l mk) = false := by
      cases hb : mayM (msgOf m ek l mk)
      · rfl
      · have := mayM_all hb
        simp only [msgOf] at this
        omega
    simp -implicitDefEqProofs (disch := omega) only [go_sem, seval, okReg, ir3, a0, a1, a2, a3, t2, u2']
    exact ⟨by simp -implicitDefEqProofs (disch := omega) only [go_sem, seval, t1], by simp -implicitDefEqProofs (disch := omega) only [go_sem, seval, t2], by simp -implicitDefEqProofs (disch := omega) only [go_sem, seval, u2], by rw [hB]; simp -implicitDefEqProofs (disch := omega) only [go_sem, seval, go_sem]⟩
  by_cases a4 : 0 ≤ m.t
  rotate_left
  · have hB : mayM (msgOf m ek l mk) = false := by
      cases hb : mayM (msgOf m ek l mk)
      · rfl
      · have := mayM_all hb
        simp only [msgOf] at this
        omega
    simp -implicitDefEqProofs (disch := omega) only [go_sem, seval, okReg, ir3, a0, a1, a2, a3, a4, t2, u2']
    exact ⟨by simp -implicitDefEqProofs (disch := omega) only [go_sem, seval, t1], by simp -implicitDefEqProofs (disch := omega) only [go_sem, seval, t2], by simp -implicitDefEqProofs (disch := omega) only [go_sem, seval, u2], by rw [hB]; simp -implicitDefEqProofs (disch := omega) only [go_sem, seval, go_sem]⟩
  by_cases a5 : m.t < 16
  rotate_left
  · have hB : mayM (msgOf m ek l mk) = false := by
      cases hb : mayM (msgOf m ek l mk)
      · rfl
      · have := mayM_all hb
        simp only [msgOf] at this
        omega
    simp -implicitDefEqProofs (disch := omega) only [go_sem, seval, okReg, ir3, a0, a1, a2, a3, a4, a5, t2, u2']
    exact ⟨by simp -implicitDefEqProofs (disch := omega) only [go_sem, seval, t1], by simp -implicitDefEqProofs (disch := omega) only [go_sem, seval, t2], by simp -implicitDefEqProofs (disch := omega) only [go_sem, seval, u2], by rw [hB]; simp -implicitDefEqProofs (disch := omega) only [go_sem, seval, go_sem]⟩
  by_cases a6 : m.f = m.t
  · have hB : mayM (msgOf m ek l mk) = false := by
      cases hb : mayM (msgOf m ek l mk)
      · rfl
      · have := mayM_all hb
        simp only [msgOf] at this
        omega
    simp -implicitDefEqProofs (disch := omega) only [go_sem, seval, okReg, ir3, a0, a1, a2, a3, a4, a5, a6, t2, u2']
    exact ⟨by simp -implicitDefEqProofs (disch := omega) only [go_sem, seval, t1], by simp -implicitDefEqProofs (disch := omega) only [go_sem, seval, t2], by simp -implicitDefEqProofs (disch := omega) only [go_sem, seval, u2], by rw [hB]; simp -implicitDefEqProofs (disch := omega) only [go_sem, seval, go_sem]⟩
  by_cases a7 : 0 ≤ m.term
  rotate_left
  · have hB : mayM (msgOf m ek l mk) = false := by
      cases hb : mayM (msgOf m ek l mk)
      · rfl
      · have := mayM_all hb
        simp only [msgOf] at this
        omega
    simp -implicitDefEqProofs (disch := omega) only [go_sem, seval, okReg, ir3, a0, a1, a2, a3, a4, a5, a6, a7, t2, u2']
    exact ⟨by simp -implicitDefEqProofs (disch := omega) only [go_sem, seval, t1], by simp -implicitDefEqProofs (disch := omega) only [go_sem, seval, t2], by simp -implicitDefEqProofs (disch := omega) only [go_sem, seval, u2], by rw [hB]; simp -implicitDefEqProofs (disch := omega) only [go_sem, seval, go_sem]⟩
  by_cases a8 : m.term < 2147483648
  rotate_left
  · have hB : mayM (msgOf m ek l mk) = false := by
      cases hb : mayM (msgOf m ek l mk)
      · rfl
      · have := mayM_all hb
        simp only [msgOf] at this
        omega
    simp -implicitDefEqProofs (disch := omega) only [go_sem, seval, okReg, ir3, a0, a1, a2, a3, a4, a5, a6, a7, a8, t2, u2']
    exact ⟨by simp -implicitDefEqProofs (disch := omega) only [go_sem, seval, t1], by simp -implicitDefEqProofs (disch := omega) only [go_sem, seval, t2], by simp -implicitDefEqProofs (disch := omega) only [go_sem, seval, u2], by rw [hB]; simp -implicitDefEqProofs (disch := omega) only [go_sem, seval, go_sem]⟩
  by_cases a9 : 0 ≤ m.ix
  rotate_left
  · have hB : mayM (msgOf m ek l mk) = false := by
      cases hb : mayM (msgOf m ek l mk)
      · rfl
      · have := mayM_all hb
        simp only [msgOf] at this
        omega
    simp -implicitDefEqProofs (disch := omega) only [go_sem, seval, okReg, ir3, a0, a1, a2, a3, a4, a5, a6, a7, a8, a9, t2, u2']
    exact ⟨by simp -implicitDefEqProofs (disch := omega) only [go_sem, seval, t1], by simp -implicitDefEqProofs (disch := omega) only [go_sem, seval, t2], by simp -implicitDefEqProofs (disch := omega) only [go_sem, seval, u2], by rw [hB]; simp -implicitDefEqProofs (disch := omega) only [go_sem, seval, go_sem]⟩
  by_cases a10 : m.ix < 2147483648
  rotate_left
  · have hB : mayM (msgOf m ek l mk) = false := by
      cases hb : mayM (msgOf m ek l mk)
      · rfl
      · have := mayM_all hb
        simp only [msgOf] at this
        omega
    simp -implicitDefEqProofs (disch := omega) only [go_sem, seval, okReg, ir3, a0, a1, a2, a3, a4, a5, a6, a7, a8, a9, a10, t2, u2']
    exact ⟨by simp -implicitDefEqProofs (disch := omega) only [go_sem, seval, t1], by simp -implicitDefEqProofs (disch := omega) only [go_sem, seval, t2], by simp -implicitDefEqProofs (disch := omega) only [go_sem, seval, u2], by rw [hB]; simp -implicitDefEqProofs (disch := omega) only [go_sem, seval, go_sem]⟩
  by_cases a11 : 0 ≤ m.lt
  rotate_left
  · have hB : mayM (msgOf m ek l mk) = false := by
      cases hb : mayM (msgOf m ek l mk)
      · rfl
      · have := mayM_all hb
        simp only [msgOf] at this
        omega
    simp -implicitDefEqProofs (disch := omega) only [go_sem, seval, okReg, ir3, a0, a1, a2, a3, a4, a5, a6, a7, a8, a9, a10, a11, t2, u2']
    exact ⟨by simp -implicitDefEqProofs (disch := omega) only [go_sem, seval, t1], by simp -implicitDefEqProofs (disch := omega) only [go_sem, seval, t2], by simp -implicitDefEqProofs (disch := omega) only [go_sem, seval, u2], by rw [hB]; simp -implicitDefEqProofs (disch := omega) only [go_sem, seval, go_sem]⟩
  by_cases a12 : m.lt ≤ m.term
  rotate_left
  · have hB : mayM (msgOf m ek l mk) = false := by
      cases hb : mayM (msgOf m ek l mk)
      · rfl
      · have := mayM_all hb
        simp only [msgOf] at this
        omega
    simp -implicitDefEqProofs (disch := omega) only [go_sem, seval, okReg, ir3, a0, a1, a2, a3, a4, a5, a6, a7, a8, a9, a10, a11, a12, t2, u2']
    exact ⟨by simp -implicitDefEqProofs (disch := omega) only [go_sem, seval, t1], by simp -implicitDefEqProofs (disch := omega) only [go_sem, seval, t2], by simp -implicitDefEqProofs (disch := omega) only [go_sem, seval, u2], by rw [hB]; simp -implicitDefEqProofs (disch := omega) only [go_sem, seval, go_sem]⟩
  by_cases a13 : 0 ≤ m.cm
  rotate_left
  · have hB : mayM (msgOf m ek l mk) = false := by
      cases hb : mayM (msgOf m ek l mk)
      · rfl
      · have := mayM_all hb
        simp only [msgOf] at this
        omega
    simp -implicitDefEqProofs (disch := omega) only [go_sem, seval, okReg, ir3, a0, a1, a2, a3, a4, a5, a6, a7, a8, a9, a10, a11, a12, a13, t2, u2']
    exact ⟨by simp -implicitDefEqProofs (disch := omega) only [go_sem, seval, t1], by simp -implicitDefEqProofs (disch := omega) only [go_sem, seval, t2], by simp -implicitDefEqProofs (disch := omega) only [go_sem, seval, u2], by rw [hB]; simp -implicitDefEqProofs (disch := omega) only [go_sem, seval, go_sem]⟩
  by_cases a14 : m.cm < 2147483648
  rotate_left
  · have hB : mayM (msgOf m ek l mk) = false := by
      cases hb : mayM (msgOf m ek l mk)
      · rfl
      · have := mayM_all hb
        simp only [msgOf] at this
        omega
    simp -implicitDefEqProofs (disch := omega) only [go_sem, seval, okReg, ir3, a0, a1, a2, a3, a4, a5, a6, a7, a8, a9, a10, a11, a12, a13, a14, t2, u2']
    exact ⟨by simp -implicitDefEqProofs (disch := omega) only [go_sem, seval, t1], by simp -implicitDefEqProofs (disch := omega) only [go_sem, seval, t2], by simp -implicitDefEqProofs (disch := omega) only [go_sem, seval, u2], by rw [hB]; simp -implicitDefEqProofs (disch := omega) only [go_sem, seval, go_sem]⟩
  by_cases a15 : 0 ≤ m.off
  rotate_left
  · have hB : mayM (msgOf m ek l mk) = false := by
      cases hb : mayM (msgOf m ek l mk)
      · rfl
      · have := mayM_all hb
        simp only [msgOf] at this
        omega
    simp -implicitDefEqProofs (disch := omega) only [go_sem, seval, okReg, ir3, a0, a1, a2, a3, a4, a5, a6, a7, a8, a9, a10, a11, a12, a13, a14, a15, t2, u2']
    exact ⟨by simp -implicitDefEqProofs (disch := omega) only [go_sem, seval, t1], by simp -implicitDefEqProofs (disch := omega) only [go_sem, seval, t2], by simp -implicitDefEqProofs (disch := omega) only [go_sem, seval, u2], by rw [hB]; simp -implicitDefEqProofs (disch := omega) only [go_sem, seval, go_sem]⟩
  by_cases a16 : m.off < 2147483648
  rotate_left
  · have hB : mayM (msgOf m ek l mk) = false := by
      cases hb : mayM (msgOf m ek l mk)
      · rfl
      · have := mayM_all hb
        simp only [msgOf] at this
        omega
    simp -implicitDefEqProofs (disch := omega) only [go_sem, seval, okReg, ir3, a0, a1, a2, a3, a4, a5, a6, a7, a8, a9, a10, a11, a12, a13, a14, a15, a16, t2, u2']
    exact ⟨by simp -implicitDefEqProofs (disch := omega) only [go_sem, seval, t1], by simp -implicitDefEqProofs (disch := omega) only [go_sem, seval, t2], by simp -implicitDefEqProofs (disch := omega) only [go_sem, seval, u2], by rw [hB]; simp -implicitDefEqProofs (disch := omega) only [go_sem, seval, go_sem]⟩
  by_cases a17 : l.length ≤ 16
  rotate_left
  · have hB : mayM (msgOf m ek l mk) = false := by
      cases hb : mayM (msgOf m ek l mk)
      · rfl
      · have := mayM_all hb
        simp only [msgOf] at this
        omega
    simp -implicitDefEqProofs (disch := omega) only [go_sem, seval, okReg, ir3, a0, a1, a2, a3, a4, a5, a6, a7, a8, a9, a10, a11, a12, a13, a14, a15, a16, a17, t2, u2']
    exact ⟨by simp -implicitDefEqProofs (disch := omega) only [go_sem, seval, t1], by simp -implicitDefEqProofs (disch := omega) only [go_sem, seval, t2], by simp -implicitDefEqProofs (disch := omega) only [go_sem, seval, u2], by rw [hB]; simp -implicitDefEqProofs (disch := omega) only [go_sem, seval, go_sem]⟩
  by_cases a18 : m.pc.length ≤ 200
  rotate_left
  · have hB : mayM (msgOf m ek l mk) = false := by
      cases hb : mayM (msgOf m ek l mk)
      · rfl
      · have := mayM_all hb
        simp only [msgOf] at this
        omega
    simp -implicitDefEqProofs (disch := omega) only [go_sem, seval, okReg, ir3, a0, a1, a2, a3, a4, a5, a6, a7, a8, a9, a10, a11, a12, a13, a14, a15, a16, a17, a18, t2, u2']
    exact ⟨by simp -implicitDefEqProofs (disch := omega) only [go_sem, seval, t1], by simp -implicitDefEqProofs (disch := omega) only [go_sem, seval, t2], by simp -implicitDefEqProofs (disch := omega) only [go_sem, seval, u2], by rw [hB]; simp -implicitDefEqProofs (disch := omega) only [go_sem, seval, go_sem]⟩
  have hB : mayM (msgOf m ek l mk) = true := by
    simp only [mayM, msgOf, Bool.and_eq_true, decide_eq_true_eq, Bool.not_eq_true', decide_eq_false_iff_not]
    repeat' apply And.intro
    all_goals first | omega | exact decide_eq_true (by omega) | simp only [a6, decide_false, Bool.not_false]
  simp -implicitDefEqProofs (disch := omega) only [go_sem, seval, okReg, ir3, a0, a1, a2, a3, a4, a5, a6, a7, a8, a9, a10, a11, a12, a13, a14, a15, a16, a17, a18, t2, u2']
  exact ⟨by simp -implicitDefEqProofs (disch := omega) only [go_sem, seval, t1], by simp -implicitDefEqProofs (disch := omega) only [go_sem, seval, t2], by simp -implicitDefEqProofs (disch := omega) only [go_sem, seval, u2], by rw [hB]; simp -implicitDefEqProofs (disch := omega) only [go_sem, seval, go_sem]⟩
def goodB (e : En) : Bool := decide (0 ≤ e.term) && (decide (e.term < 2147483648) && ((!e.conf || membersB e.mem) && decide (e.s.length < 1000)))
def l0S (s : List UInt8) (m : Ms) (ek : SK) (l : List (En × SK)) (mk : SK) (b : Bool) (i : Nat) (s' : St) : Prop := i ≤ l.length ∧ s'.t 1 = .str s ∧ s'.t 2 = .ptr 192 1 0 ∧ s'.σ 192 = ⟨1, .rw, false, m.vk ek l mk⟩ ∧ s'.t 5 = .bool (b && (m.es.take i).all goodB) ∧ s'.t 6 = .int .i64 (i : Int)
theorem l0_step (s : List UInt8) (m : Ms) (ek : SK) (l : List (En × SK)) (mk : SK) (hml : m.es = l.map (·.1)) (hsm : ∀ e ∈ m.es, e.s.length ≤ 140737488355328 ∧ e.mem.length ≤ 140737488355328) (hl : l.length ≤ 140737488355328) (b : Bool) (Q : Ex → St → Prop) (hQ : ∀ s', m1S s m ek l mk (b && m.es.all goodB) s' → Q (.exit 0) s') (i : Nat) (st : St) (hs : l0S s m ek l mk b i st) : wpA (tabW fns) lp3_0 (nextQ (l0S s m ek l mk b) (fun i => l.length - i) i Q) st := by
  have hll : m.es.length = l.length := by rw [hml, List.length_map]
  have hpl := plen l
  obtain ⟨t, σ⟩ := st
  obtain ⟨hi, t1, t2, u2, t5, t6⟩ := hs
  simp only at hi t1 t2 u2 t5 t6
  have u2' := u2
  simp -implicitDefEqProofs (disch := omega) only [go_sem, seval, Ms.vk] at u2'
  have fin : ∀ s' : St, s'.t 1 = t 1 → s'.t 2 = t 2 → s'.t 5 = .bool (b && m.es.all goodB) → s'.σ = σ → Q (.exit 0) s' := fun s' e1 e2 e5 eσ => hQ s' ⟨e1.trans t1, e2.trans t2, by rw [eσ]; exact u2, e5⟩
  by_cases hc : i < l.length
  · cases hb : (b && (m.es.take i).all goodB)
    · rw [hb] at t5
      have hall : (b && m.es.all goodB) = false := by
        cases b
        · rfl
        · simp only [Bool.true_and] at hb ⊢
          rw [List.all_eq_false] at hb ⊢
          obtain ⟨x, hx, hg⟩ := hb
          exact ⟨x, List.mem_of_mem_take hx, hg⟩
      simp -implicitDefEqProofs (disch := omega) only [go_sem, seval, lp3_0, t2, u2', t5, t6, hc]
      exact fin _ (by simp -implicitDefEqProofs (disch := omega) only [go_sem, seval, go_sem]) (by simp -implicitDefEqProofs (disch := omega) only [go_sem, seval, go_sem]) (by rw [hall]; simp -implicitDefEqProofs (disch := omega) only [go_sem, seval, t5]) rfl
    · rw [hb] at t5
      have hr := prow l i hc
      have hei : gt m.es i = (gt l i).1 := by
        rw [gt_eq (by omega), gt_eq hc]
        simp only [hml, List.getElem_map]
      have hmem := hsm (gt m.es i) (by rw [gt_eq (show i < m.es.length by omega)]; exact List.getElem_mem (by omega))
      have htk : (b && (m.es.take (i + 1)).all goodB) = goodB (gt l i).1 := by
        rw [take_gt (show i < m.es.length by omega), List.all_append, hei]
        rw [Bool.and_eq_true] at hb
        rw [hb.1, hb.2]
        simp
      rw [hei] at hmem
      have rm := RMembers_ok (gt l i).2 (gt l i).1.mem hmem.2
      generalize gt l i = p at *
      obtain ⟨⟨term, es, conf, mem⟩, k⟩ := p
      simp only at hmem rm htk
      simp -implicitDefEqProofs (disch := omega) only [go_sem, seval, pk, En.vk] at hr
      have fin2 : ∀ s' : St, s'.t 1 = t 1 → s'.t 2 = t 2 → s'.t 5 = .bool (goodB ⟨term, es, conf, mem⟩) → s'.t 6 = .int .i64 ((i + 1 : Nat) : Int) → s'.σ 192 = σ 192 → ∃ i', l.length - i' < l.length - i ∧ l0S s m ek l mk b i' s' := fun s' e1 e2 e5 e6 eσ => ⟨i + 1, by omega, by omega, e1.trans t1, e2.trans t2, eσ.trans u2, by rw [htk]; exact e5, e6⟩
      by_cases q1 : 0 ≤ term
      · by_cases q2 : term < 2147483648
        · cases conf with
          | false =>
            by_cases q3 : es.length < 1000
            · simp -implicitDefEqProofs (disch := omega) only [go_sem, seval, lp3_0, t2, u2', t5, t6, hc]
              simp -implicitDefEqProofs (disch := omega) only [go_sem, seval, t2, u2', t6, hr, q1, q2, q3]
              exact fin2 _ (by simp -implicitDefEqProofs (disch := omega) only [go_sem, seval, go_sem]) (by simp -implicitDefEqProofs (disch := omega) only [go_sem, seval, go_sem]) (by simp -implicitDefEqProofs (disch := omega) only [go_sem, seval, goodB, q1, q2, q3]) (by simp -implicitDefEqProofs (disch := omega) only [go_sem, seval, go_sem]) (by simp -implicitDefEqProofs (disch := omega) only [go_sem, seval, go_sem])
            · simp -implicitDefEqProofs (disch := omega) only [go_sem, seval, lp3_0, t2, u2', t5, t6, hc]
              simp -implicitDefEqProofs (disch := omega) only [go_sem, seval, t2, u2', t6, hr, q1, q2, q3]
              exact fin2 _ (by simp -implicitDefEqProofs (disch := omega) only [go_sem, seval, go_sem]) (by simp -implicitDefEqProofs (disch := omega) only [go_sem, seval, go_sem]) (by simp -implicitDefEqProofs (disch := omega) only [go_sem, seval, goodB, q1, q2, q3]) (by simp -implicitDefEqProofs (disch := omega) only [go_sem, seval, go_sem]) (by simp -implicitDefEqProofs (disch := omega) only [go_sem, seval, go_sem])
          | true =>
            cases hm : membersB mem
            · rw [hm] at rm
              simp -implicitDefEqProofs (disch := omega) only [go_sem, seval, lp3_0, t2, u2', t5, t6, hc]
              simp -implicitDefEqProofs (disch := omega) only [go_sem, seval, t2, u2', t6, hr, q1, q2, rm]
              exact fin2 _ (by simp -implicitDefEqProofs (disch := omega) only [go_sem, seval, go_sem]) (by simp -implicitDefEqProofs (disch := omega) only [go_sem, seval, go_sem]) (by simp -implicitDefEqProofs (disch := omega) only [go_sem, seval, goodB, q1, q2, hm]) (by simp -implicitDefEqProofs (disch := omega) only [go_sem, seval, go_sem]) (by simp -implicitDefEqProofs (disch := omega) only [go_sem, seval, go_sem])
            · rw [hm] at rm
              by_cases q3 : es.length < 1000
              · simp -implicitDefEqProofs (disch := omega) only [go_sem, seval, lp3_0, t2, u2', t5, t6, hc]
                simp -implicitDefEqProofs (disch := omega) only [go_sem, seval, t2, u2', t6, hr, q1, q2, q3, rm]
                exact fin2 _ (by simp -implicitDefEqProofs (disch := omega) only [go_sem, seval, go_sem]) (by simp -implicitDefEqProofs (disch := omega) only [go_sem, seval, go_sem]) (by simp -implicitDefEqProofs (disch := omega) only [go_sem, seval, goodB, q1, q2, q3, hm]) (by simp -implicitDefEqProofs (disch := omega) only [go_sem, seval, go_sem]) (by simp -implicitDefEqProofs (disch := omega) only [go_sem, seval, go_sem])
              · simp -implicitDefEqProofs (disch := omega) only [go_sem, seval, lp3_0, t2, u2', t5, t6, hc]
                simp -implicitDefEqProofs (disch := omega) only [go_sem, seval, t2, u2', t6, hr, q1, q2, q3, rm]
                exact fin2 _ (by simp -implicitDefEqProofs (disch := omega) only [go_sem, seval, go_sem]) (by simp -implicitDefEqProofs (disch := omega) only [go_sem, seval, go_sem]) (by simp -implicitDefEqProofs (disch := omega) only [go_sem, seval, goodB, q1, q2, q3, hm]) (by simp -implicitDefEqProofs (disch := omega) only [go_sem, seval, go_sem]) (by simp -implicitDefEqProofs (disch := omega) only [go_sem, seval, go_sem])
        · simp -implicitDefEqProofs (disch := omega) only [go_sem, seval, lp3_0, t2, u2', t5, t6, hc]
          simp -implicitDefEqProofs (disch := omega) only [go_sem, seval, t2, u2', t6, hr, q1, q2]
          exact fin2 _ (by simp -implicitDefEqProofs (disch := omega) only [go_sem, seval, go_sem]) (by simp -implicitDefEqProofs (disch := omega) only [go_sem, seval, go_sem]) (by simp -implicitDefEqProofs (disch := omega) only [go_sem, seval, goodB, q1, q2]) (by simp -implicitDefEqProofs (disch := omega) only [go_sem, seval, go_sem]) (by simp -implicitDefEqProofs (disch := omega) only [go_sem, seval, go_sem])
      · simp -implicitDefEqProofs (disch := omega) only [go_sem, seval, lp3_0, t2, u2', t5, t6, hc]
        simp -implicitDefEqProofs (disch := omega) only [go_sem, seval, t2, u2', t6, hr, q1]
        exact fin2 _ (by simp -implicitDefEqProofs (disch := omega) only [go_sem, seval, go_sem]) (by simp -implicitDefEqProofs (disch := omega) only [go_sem, seval, go_sem]) (by simp -implicitDefEqProofs (disch := omega) only [go_sem, seval, goodB, q1]) (by simp -implicitDefEqProofs (disch := omega) only [go_sem, seval, go_sem]) (by simp -implicitDefEqProofs (disch := omega) only [go_sem, seval, go_sem])
  · obtain rfl : i = l.length := by omega
    rw [take_all (show m.es.length ≤ l.length by omega)] at t5
    simp -implicitDefEqProofs (disch := omega) only [go_sem, seval, lp3_0, t2, u2', t5, t6, hc]
    exact fin _ (by simp -implicitDefEqProofs (disch := omega) only [go_sem, seval, go_sem]) (by simp -implicitDefEqProofs (disch := omega) only [go_sem, seval, go_sem]) (by simp -implicitDefEqProofs (disch := omega) only [go_sem, seval, t5]) rfl
end Go.Vm.Ytnmcmcgbhlgniaa
/- Messages of replicas as bytes: the law. -/
namespace Go.Vm.Ytnmcmcgbhlgniaa
open Go.Proofs
theorem takeMs_bad {r : Rd} (h : ¬ (takeMs r).1.err = 0) : (takeMs r).2 = zeroM := by
  unfold takeMs at h ⊢
  exact if_neg h
theorem goodB_ok {e : En} (h : goodB e = true) : e.okE := by
  unfold goodB at h
  simp only [Bool.and_eq_true, decide_eq_true_eq, Bool.or_eq_true, Bool.not_eq_true'] at h
  obtain ⟨h1, h2, h3, h4⟩ := h
  refine ⟨h1, by omega, fun hc => ?_, by omega⟩
  rcases h3 with h3 | h3
  · rw [hc] at h3; cases h3
  · exact h3
theorem raftBytes_law (s : List UInt8) (m : Ms) (ek : SK) (l : List (En × SK)) (mk : SK) (hml : m.es = l.map (·.1)) (hs : s.length ≤ 140737488355328) (hsm : ∀ e ∈ m.es, e.s.length ≤ 140737488355328 ∧ e.mem.length ≤ 140737488355328) (hl : l.length ≤ 140737488355328) (hp : m.pc.length ≤ 140737488355328) (hmm : m.mem.length ≤ 140737488355328) :
    fnA (tabW fns) [.bor, .bor] ir3 [.agg (m.vk ek l mk), .str s] (fun q => q = (.bool true, [])) := by
  have hll : m.es.length = l.length := by rw [hml, List.length_map]
  have hpl := plen l
  refine fnA_start rfl ?_
  have e : inV [.agg (m.vk ek l mk), .str s] = some ([.agg (m.vk ek l mk), .str s], [], 0) := by simp -implicitDefEqProofs (disch := omega) only [go_sem, seval, Ms.vk]
  rw [e, startA_some]
  refine wp_cut (m0S s m ek l mk) ?_ ?_
  · simp -implicitDefEqProofs (disch := omega) only [go_sem, seval, Ms.vk]
    exact ⟨by simp -implicitDefEqProofs (disch := omega) only [go_sem, seval, go_sem], by simp -implicitDefEqProofs (disch := omega) only [go_sem, seval, go_sem], by simp -implicitDefEqProofs (disch := omega) only [go_sem, seval, Ms.vk]⟩
  rintro ⟨t, σ⟩ h0
  refine wp_cut (m1S s m ek l mk (mayM (msgOf m ek l mk))) (ok_region s m ek l mk hl hp h0 rfl) ?_
  clear h0
  clear t σ
  have ck := Check_ok (msgOf m ek l mk)
  have hokm : mayM (msgOf m ek l mk) = true → (∀ x ∈ m.nums, 0 ≤ x ∧ x ≤ 2147483647) ∧ m.es.length ≤ 16 ∧ m.pc.length ≤ 200 := fun h => by
    have := mayM_all h
    simp only [msgOf] at this
    refine ⟨fun x hx => ?_, by omega, by omega⟩
    simp only [Ms.nums, List.mem_cons, List.not_mem_nil, or_false] at hx
    rcases hx with rfl | rfl | rfl | rfl | rfl | rfl | rfl | rfl <;> omega
  generalize mayM (msgOf m ek l mk) = B at *
  simp -implicitDefEqProofs (disch := omega) only [go_sem, seval, Msg.v, msgOf] at ck
  rintro ⟨t, σ⟩ ⟨t1, t2, u2, t5⟩
  simp only at t1 t2 u2 t5
  have u2' := u2
  simp -implicitDefEqProofs (disch := omega) only [go_sem, seval, Ms.vk] at u2'
  refine wp_cut (m1S s m ek l mk B) ?_ ?_
  · simp -implicitDefEqProofs (disch := omega) only [go_sem, seval, awake_ok, t2, u2', t5, ck]
    exact ⟨by simp -implicitDefEqProofs (disch := omega) only [go_sem, seval, t1], by simp -implicitDefEqProofs (disch := omega) only [go_sem, seval, t2], by simp -implicitDefEqProofs (disch := omega) only [go_sem, seval, u2], by simp -implicitDefEqProofs (disch := omega) only [go_sem, seval, t5]⟩
  clear t1 t2 u2 t5 u2'
  clear t σ
  rintro ⟨t, σ⟩ ⟨t1, t2, u2, t5⟩
  simp only at t1 t2 u2 t5
  refine wp_cut (m1S s m ek l mk (B && m.es.all goodB)) ?_ ?_
  · simp -implicitDefEqProofs (disch := omega) only [go_sem, seval, go_sem]
    refine wp_loopS (l0S s m ek l mk B) (fun i => l.length - i) 0 ⟨by omega, by simp -implicitDefEqProofs (disch := omega) only [go_sem, seval, t1], by simp -implicitDefEqProofs (disch := omega) only [go_sem, seval, t2], by simp -implicitDefEqProofs (disch := omega) only [go_sem, seval, u2], by simp -implicitDefEqProofs (disch := omega) only [go_sem, seval, t5, List.take_zero, List.all_nil, Bool.and_true], by simp -implicitDefEqProofs (disch := omega) only [go_sem, seval, go_sem]⟩ (l0_step s m ek l mk hml hsm hl B _ ?_)
    intro s' h'
    exact h'
  clear t1 t2 u2 t5
  clear t σ
  rintro ⟨t, σ⟩ ⟨t1, t2, u2, t5⟩
  simp only at t1 t2 u2 t5
  have u2' := u2
  simp -implicitDefEqProofs (disch := omega) only [go_sem, seval, Ms.vk] at u2'
  refine wp_cut (fun s' => s'.t 1 = .str s) ?_ ?_
  · have rm := RMembers_ok mk m.mem hmm
    cases hG : (B && m.es.all goodB)
    · rw [hG] at t5
      simp -implicitDefEqProofs (disch := omega) only [go_sem, seval, t2, u2', t5]
      simp -implicitDefEqProofs (disch := omega) only [go_sem, seval, t1]
    · rw [hG] at t5
      rw [Bool.and_eq_true] at hG
      obtain ⟨n1, n2, n3⟩ := hokm hG.1
      have n4 : ∀ e ∈ m.es, e.okE := fun e he => goodB_ok (List.all_eq_true.1 hG.2 e he)
      by_cases hm : m.mem = []
      · have th := there_ok m ⟨n1, n2, n4, n3, fun c => absurd hm c⟩ ek l mk hml
        have hm0 : m.mem.length = 0 := by rw [hm]; rfl
        simp -implicitDefEqProofs (disch := omega) only [go_sem, seval, Ms.vk, hm0] at th
        simp -implicitDefEqProofs (disch := omega) only [go_sem, seval, t2, u2', t5, hm0]
        simp -implicitDefEqProofs (disch := omega) only [go_sem, seval, t2, u2', th, t1]
      · have hm0 : ¬ m.mem.length = 0 := by simpa using hm
        cases hmb : membersB m.mem
        · rw [hmb] at rm
          simp -implicitDefEqProofs (disch := omega) only [go_sem, seval, t2, u2', t5, hm0, rm]
          simp -implicitDefEqProofs (disch := omega) only [go_sem, seval, t1]
        · rw [hmb] at rm
          have th := there_ok m ⟨n1, n2, n4, n3, fun _ => hmb⟩ ek l mk hml
          simp -implicitDefEqProofs (disch := omega) only [go_sem, seval, Ms.vk] at th
          simp -implicitDefEqProofs (disch := omega) only [go_sem, seval, t2, u2', t5, hm0, rm]
          simp -implicitDefEqProofs (disch := omega) only [go_sem, seval, t2, u2', th, t1]
  clear t1 t2 u2 t5 u2' ck
  clear t σ
  rintro ⟨t, σ⟩ t1
  simp only at t1
  have rok : (Rd.mk s 0 0).ok := ⟨by simp, hs⟩
  have nr := NewReader_ok s
  have tk := Take_g ⟨s, 0, 0⟩ rok
  have tok := took_ms rok
  have tbad := takeMs_bad (r := ⟨s, 0, 0⟩)
  have nw := NewWriter_ok
  simp -implicitDefEqProofs (disch := omega) only [go_sem, seval, wrV] at nw
  simp -implicitDefEqProofs (disch := omega) only [go_sem, seval, Rd.v] at nr
  generalize takeMs ⟨s, 0, 0⟩ = q at *
  obtain ⟨⟨qs, qa, qe⟩, k⟩ := q
  simp only at tk tok tbad
  have er := Err_ok ⟨qs, qa, qe⟩
  have at' := At_ok ⟨qs, qa, qe⟩
  simp -implicitDefEqProofs (disch := omega) only [go_sem, seval, Rd.v] at er at' tk
  by_cases he : qe = 0
  · subst he
    obtain ⟨tk1, tk2⟩ := tok
    obtain ⟨_, g2, g3, g4, g5⟩ := tk1 rfl
    obtain ⟨hk, hkn⟩ := tk2 rfl
    simp only at g2 g3 g4 g5
    subst g2
    have hne := msB_ne k
    have hle := msB_le hk
    have htake : qs.take qa = msB k := by simpa using g5
    have al := All_ok (msB k) (by omega)
    have p2 := fun ek' mk' => Put_g [] (by simp) k hk ek' (k.es.map evk) mk' (by simp [evk, Function.comp_def])
    rw [List.nil_append] at p2
    have hul : ((msB k).map u8).length = (msB k).length := List.length_map _
    have ur7 := u8m_ro 6 (msB k)
    have ur6 := u8m_ro 5 (msB k)
    have ur5 := u8m_ro 4 (msB k)
    simp -implicitDefEqProofs (disch := omega) only [go_sem, seval, wrV, hne] at al
    have hml2 : (k.mem.map iI).length = k.mem.length := List.length_map _
    by_cases hes : k.es = []
    · by_cases hm : k.mem = []
      · have p2 := p2 .nil .nil
        simp -implicitDefEqProofs (disch := omega) only [go_sem, seval, wrV, hne, Ms.vk, hm, hes, List.map_nil, List.length_nil, rows_nil] at p2
        simp -implicitDefEqProofs (disch := omega) only [go_sem, seval, outM, entO, memO, hm, hes] at tk
        simp -implicitDefEqProofs (disch := omega) only [go_sem, seval, t1, nr, callr9, tk, ite_self, er]
        simp -implicitDefEqProofs (disch := omega) only [go_sem, seval, nw, callr12, p2, ur7, ur6, ur5, ite_self]
        simp -implicitDefEqProofs (disch := omega) only [go_sem, seval, t1, al, at', htake]
      · have p2 := p2 .nil .ro
        simp -implicitDefEqProofs (disch := omega) only [go_sem, seval, wrV, hne, Ms.vk, hes, List.map_nil, List.length_nil, rows_nil] at p2
        simp -implicitDefEqProofs (disch := omega) only [go_sem, seval, outM, entO, memO, hm, hes] at tk
        simp -implicitDefEqProofs (disch := omega) only [go_sem, seval, t1, nr, callr9, tk, ite_self, er]
        simp -implicitDefEqProofs (disch := omega) only [go_sem, seval, nw, callr12, p2, ur7, ur6, ur5, ite_self]
        simp -implicitDefEqProofs (disch := omega) only [go_sem, seval, t1, al, at', htake]
    · have hel4 := elen4 k.es
      by_cases hm : k.mem = []
      · have p2 := p2 .ro .nil
        simp -implicitDefEqProofs (disch := omega) only [go_sem, seval, wrV, hne, Ms.vk, hm, List.map_nil, List.length_nil] at p2
        simp -implicitDefEqProofs (disch := omega) only [go_sem, seval, outM, entO, memO, hm, hes] at tk
        rw [show rows pk (k.es.map evk) = erows k.es from rfl] at p2
        generalize erows k.es = ers at *
        simp -implicitDefEqProofs (disch := omega) only [go_sem, seval, t1, nr, callr9, tk, ite_self, er]
        simp -implicitDefEqProofs (disch := omega) only [go_sem, seval, nw, callr12, p2, ur7, ur6, ur5, ite_self]
        simp -implicitDefEqProofs (disch := omega) only [go_sem, seval, t1, al, at', htake]
      · have p2 := p2 .ro .ro
        simp -implicitDefEqProofs (disch := omega) only [go_sem, seval, wrV, hne, Ms.vk] at p2
        simp -implicitDefEqProofs (disch := omega) only [go_sem, seval, outM, entO, memO, hm, hes] at tk
        rw [show rows pk (k.es.map evk) = erows k.es from rfl] at p2
        generalize erows k.es = ers at *
        simp -implicitDefEqProofs (disch := omega) only [go_sem, seval, t1, nr, callr9, tk, ite_self, er]
        simp -implicitDefEqProofs (disch := omega) only [go_sem, seval, nw, callr12, p2, ur7, ur6, ur5, ite_self]
        simp -implicitDefEqProofs (disch := omega) only [go_sem, seval, t1, al, at', htake]
  · have hz := tbad he
    subst hz
    simp -implicitDefEqProofs (disch := omega) only [go_sem, seval, outM, zeroM, entO, memO] at tk
    simp -implicitDefEqProofs (disch := omega) only [go_sem, seval, t1, nr, callr9, tk, er, he]
theorem tMsg : tysOf Try.prog 25 = some [3, 3, 3, 3, 3, 3, 3, 4, 22, 3, 9, 4, 23] := by kernel_rfl
theorem tLE : tysOf Try.prog 29 = some [3, 9, 4, 23] := by kernel_rfl
theorem uBool : Try.prog.underlying 4 = some .bool := by kernel_rfl
theorem uLog : Try.prog.underlying 22 = some (.slice 29) := by kernel_rfl
theorem uInts : Try.prog.underlying 23 = some (.slice 3) := by kernel_rfl
theorem bInt : Try.prog.bytesOf 3 = 8 := by kernel_rfl
theorem bLE : Try.prog.bytesOf 29 = 56 := by kernel_rfl
theorem fit_ints {d : Nat} {r : List V} (h : Fits Try.prog (d + 2) 23 r) : ∃ (k : SK) (l : List Int), r = [.sl k l.length (l.map iI)] ∧ l.length ≤ 140737488355328 := by
  obtain ⟨k, m, rfl, hk, hk2, hb, _⟩ := fits_slice iI (fun _ => True) uInts (fun r hr => by obtain ⟨n, rfl, _⟩ := fits_int uInt hr; exact ⟨n, rfl, trivial⟩) h
  rw [bInt] at hb
  have := reach_lt
  exact ⟨k, m, rfl, by omega⟩
def smallP (p : En × SK) : Prop := p.1.s.length ≤ 140737488355328 ∧ p.1.mem.length ≤ 140737488355328
theorem fit_ent {d : Nat} {r : List V} (h : Fits Try.prog (d + 3) 29 r) : ∃ p : En × SK, r = pk p ∧ smallP p := by
  have := reach_lt
  obtain ⟨a1, b1, rfl, h1, a2, b2, rfl, h2, a3, b3, rfl, h3, a4, b4, rfl, h4, rfl⟩ := fits_struct tLE h
  obtain ⟨x1, rfl, _⟩ := fits_int uInt h1
  obtain ⟨x2, rfl, hx2⟩ := fits_str uStr h2
  obtain ⟨x3, rfl⟩ := fits_bool uBool h3
  obtain ⟨k, m, rfl, hl⟩ := fit_ints h4
  exact ⟨(⟨x1, x2, x3, m⟩, k), rfl, by show x2.length ≤ _; omega, hl⟩
theorem raftBytes_main (xs : List V) (h : FitsA Try.prog 8 [25, 9] xs) : fnA (tabW fns) ([25, 9].map fun _ => Mode.bor) ir3 xs (fun p => p = (.bool true, [])) := by
  have := reach_lt
  obtain ⟨x, ys, rfl, h1, h⟩ := fitsA_s h
  obtain ⟨y, zs, rfl, h2, h⟩ := fitsA_s h
  obtain rfl := fitsA_0 h
  obtain ⟨v1, rfl, g1⟩ := fit_struct (d := 7) tMsg h1
  obtain ⟨s, rfl, hs⟩ := fit_str (d := 7) uStr h2
  obtain ⟨a1, b1, rfl, f1, a2, b2, rfl, f2, a3, b3, rfl, f3, a4, b4, rfl, f4, a5, b5, rfl, f5, a6, b6, rfl, f6, a7, b7, rfl, f7, a8, b8, rfl, f8, a9, b9, rfl, f9, a10, b10, rfl, f10, a11, b11, rfl, f11, a12, b12, rfl, f12, a13, b13, rfl, f13, rfl⟩ := g1
  obtain ⟨x1, rfl, _⟩ := fits_int uInt f1
  obtain ⟨x2, rfl, _⟩ := fits_int uInt f2
  obtain ⟨x3, rfl, _⟩ := fits_int uInt f3
  obtain ⟨x4, rfl, _⟩ := fits_int uInt f4
  obtain ⟨x5, rfl, _⟩ := fits_int uInt f5
  obtain ⟨x6, rfl, _⟩ := fits_int uInt f6
  obtain ⟨x7, rfl, _⟩ := fits_int uInt f7
  obtain ⟨x8, rfl⟩ := fits_bool uBool f8
  obtain ⟨ek, l, rfl, _, _, hb, ho⟩ := fits_slice_rows pk smallP uLog (fun r hr => fit_ent hr) f9
  rw [bLE] at hb
  obtain ⟨x10, rfl, _⟩ := fits_int uInt f10
  obtain ⟨pc, rfl, hpc⟩ := fits_str uStr f11
  obtain ⟨x12, rfl⟩ := fits_bool uBool f12
  obtain ⟨mk, mem, rfl, hmem⟩ := fit_ints f13
  refine raftBytes_law s ⟨x1, x2, x3, x4, x5, x6, x7, x10, x8, x12, l.map (·.1), pc, mem⟩ ek l mk rfl (by omega) (fun e he => ?_) (by omega) (by show pc.length ≤ _; omega) hmem
  obtain ⟨p, hp, rfl⟩ := List.mem_map.1 he
  exact ho p hp
end Go.Vm.Ytnmcmcgbhlgniaa
