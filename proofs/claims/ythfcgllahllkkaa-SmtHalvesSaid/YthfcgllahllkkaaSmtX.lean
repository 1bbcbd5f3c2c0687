/- Sparse trees: SmtDigests, out of the walk and the machine. -/
import Derived.Test.YthfcgllahllkkaaSmtB
import Derived.Test.YthfcgllahllkkaaSmtW
import Derived.Test.YthfcgllahllkkaaSmtY
import Derived.Test.YthfcgllahllkkaaSmtZ
import Derived.Test.YthfcgllahllkkaaVmFit
set_option linter.unusedSectionVars false
set_option linter.unusedSimpArgs false
set_option linter.unusedVariables false
set_option maxHeartbeats 4000000
set_option maxRecDepth 10000
namespace Go.Vm
def bl (s : ByteArray) : List UInt8 := s.data.toList
def lb (l : List UInt8) : ByteArray := ⟨l.toArray⟩
theorem bl_lb (l : List UInt8) : bl (lb l) = l := rfl
theorem lb_bl (s : ByteArray) : lb (bl s) = s := by cases s; rfl
theorem lb_inj {a b : List UInt8} (h : lb a = lb b) : a = b := by have := congrArg bl h; simpa [bl_lb] using this
end Go.Vm
namespace Go.Vm.Ythfcgllahllkkaa
open Go.Proofs
/-- A call, out of the machine. -/
theorem after_of {f : Nat} {xs : List V} {vals : List Value} {os : List (List Nat)} {r : V} {ios : List V} {ms : List Mode} {F : IFun} (hG : Gf fns f xs = some (r, ios)) (ht : tabW fns f = some (entOf (Fw fns) (Hw fns) (some ms, F))) (w : World) (pin : Pin)
    (hB : BL pin w xs vals os) (hnd : os.flatten.Nodup) (hfree : ∀ b ∈ os.flatten, pin b = none) (hpin : ∀ b o, pin b = some o → w.heap[b]? = some o) (hl : xs.length = ms.length) :
    Calls Try.prog f vals.toArray w (After w pin os.flatten ms vals r ios) := by
  unfold Gf at hG
  rw [ht, Option.bind_some] at hG
  exact (T_ok _ _ ht).1.2 w pin xs vals os r ios hG hB hnd hfree hpin hl
theorem below_of {w W : World} {n : Nat} {own : List Nat} (h : Fr w W (· ∈ own)) (ho : ∀ b ∈ own, n ≤ b) (hn : n ≤ w.heap.size) : RowKit.Below n w W :=
  ⟨h.os, h.tape, h.output, h.size, fun k hk => h.block k (by omega) (fun c => by have := ho k c; omega)⟩
/-- One that owns nothing. -/
theorem con_of {f : Nat} {xs : List V} {vals : List Value} {r : V} {c : Value} {ms : List Mode} {F : IFun} (hG : Gf fns f xs = some (r, [])) (ht : tabW fns f = some (entOf (Fw fns) (Hw fns) (some ms, F))) (hl : xs.length = ms.length) (w : World) (pin : Pin) (hpin : ∀ b o, pin b = some o → w.heap[b]? = some o)
    (hB : ∃ os, BL pin w xs vals os ∧ os.flatten = []) (hr : ∀ pin W c' o, B pin W r c' o → c' = c) : Calls Try.prog f vals.toArray w fun e W' => e = .returned c ∧ RowKit.Below w.heap.size w W' := by
  obtain ⟨os, hB, ho⟩ := hB
  refine (after_of hG ht w pin hB (by rw [ho]; exact List.nodup_nil) (by rw [ho]; simp) hpin hl).mono ?_
  rintro e W' ⟨c', pin', o, oss, rfl, _, _, _, hF, hB', _, _, _⟩
  exact ⟨by rw [hr _ _ _ _ hB'], below_of hF (by rw [ho]; simp) (Nat.le_refl _)⟩
theorem bstr {pin : Pin} {w : World} (s : ByteArray) : B pin w (.str (bl s)) (.string s) [] := .flat _ _ (.str _) (by cases s; exact .str _)
theorem bstrL {pin : Pin} {w : World} (l : List UInt8) : B pin w (.str l) (.string (lb l)) [] := .flat _ _ (.str _) (.str _)
theorem bbool {pin : Pin} {w : World} (b : Bool) : B pin w (.bool b) (.bool b) [] := .flat _ _ (.bool _) (.bool _)
theorem bint {pin : Pin} {w : World} (k : IntKind) (n : Int) : B pin w (.int k n) (.int k n) [] := .flat _ _ (.int _ _) (.int _ _)
theorem bagg2 {pin : Pin} {w : World} (a b : List UInt8) : B pin w (.agg [.str a, .str b]) (.agg #[.string (lb a), .string (lb b)]) [] := by
  refine .flat _ _ (.agg _ (by intro v hv; simp only [List.mem_cons, List.not_mem_nil, or_false] at hv; rcases hv with rfl | rfl <;> exact .str _)) (.agg _ _ rfl (by intro v hv; simp only [List.mem_cons, List.not_mem_nil, or_false] at hv; rcases hv with rfl | rfl <;> rfl) ?_)
  intro j v c h1 h2
  match j with
  | 0 => cases h1; cases h2; exact .str _
  | 1 => cases h1; cases h2; exact .str _
  | j + 2 => simp at h1
theorem rstr {l : List UInt8} : ∀ (pin : Pin) (W : World) c' o, B pin W (.str l) c' o → c' = .string (lb l) := by
  intro pin W c' o h
  cases h with
  | flat _ _ _ hr => cases hr; rfl
theorem rbool {b : Bool} : ∀ (pin : Pin) (W : World) c' o, B pin W (.bool b) c' o → c' = .bool b := by
  intro pin W c' o h
  cases h with
  | flat _ _ _ hr => cases hr; rfl
theorem rint {k : IntKind} {n : Int} : ∀ (pin : Pin) (W : World) c' o, B pin W (.int k n) c' o → c' = .int k n := by
  intro pin W c' o h
  cases h with
  | flat _ _ _ hr => cases hr; rfl
theorem arr2 {arr : Array Value} {a b : Value} (hl : arr.size = 2) (h0 : arr[0]? = some a) (h1 : arr[1]? = some b) : arr = #[a, b] := by
  apply Array.ext_getElem?
  intro j
  match j with
  | 0 => exact h0
  | 1 => exact h1
  | j + 2 => rw [Array.getElem?_eq_none (by omega), Array.getElem?_eq_none (by simp)]
theorem ragg2 {x y : List UInt8} : ∀ (pin : Pin) (W : World) c' o, B pin W (.agg [.str x, .str y]) c' o → c' = .agg #[.string (lb x), .string (lb y)] := by
  intro pin W c' o h
  cases h with
  | flat _ _ _ hr =>
    cases hr with
    | agg cs arr hl h1 h =>
      have hl : arr.size = 2 := hl.symm
      obtain ⟨y0, e0⟩ : ∃ c, arr[0]? = some c := ⟨arr[0], by simp⟩
      obtain ⟨y1, e1⟩ : ∃ c, arr[1]? = some c := ⟨arr[1], by simp⟩
      have r0 := h 0 _ _ rfl e0
      have r1 := h 1 _ _ rfl e1
      cases r0
      cases r1
      rw [arr2 hl e0 e1]
      rfl
  | agg cs arr os hl ho h1 h =>
    have hl : arr.size = 2 := hl.symm
    have ho : os.length = 2 := ho
    obtain ⟨y0, e0⟩ : ∃ c, arr[0]? = some c := ⟨arr[0], by simp⟩
    obtain ⟨y1, e1⟩ : ∃ c, arr[1]? = some c := ⟨arr[1], by simp⟩
    have r0 := rstr _ _ _ _ (h 0 _ _ _ rfl e0 (List.getElem?_eq_getElem (by omega)))
    have r1 := rstr _ _ _ _ (h 1 _ _ _ rfl e1 (List.getElem?_eq_getElem (by omega)))
    subst r0
    subst r1
    rw [arr2 hl e0 e1]
/-- A tree with one leaf, at a border. -/
theorem tree_of {pin : Pin} {w : World} {p v h : List UInt8} {c : Value} {o : List Nat} (hB : B pin w (.opt [.opt [.nilp, .nilp, .opt [.str p, .str v], .str h], .int .i64 1]) c o) : ∃ b o' bn on bl' ol, c = .pointer (some ⟨b, o', none⟩) ∧ SmtZ.Tree (lb h) (lb p) (lb v) w b o' bn on bl' ol := by
  cases hB with
  | flat _ _ hn _ => cases hn
  | opt cs b base arr el fz os hrow hu hfit ho h1 h =>
    simp only [List.length_cons, List.length_nil] at hfit ho
    obtain ⟨y0, e0⟩ : ∃ c, arr[base + 0]? = some c := ⟨arr[base + 0], by simp⟩
    obtain ⟨y1, e1⟩ : ∃ c, arr[base + 1]? = some c := ⟨arr[base + 1], by simp⟩
    obtain ⟨o0, eo0⟩ : ∃ c, os[0]? = some c := ⟨os[0], by simp⟩
    have r0 := h 0 _ _ _ rfl e0 eo0
    have r1 := rint _ _ _ _ (h 1 _ _ _ rfl e1 (List.getElem?_eq_getElem (by omega)))
    subst r1
    cases r0 with
    | flat _ _ hn _ => cases hn
    | opt cs bn on arr2 el2 fz2 os2 hrow2 hu2 hfit2 ho2 h12 hh2 =>
      simp only [List.length_cons, List.length_nil] at hfit2 ho2
      obtain ⟨z0, g0⟩ : ∃ c, arr2[on + 0]? = some c := ⟨arr2[on + 0], by simp⟩
      obtain ⟨z1, g1⟩ : ∃ c, arr2[on + 1]? = some c := ⟨arr2[on + 1], by simp⟩
      obtain ⟨z2, g2⟩ : ∃ c, arr2[on + 2]? = some c := ⟨arr2[on + 2], by simp⟩
      obtain ⟨z3, g3⟩ : ∃ c, arr2[on + 3]? = some c := ⟨arr2[on + 3], by simp⟩
      obtain ⟨u0, v0⟩ : ∃ c, os2[0]? = some c := ⟨os2[0], by simp⟩
      obtain ⟨u1, v1⟩ : ∃ c, os2[1]? = some c := ⟨os2[1], by simp⟩
      obtain ⟨u2, v2⟩ : ∃ c, os2[2]? = some c := ⟨os2[2], by simp⟩
      have q0 := hh2 0 _ _ _ rfl g0 v0
      have q1 := hh2 1 _ _ _ rfl g1 v1
      have q2 := hh2 2 _ _ _ rfl g2 v2
      have q3 := rstr _ _ _ _ (hh2 3 _ _ _ rfl g3 (List.getElem?_eq_getElem (by omega)))
      subst q3
      obtain rfl : z0 = .pointer none := by cases q0 with | flat _ _ _ hr => cases hr; rfl
      obtain rfl : z1 = .pointer none := by cases q1 with | flat _ _ _ hr => cases hr; rfl
      cases q2 with
      | flat _ _ hn _ => cases hn
      | opt cs bl' ol arr3 el3 fz3 os3 hrow3 hu3 hfit3 ho3 h13 hh3 =>
        simp only [List.length_cons, List.length_nil] at hfit3 ho3
        obtain ⟨x0, f0⟩ : ∃ c, arr3[ol + 0]? = some c := ⟨arr3[ol + 0], by simp⟩
        obtain ⟨x1, f1⟩ : ∃ c, arr3[ol + 1]? = some c := ⟨arr3[ol + 1], by simp⟩
        have s0 := rstr _ _ _ _ (hh3 0 _ _ _ rfl f0 (List.getElem?_eq_getElem (by omega)))
        have s1 := rstr _ _ _ _ (hh3 1 _ _ _ rfl f1 (List.getElem?_eq_getElem (by omega)))
        subst s0
        subst s1
        have cell : ∀ {b off : Nat} {a : Array Value} {e : TypeId} {f : Nat × Nat} {x : Value}, w.heap[b]? = some (.cells a e f) → a[off]? = some x → w.cell? ⟨b, off, none⟩ = some x := by
          intro b off a e f x h1 h2
          unfold World.cell?
          simp only [h1]
          exact h2
        have lt : ∀ {b : Nat} {x : Obj}, w.heap[b]? = some x → b < w.heap.size := fun hx => by
          obtain ⟨hh, _⟩ := Array.getElem?_eq_some_iff.1 hx
          exact hh
        exact ⟨b, base, bn, on, bl', ol, rfl, cell hrow e0, cell hrow e1, cell hrow2 g0, cell hrow2 g1, cell hrow2 g2, cell hrow2 g3, cell hrow3 f0, cell hrow3 f1, lt hrow, lt hrow2, lt hrow3⟩
end Go.Vm.Ythfcgllahllkkaa
