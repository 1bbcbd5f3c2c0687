/- A nil net: the law, out of the walk. -/
import Derived.Test.YtcnnlnpebpakjaaNetB
import Derived.Test.YtcnnlnpebpakjaaNetW
import Derived.Test.YtcnnlnpebpakjaaVmFit
set_option linter.unusedSectionVars false
set_option linter.unusedSimpArgs false
set_option linter.unusedVariables false
set_option maxHeartbeats 2000000
set_option maxRecDepth 10000
namespace Go.Vm.Ytcnnlnpebpakjaa
open Go.Proofs
theorem awake_calls (w : World) : Calls Try.prog 6 #[] w fun e W' => e = .returned (.bool true) ∧ RowKit.Below w.heap.size w W' := by
  have hG := awake_ok
  unfold Gf at hG
  cases hE : tabW fns 6 with
  | none => rw [hE] at hG; cases hG
  | some E =>
    rw [hE, Option.bind_some] at hG
    have hm : E.modes.length = 0 := by
      have : tabW fns 6 = some (entOf (Fw fns) (Hw fns) (some [], ir6)) := rfl
      rw [this] at hE
      cases hE
      rfl
    have := (T_ok _ E hE).1.2 w (fun b => w.heap[b]?) [] [] [] (.bool true) [] hG BL.nil List.nodup_nil (by simp) (fun _ _ h => h) (by simp [hm])
    refine this.mono fun e w' ha => ?_
    obtain ⟨c, pin', o, oss', rfl, _, _, _, hFr, hB', _, _, _⟩ := ha
    refine ⟨?_, ⟨hFr.os, hFr.tape, hFr.output, hFr.size, fun k hk => hFr.block k hk (by simp)⟩⟩
    cases hB' with
    | flat _ _ _ hr => cases hr; rfl
theorem arr5 {arr : Array Value} {a b c d : Int} {v : Value} (hl : arr.size = 5) (h0 : arr[0]? = some (.int .i64 a)) (h1 : arr[1]? = some (.int .i64 b)) (h2 : arr[2]? = some (.int .i64 c)) (h3 : arr[3]? = some (.int .i64 d)) (h4 : arr[4]? = some v) : arr = #[.int .i64 a, .int .i64 b, .int .i64 c, .int .i64 d, v] := by
  apply Array.ext_getElem?
  intro j
  match j with
  | 0 => exact h0
  | 1 => exact h1
  | 2 => exact h2
  | 3 => exact h3
  | 4 => exact h4
  | j + 5 => rw [Array.getElem?_eq_none (by omega), Array.getElem?_eq_none (by simp)]
theorem tAct : tysOf Try.prog 40 = some [3, 3, 3, 3, 22] := by kernel_rfl
theorem uIntN : Try.prog.underlying 3 = some (.int .i64) := by kernel_rfl
theorem agg5 {pin : Pin} {w : World} {x1 x2 x3 x4 : Int} {s : V} {c : Value} {o : List Nat} (h : B pin w (.agg [.int .i64 x1, .int .i64 x2, .int .i64 x3, .int .i64 x4, s]) c o) : ∃ v, c = .agg #[.int .i64 x1, .int .i64 x2, .int .i64 x3, .int .i64 x4, v] := by
  cases h with
  | flat _ _ hn hr =>
    cases hr with
    | agg cs arr hl h1 h =>
      have hl : arr.size = 5 := hl.symm
      have get : ∀ j, j < 5 → ∃ c, arr[j]? = some c := fun j hj => ⟨arr[j], by simp⟩
      obtain ⟨y0, e0⟩ := get 0 (by omega)
      obtain ⟨y1, e1⟩ := get 1 (by omega)
      obtain ⟨y2, e2⟩ := get 2 (by omega)
      obtain ⟨y3, e3⟩ := get 3 (by omega)
      obtain ⟨y4, e4⟩ := get 4 (by omega)
      have r0 := h 0 _ _ rfl e0
      have r1 := h 1 _ _ rfl e1
      have r2 := h 2 _ _ rfl e2
      have r3 := h 3 _ _ rfl e3
      cases r0
      cases r1
      cases r2
      cases r3
      exact ⟨y4, by rw [arr5 hl e0 e1 e2 e3 e4]⟩
  | agg cs arr os hl ho h1 h =>
    have hl : arr.size = 5 := hl.symm
    have ho : os.length = 5 := ho
    have get : ∀ j, j < 5 → ∃ c, arr[j]? = some c := fun j hj => ⟨arr[j], by simp⟩
    have geto : ∀ j, j < 5 → ∃ c, os[j]? = some c := fun j hj => ⟨os[j], by simp⟩
    have int : ∀ j x, j < 5 → ([.int .i64 x1, .int .i64 x2, .int .i64 x3, .int .i64 x4, s] : List V)[j]? = some (.int .i64 x) → arr[j]? = some (.int .i64 x) := by
      intro j x hj hx
      obtain ⟨y, e⟩ := get j hj
      obtain ⟨z, eo⟩ := geto j hj
      have r := h j _ _ _ hx e eo
      cases r with
      | flat _ _ _ hr => cases hr; exact e
    obtain ⟨y4, e4⟩ := get 4 (by omega)
    exact ⟨y4, by rw [arr5 hl (int 0 x1 (by omega) rfl) (int 1 x2 (by omega) rfl) (int 2 x3 (by omega) rfl) (int 3 x4 (by omega) rfl) e4]⟩
theorem nil_calls {H : Type} {enc : TypeId × Value → H} {w : World} {base b : Nat} {spare : Nat → Bool} {held : Bool} {vals : Array Value} {ds : List (DataW H)} {ps : List MemPlace}
    (hp : ∀ t ∈ ([40] : List TypeId), plainT Try.prog 8 t = true)
    (hv : ∀ (j : Nat) t v, ([40] : List TypeId)[j]? = some t → vals[j]? = some v → Value.okWide Try.prog w .any b t v)
    (h : DataW.TrodAll enc Try.prog w base spare held [40] vals.toList ds ps) (hw : ∀ n ∈ DataW.weightsEach Try.prog [40] ds, n ≤ reachBytes) :
    Calls Try.prog 5 vals w (fun e w' => e = .returned (.bool true) ∧ RowKit.Below w.heap.size w w') := by
  obtain ⟨xs, oss, hB, hF, ho, hxl⟩ := args_stand laid hp (fun j t v h1 h2 => hv j t v h1 (by simpa using h2)) h hw
  obtain ⟨x, ys, rfl, h1, hF⟩ := fitsA_s hF
  obtain rfl := fitsA_0 hF
  obtain ⟨vs, rfl, g1⟩ := fit_struct (d := 7) tAct h1
  obtain ⟨a1, b1, rfl, f1, a2, b2, rfl, f2, a3, b3, rfl, f3, a4, b4, rfl, f4, a5, b5, rfl, f5, rfl⟩ := g1
  obtain ⟨x1, rfl, _⟩ := fits_int uIntN f1
  obtain ⟨x2, rfl, _⟩ := fits_int uIntN f2
  obtain ⟨x3, rfl, _⟩ := fits_int uIntN f3
  obtain ⟨x4, rfl, _⟩ := fits_int uIntN f4
  obtain ⟨k, l, rfl, _⟩ := fits_slice_rows (fun r : List V => r) (fun _ => True) (by kernel_rfl : Try.prog.underlying 22 = some (.slice 29)) (fun r _ => ⟨r, rfl, trivial⟩) f5
  obtain ⟨c, vals', o, os', hvl, _, hB1, hB2⟩ := hB.inv
  have hv0 : vals' = [] := List.length_eq_zero_iff.1 (by simpa using hB2.len.symm)
  subst hv0
  obtain ⟨v, rfl⟩ := agg5 hB1
  obtain rfl : vals = #[.agg #[.int .i64 x1, .int .i64 x2, .int .i64 x3, .int .i64 x4, v]] := by
    have := congrArg List.toArray hvl
    simpa using this
  exact NetW.nil_in awake_calls x1 x2 x3 x4 v w
end Go.Vm.Ytcnnlnpebpakjaa
