/- munimentlaw13.ConfLatest: the law, out of the machine over values. -/
import Derived.Test.YtjpbkodooglapaaRows
import Derived.Test.YtjpbkodooglapaaTConfLatest
import Derived.WalkKit
import Derived.ProofKit
import Derived.OpenShut
import Derived.ShutString
import Derived.ChangeOld
import Derived.Below
import Derived.SizedLaws
set_option linter.unusedSectionVars false
set_option linter.unusedSimpArgs false
set_option linter.unusedVariables false
namespace Go.Vm.Ytjpbkodooglapaa
open Go.Proofs
theorem rows_of {α : Type} {f : α → List V} {p : α → Prop} : ∀ {rows : List (List V)}, (∀ r ∈ rows, ∃ e, r = f e ∧ p e) → ∃ es : List α, rows = es.map f ∧ ∀ e ∈ es, p e
  | [], _ => ⟨[], rfl, by simp⟩
  | r :: rows, h => by
    obtain ⟨e, rfl, h1⟩ := h r (by simp)
    obtain ⟨es, rfl, h2⟩ := rows_of fun r hr => h r (List.mem_cons_of_mem _ hr)
    exact ⟨e :: es, rfl, fun x hx => (List.mem_cons.1 hx).elim (fun h => by rw [h]; exact h1) (fun h => h2 x h)⟩
theorem u3 : Try.prog.underlying 3 = some (.int .i64) := by kernel_rfl
theorem u4 : Try.prog.underlying 4 = some .bool := by kernel_rfl
theorem u9 : Try.prog.underlying 9 = some .string := by kernel_rfl
theorem u22 : Try.prog.underlying 22 = some (.slice 3) := by kernel_rfl
theorem u45 : Try.prog.underlying 45 = some (.slice 47) := by kernel_rfl
theorem u47 : ∃ fs, Try.prog.underlying 47 = some (.struct fs) ∧ fs.toList.map (·.type) = [3, 9, 4, 22] := by
  have h : (match Try.prog.underlying 47 with
    | some (.struct fs) => fs.toList.map (·.type)
    | _ => []) = [3, 9, 4, 22] := by kernel_rfl
  generalize Try.prog.underlying 47 = q at h ⊢
  split at h
  · rename_i fs; exact ⟨fs, rfl, h⟩
  · cases h
theorem flat_one (l : List Int) : (l.map fun n => [V.int .i64 n]).flatten = ints l := by
  induction l with
  | nil => rfl
  | cons n l ih => rw [List.map_cons, List.flatten_cons, ih]; rfl
theorem b3 : Try.prog.bytesOf 3 = 8 := by kernel_rfl
set_option maxRecDepth 100000 in
theorem fit_ints {d : Nat} {a : List V} (h : Fits Try.prog (d + 2) 22 a) : ∃ k l, a = [.sl k l.length (ints l)] ∧ l.length ≤ 17592186044416 ∧ (k = .nil → l = []) := by
  simp only [Fits, u22, u3, b3] at h
  rcases h with rfl | ⟨rows, rfl, hb, hr⟩
  · exact ⟨.nil, [], rfl, by simp, fun _ => rfl⟩
  · obtain ⟨l, rfl, _⟩ := rows_of (f := fun n => [V.int .i64 n]) (p := fun _ => True) fun r h => by
      obtain ⟨_, n, rfl, _⟩ := hr r h
      exact ⟨n, rfl, trivial⟩
    refine ⟨.ro, l, ?_, ?_, fun h => by cases h⟩
    · rw [flat_one]; simp
    · have := reachBytes_lt
      simp at hb
      omega
set_option maxRecDepth 100000 in
theorem fit_en {d : Nat} {r : List V} (h : Fits Try.prog (d + 3) 47 r) : ∃ e : En, r = e.cells ∧ (e.mem.length ≤ 17592186044416 ∧ (e.kind = .nil → e.mem = [])) := by
  obtain ⟨fs, hu, ht⟩ := u47
  unfold Fits at h
  rw [hu] at h
  simp only at h
  rw [ht] at h
  simp only [List.foldr] at h
  obtain ⟨a, b, rfl, h1, a1, b1, rfl, h2, a2, b2, rfl, h3, a3, b3, rfl, h4, rfl⟩ := h
  simp only [Fits, u3] at h1
  simp only [Fits, u9] at h2
  simp only [Fits, u4] at h3
  obtain ⟨n, rfl, _⟩ := h1
  obtain ⟨s, rfl, _⟩ := h2
  obtain ⟨c, rfl⟩ := h3
  obtain ⟨k, l, rfl, g1, g2⟩ := fit_ints h4
  exact ⟨⟨n, s, c, k, l⟩, rfl, g1, g2⟩
theorem fitsA_two {P : Program} {d : Nat} {a b : TypeId} {xs : List V} (h : FitsA P d [a, b] xs) : ∃ x y, xs = [x, y] ∧ FitsV P d a x ∧ FitsV P d b y := by
  cases xs with
  | nil => exact h.elim
  | cons x xs =>
    cases xs with
    | nil => exact h.2.elim
    | cons y xs =>
      cases xs with
      | nil => exact ⟨x, y, rfl, h.1, h.2.1⟩
      | cons z xs => exact h.2.2.elim
set_option maxRecDepth 100000 in
theorem confLatest_main (xs : List V) (h : FitsA Try.prog 8 [3, 45] xs) : fnA tb7 ([3, 45].map fun _ => Mode.bor) ir6 xs (fun p => p = (.bool true, [])) := by
  obtain ⟨x, y, rfl, h1, h2⟩ := fitsA_two h
  · skip
    simp only [FitsV, u3, Fits] at h1
    simp only [FitsV, u45] at h2
    rw [Fits] at h2
    simp only [u45] at h2
    obtain ⟨n, hx, _⟩ := h1
    cases hx
    rcases h2 with hy | ⟨rows, hy, _, hr⟩
    · cases hy
      exact confLatest_ok n .nil [] (by simp)
    · cases hy
      obtain ⟨es, rfl, hes⟩ := rows_of (f := En.cells) (p := fun e => e.mem.length ≤ 17592186044416 ∧ (e.kind = .nil → e.mem = [])) fun r hrr => fit_en (hr r hrr).2
      have := confLatest_ok n .ro es hes
      simpa [flat] using this
end Go.Vm.Ytjpbkodooglapaa
namespace Go.Proofs.Ytjpbkodooglapaa.confLatest
open Go.ChangeShapes Go.WideShapes Go.ChangeAt Go.RowKit
set_option linter.unusedVariables false
theorem own : ownKnob Try.prog.godebug = none := by kernel_rfl
set_option maxRecDepth 100000 in
set_option maxRecDepth 100000 in
theorem lifted (os : Os) (started : os.Started) (H : Type) (enc : TypeId × Value → H) :
    ReturnsInHanded {} Try.checked os 6 .any (Rows.confLatestSpec.pre6 enc Try.prog Try.f6 Rows.confLatestRow.domain false) (Rows.confLatestSpec.post enc Try.prog Try.f6 false true false false) := by
  refine returnsInHanded_of_change_sized (C := Try.checked) own started (by kernel_rfl) Try.func6
    (ChangeSpec.witness6 (enc := enc) (C := Try.checked) false ⟨#[], #[.int .i64 0, .slice none 0 0], []⟩ 8 (by kernel_rfl) (by kernel_rfl) (by kernel_rfl) (by kernel_rfl)) ?_
  intro W base args ds gs before hval0 hW hcnd hsz0 _
  have hsz : (DataW.weightsEach Try.prog (Try.f6.params.toList ++ Rows.confLatestSpec.plain.varTypes Try.prog) (ds ++ gs)).all (· ≤ reachBytes) = true := hsz0
  have hval : ∀ (j : Nat) t v, Try.f6.params[j]? = some t → args[j]? = some v → Value.okWide Try.prog W .any base t v := hval0
  have hW' := hW
  obtain ⟨p, q, hA0, hV, rfl, hfz, hnd⟩ := hW
  have hp6 : Try.f6.params = #[3, 45] := by kernel_rfl
  have hA : DataW.TrodAll enc Try.prog W 0 (fun _ => true) true Try.f6.params.toList args.toList ds p := hA0
  rw [hp6] at hA hval hsz
  obtain ⟨rfl, rfl⟩ := trodVars_none hV
  obtain ⟨d0, d1, rfl⟩ : ∃ d0 d1, ds = [d0, d1] := by
    obtain ⟨v0, vs0, d0, ds0, p0, q0, _, rfl, _, _, r0⟩ := trodAll_cons hA
    obtain ⟨v1, vs1, d1, ds1, p1, q1, _, rfl, _, _, r1⟩ := trodAll_cons r0
    obtain ⟨_, rfl, _⟩ := trodAll_nil r1
    exact ⟨d0, d1, rfl⟩
  have hw : ∀ n ∈ DataW.weightsEach Try.prog [3, 45] [d0, d1], n ≤ reachBytes := fun n hn => by
    have hvt : Rows.confLatestSpec.plain.varTypes Try.prog = [] := by kernel_rfl
    rw [hvt, List.append_nil, List.append_nil] at hsz
    simpa using List.all_eq_true.1 hsz n hn
  refine (Vm.law_calls Vm.Ytjpbkodooglapaa.laid Vm.Ytjpbkodooglapaa.tb7_ok Vm.Ytjpbkodooglapaa.mixed Try.func6 Vm.Ytjpbkodooglapaa.name6 Vm.Ytjpbkodooglapaa.comp6 (d := 8) (b := base) (ts := [3, 45]) (fun t ht => by
    rcases List.mem_cons.1 ht with rfl | ht
    · kernel_rfl
    · rcases List.mem_cons.1 ht with rfl | ht
      · kernel_rfl
      · cases ht) Vm.Ytjpbkodooglapaa.confLatest_main (fun j t v h1 h2 => hval j t v (by simpa using h1) h2) hA hw).mono fun e W' ⟨he, bel⟩ => ?_
  subst he
  have hst := Vm.args_stay Vm.Ytjpbkodooglapaa.laid bel (ts := [3, 45]) (fun t ht => by
    rcases List.mem_cons.1 ht with rfl | ht
    · exact ⟨by kernel_rfl, of_decide_eq_true (by kernel_rfl)⟩
    · rcases List.mem_cons.1 ht with rfl | ht
      · exact ⟨by kernel_rfl, of_decide_eq_true (by kernel_rfl)⟩
      · cases ht) hA
  exact ⟨_, rfl, _, _, _, [], _, [], hW', trodAll_mk1 (shut_bool Vm.Ytjpbkodooglapaa.u4 _), hst, rfl, bel.frame _, fun h => by cases h⟩
theorem over : Rows.confLatestRow.holds Try.pinned (OpenSpec.ofChange Rows.confLatestSpec) :=
  OpenClaim.holds_of_wide 6 Try.f6 rfl rfl rfl rfl rfl rfl rfl ⟨rfl, rfl, rfl, rfl, rfl⟩ rfl rfl rfl rfl rfl (by kernel_rfl) Try.func6 (by kernel_rfl)
    (of_decide_eq_true (by kernel_rfl)) (by unfold Func.isWrapper; first | (rw [if_pos (by decide +kernel)]; kernel_rfl) | (rw [if_neg (by decide +kernel)]; exact ⟨rfl, rfl⟩))
    (fun os started H enc _ => lifted os started H enc)
theorem proved : Rows.ConfLatestSaid := over
#print axioms proved
end Go.Proofs.Ytjpbkodooglapaa.confLatest
namespace Go.Proofs.Ytjpbkodooglapaa
/-- The row, under a short name, for the claim. -/
theorem confLatest_holds : Rows.ConfLatestSaid := confLatest.proved
end Go.Proofs.Ytjpbkodooglapaa
