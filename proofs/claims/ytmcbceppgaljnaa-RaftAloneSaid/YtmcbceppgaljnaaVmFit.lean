/- A law's arguments, by their types. -/
import Derived.Test.YtmcbceppgaljnaaVmBits
set_option linter.unusedSectionVars false
set_option linter.unusedSimpArgs false
set_option linter.unusedVariables false
namespace Go.Vm
variable {P : Program} {d : Nat} {xs : List V} {x : V}
theorem fitsA_0 (h : FitsA P d [] xs) : xs = [] := by
  cases xs with
  | nil => rfl
  | cons => exact h.elim
theorem fitsA_s {t : TypeId} {ts : List TypeId} (h : FitsA P d (t :: ts) xs) : ∃ x ys, xs = x :: ys ∧ FitsV P d t x ∧ FitsA P d ts ys := by
  cases xs with
  | nil => exact h.elim
  | cons x ys => exact ⟨x, ys, rfl, h.1, h.2⟩
theorem fit_str {t : TypeId} (hu : P.underlying t = some .string) (h : FitsV P (d + 1) t x) : ∃ s : List UInt8, x = .str s ∧ s.length ≤ reachBytes := by
  simp only [FitsV, hu, Fits] at h
  obtain ⟨s, h1, h2⟩ := h
  cases h1
  exact ⟨s, rfl, h2⟩
theorem fit_bool {t : TypeId} (hu : P.underlying t = some .bool) (h : FitsV P (d + 1) t x) : ∃ b : Bool, x = .bool b := by
  simp only [FitsV, hu, Fits] at h
  obtain ⟨s, h1⟩ := h
  cases h1
  exact ⟨s, rfl⟩
theorem fit_int {t : TypeId} {k : IntKind} (hu : P.underlying t = some (.int k)) (h : FitsV P (d + 1) t x) : ∃ n : Int, x = .int k n ∧ (Lit.int k n).wf = true := by
  simp only [FitsV, hu, Fits] at h
  obtain ⟨s, h1, h2⟩ := h
  cases h1
  exact ⟨s, rfl, h2⟩
theorem i64_wf {n : Int} (h : (Lit.int .i64 n).wf = true) : -9223372036854775808 ≤ n ∧ n < 9223372036854775808 := by
  simp [Lit.wf, IntKind.min, IntKind.max, IntKind.signed, IntKind.bits] at h
  omega
theorem rows_of {α : Type} {f : α → List V} {p : α → Prop} : ∀ {rows : List (List V)}, (∀ r ∈ rows, ∃ e, r = f e ∧ p e) → ∃ es : List α, rows = es.map f ∧ ∀ e ∈ es, p e
  | [], _ => ⟨[], rfl, by simp⟩
  | r :: rows, h => by
    obtain ⟨e, rfl, h1⟩ := h r (by simp)
    obtain ⟨es, rfl, h2⟩ := rows_of fun r hr => h r (List.mem_cons_of_mem _ hr)
    exact ⟨e :: es, rfl, fun x hx => (List.mem_cons.1 hx).elim (fun h => by rw [h]; exact h1) (fun h => h2 x h)⟩
theorem flat_one {α : Type} (f : α → V) (l : List α) : (l.map fun n => [f n]).flatten = l.map f := by
  induction l with
  | nil => rfl
  | cons n l ih => rw [List.map_cons, List.flatten_cons, ih]; rfl
/-- A slice of things of one cell. -/
theorem fit_slice {α : Type} {t e : TypeId} (f : α → V) (p : α → Prop) (hu : P.underlying t = some (.slice e)) (he : ∀ r, Fits P d e r → ∃ a, r = [f a] ∧ p a) (h : FitsV P (d + 1) t x) :
    ∃ (k : SK) (l : List α), x = .sl k l.length (l.map f) ∧ (k = .nil → l = []) ∧ k ≠ .zero ∧ l.length * P.bytesOf e ≤ reachBytes ∧ ∀ a ∈ l, p a := by
  simp only [FitsV, hu, Fits] at h
  rcases h with h | ⟨rows, h, hb, hr⟩
  · cases h
    exact ⟨.nil, [], rfl, fun _ => rfl, by simp, by simp, by simp⟩
  · cases h
    obtain ⟨l, rfl, hl⟩ := rows_of (f := fun n => [f n]) (p := p) fun r h => he r (hr r h).2
    refine ⟨.ro, l, by rw [flat_one, List.length_map], (fun h => by cases h), by simp, by simpa using hb, hl⟩
theorem fit_slice_rows {α : Type} {t e : TypeId} (f : α → List V) (p : α → Prop) (hu : P.underlying t = some (.slice e)) (he : ∀ r, Fits P d e r → ∃ a, r = f a ∧ p a) (h : FitsV P (d + 1) t x) :
    ∃ (k : SK) (l : List α), x = .sl k l.length (rows f l) ∧ (k = .nil → l = []) ∧ k ≠ .zero ∧ l.length * P.bytesOf e ≤ reachBytes ∧ ∀ a ∈ l, p a := by
  simp only [FitsV, hu, Fits] at h
  rcases h with h | ⟨rs, h, hb, hr⟩
  · cases h
    exact ⟨.nil, [], rfl, fun _ => rfl, by simp, by simp, by simp⟩
  · cases h
    obtain ⟨l, rfl, hl⟩ := rows_of (f := f) (p := p) fun r h => he r (hr r h).2
    exact ⟨.ro, l, by unfold rows; rw [List.length_map], (fun h => by cases h), by simp, by simpa using hb, hl⟩
theorem fits_slice {α : Type} {t e : TypeId} {r : List V} (f : α → V) (p : α → Prop) (hu : P.underlying t = some (.slice e)) (he : ∀ r, Fits P d e r → ∃ a, r = [f a] ∧ p a) (h : Fits P (d + 1) t r) :
    ∃ (k : SK) (l : List α), r = [.sl k l.length (l.map f)] ∧ (k = .nil → l = []) ∧ (k = .nil ∨ k = .ro) ∧ l.length * P.bytesOf e ≤ reachBytes ∧ ∀ a ∈ l, p a := by
  simp only [hu, Fits] at h
  rcases h with h | ⟨rows, h, hb, hr⟩
  · cases h
    exact ⟨.nil, [], rfl, fun _ => rfl, by simp, by simp, by simp⟩
  · cases h
    obtain ⟨l, rfl, hl⟩ := rows_of (f := fun n => [f n]) (p := p) fun r h => he r (hr r h).2
    refine ⟨.ro, l, by rw [flat_one, List.length_map], (fun h => by cases h), by simp, by simpa using hb, hl⟩
theorem fits_slice_rows {α : Type} {t e : TypeId} {r : List V} (f : α → List V) (p : α → Prop) (hu : P.underlying t = some (.slice e)) (he : ∀ r, Fits P d e r → ∃ a, r = f a ∧ p a) (h : Fits P (d + 1) t r) :
    ∃ (k : SK) (l : List α), r = [.sl k l.length (rows f l)] ∧ (k = .nil → l = []) ∧ (k = .nil ∨ k = .ro) ∧ l.length * P.bytesOf e ≤ reachBytes ∧ ∀ a ∈ l, p a := by
  simp only [hu, Fits] at h
  rcases h with h | ⟨rs, h, hb, hr⟩
  · cases h
    exact ⟨.nil, [], rfl, fun _ => rfl, by simp, by simp, by simp⟩
  · cases h
    obtain ⟨l, rfl, hl⟩ := rows_of (f := f) (p := p) fun r h => he r (hr r h).2
    exact ⟨.ro, l, by unfold rows; rw [List.length_map], (fun h => by cases h), by simp, by simpa using hb, hl⟩
theorem fits_str {t : TypeId} {r : List V} (hu : P.underlying t = some .string) (h : Fits P (d + 1) t r) : ∃ s : List UInt8, r = [.str s] ∧ s.length ≤ reachBytes := by
  simp only [Fits, hu] at h
  exact h
theorem fits_int {t : TypeId} {k : IntKind} {r : List V} (hu : P.underlying t = some (.int k)) (h : Fits P (d + 1) t r) : ∃ n : Int, r = [.int k n] ∧ (Lit.int k n).wf = true := by
  simp only [Fits, hu] at h
  exact h
theorem fits_bool {t : TypeId} {r : List V} (hu : P.underlying t = some .bool) (h : Fits P (d + 1) t r) : ∃ b : Bool, r = [.bool b] := by
  simp only [Fits, hu] at h
  exact h
theorem contCn_ex {tbl : Tbl} {r : List IOp} {K : St → Prop} {t : Nat → V} {v : V} {o : Option (V × Store)} {P : Store → Prop} (h : ∃ σ', o = some (v, σ') ∧ P σ') (hk : ∀ σ', P σ' → regA tbl r K ⟨t, σ'⟩) : contCn tbl r K t o := by
  obtain ⟨σ', h1, h2⟩ := h
  exact contCn_of h1 (hk σ' h2)
theorem contC_ex {tbl : Tbl} {r : List IOp} {K : St → Prop} {t : Nat → V} {d : Nat} {v : V} {o : Option (V × Store)} {P : Store → Prop} (h : ∃ σ', o = some (v, σ') ∧ P σ') (hk : ∀ σ', P σ' → regA tbl r K ⟨upd t d v, σ'⟩) : contC tbl r K t d o := by
  obtain ⟨σ', h1, h2⟩ := h
  exact contC_of h1 (hk σ' h2)
def tysOf (P : Program) (t : TypeId) : Option (List TypeId) := match P.underlying t with
  | some (.struct fs) => some (fs.toList.map (·.type))
  | _ => none
/-- Cells of a struct's fields. -/
def FitsL (P : Program) (d : Nat) : List TypeId → List V → Prop
  | [], vs => vs = []
  | t :: ts, vs => ∃ a b, vs = a ++ b ∧ Fits P d t a ∧ FitsL P d ts b
theorem fits_struct {t : TypeId} {tl : List TypeId} {vs : List V} (hu : tysOf P t = some tl) (h : Fits P (d + 1) t vs) : FitsL P d tl vs := by
  unfold tysOf at hu
  split at hu
  · rename_i fs hfs
    cases hu
    unfold Fits at h
    rw [hfs] at h
    simp only at h
    revert vs
    generalize fs.toList.map (·.type) = tl
    induction tl with
    | nil => intro vs h; exact h
    | cons t ts ih =>
      intro vs h
      obtain ⟨a, b, h1, h2, h3⟩ := h
      exact ⟨a, b, h1, h2, ih h3⟩
  · cases hu
theorem fit_struct {t : TypeId} {tl : List TypeId} (hu : tysOf P t = some tl) (h : FitsV P (d + 1) t x) : ∃ vs, x = .agg vs ∧ FitsL P d tl vs := by
  have hu2 := hu
  unfold tysOf at hu2
  split at hu2
  · rename_i fs hfs
    unfold FitsV at h
    rw [hfs] at h
    simp only at h
    obtain ⟨vs, h1, h2⟩ := h
    exact ⟨vs, h1, fits_struct hu h2⟩
  · cases hu2
theorem fit_array {t e : TypeId} {n : Nat} (hu : P.underlying t = some (.array n e)) (h : FitsV P (d + 1) t x) : ∃ rows : List (List V), x = .agg rows.flatten ∧ rows.length = n ∧ ∀ r ∈ rows, Fits P d e r := by
  unfold FitsV at h
  rw [hu] at h
  simp only at h
  obtain ⟨vs, rfl, h⟩ := h
  unfold Fits at h
  rw [hu] at h
  simp only at h
  obtain ⟨rows, rfl, h1, h2⟩ := h
  exact ⟨rows, rfl, h1, fun r hr => (h2 r hr).2⟩
theorem reach_lt : reachBytes < 140737488355328 := reachBytes_lt
end Go.Vm
