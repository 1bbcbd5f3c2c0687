/- Reckoning with the machine over values, by one set of rules. -/
import Derived.Test.YtmcbceppgaljnaaVmTab
set_option linter.unusedSectionVars false
set_option linter.unusedSimpArgs false
set_option linter.unusedVariables false
namespace Go.Vm
variable {tbl : Tbl} {t : Nat → V} {σ : Store} {base : Nat}

/-! ### Things of lists -/
def gt {α : Type} [Inhabited α] (l : List α) (i : Nat) : α := l.getD i default
theorem gt_eq {α : Type} [Inhabited α] {l : List α} {i : Nat} (h : i < l.length) : gt l i = l[i] := by simp [gt, List.getD_eq_getElem?_getD, h]
theorem get_gt {α : Type} [Inhabited α] {l : List α} {i : Nat} (h : i < l.length) : l[i]? = some (gt l i) := by rw [gt_eq h, List.getElem?_eq_getElem h]
theorem map_get_gt {α : Type} [Inhabited α] {f : α → V} {l : List α} {i : Nat} (h : i < l.length) : (l.map f)[i]? = some (f (gt l i)) := by rw [List.getElem?_map, get_gt h]; rfl
theorem take_gt {α : Type} [Inhabited α] {l : List α} {i : Nat} (h : i < l.length) : l.take (i + 1) = l.take i ++ [gt l i] := by rw [gt_eq h, List.take_succ_eq_append_getElem h]
theorem drop_gt {α : Type} [Inhabited α] {l : List α} {i : Nat} (h : i < l.length) : l.drop i = gt l i :: l.drop (i + 1) := by rw [gt_eq h, List.drop_eq_getElem_cons h]
theorem take_all {α : Type} {l : List α} {n : Nat} (h : l.length ≤ n) : l.take n = l := List.take_of_length_le h
theorem drop_all {α : Type} {l : List α} {n : Nat} (h : l.length ≤ n) : l.drop n = [] := List.drop_of_length_le h
theorem take_drop_all {α : Type} {l : List α} {k n : Nat} (h : l.length - k ≤ n) : (l.drop k).take n = l.drop k := List.take_of_length_le (by rw [List.length_drop]; exact h)
theorem take_map {α : Type} {f : α → V} {l : List α} {n : Nat} : (l.map f).take n = (l.take n).map f := List.map_take.symm
theorem drop_map {α : Type} {f : α → V} {l : List α} {n : Nat} : (l.map f).drop n = (l.drop n).map f := List.map_drop.symm
theorem app_map {α : Type} {f : α → V} {l m : List α} : l.map f ++ m.map f = (l ++ m).map f := List.map_append.symm
theorem app_u8 {l : List UInt8} {b : UInt8} : l.map u8 ++ [u8 b] = (l ++ [b]).map u8 := by simp
/-- Rows of so many cells. -/
def rows {α : Type} (f : α → List V) (l : List α) : List V := (l.map f).flatten
theorem rows_nil {α : Type} {f : α → List V} : rows f [] = [] := rfl
theorem rows_cons {α : Type} {f : α → List V} {a : α} {l : List α} : rows f (a :: l) = f a ++ rows f l := rfl
theorem rows_append {α : Type} {f : α → List V} {l m : List α} : rows f (l ++ m) = rows f l ++ rows f m := by simp [rows]
theorem rows_length {α : Type} {f : α → List V} {c : Nat} (hc : ∀ a, (f a).length = c) (l : List α) : (rows f l).length = l.length * c := by
  unfold rows
  rw [flatten_len (c := c) (fun r hr => by obtain ⟨e, _, rfl⟩ := List.mem_map.1 hr; exact hc e), List.length_map]
theorem rows_drop {α : Type} {f : α → List V} {c : Nat} (hc : ∀ a, (f a).length = c) : ∀ (l : List α) (n : Nat), (rows f l).drop (n * c) = rows f (l.drop n)
  | [], n => by simp [rows_nil]
  | a :: l, 0 => by simp
  | a :: l, n + 1 => by
    rw [rows_cons, List.drop_succ_cons, ← rows_drop hc l n, List.drop_append, hc, List.drop_of_length_le (by rw [hc, Nat.add_mul]; omega), List.nil_append]
    congr 1
    rw [Nat.add_mul]
    omega
theorem rows_take {α : Type} {f : α → List V} {c : Nat} (hc : ∀ a, (f a).length = c) : ∀ (l : List α) (n : Nat), (rows f l).take (n * c) = rows f (l.take n)
  | [], n => by simp [rows_nil]
  | a :: l, 0 => by simp [rows_nil]
  | a :: l, n + 1 => by
    rw [rows_cons, List.take_succ_cons, rows_cons, ← rows_take hc l n, List.take_append, hc, List.take_of_length_le (by rw [hc, Nat.add_mul]; omega)]
    congr 2
    rw [Nat.add_mul]
    omega
theorem rows_at {α : Type} [Inhabited α] {f : α → List V} {c : Nat} (hc : ∀ a, (f a).length = c) {l : List α} {i j : Nat} (hi : i < l.length) (hj : j < c) : (rows f l)[i * c + j]? = (f (gt l i))[j]? := by
  have h1 : (rows f l)[i * c + j]? = ((rows f l).drop (i * c))[j]? := by rw [List.getElem?_drop]
  rw [h1, rows_drop hc, drop_gt hi, rows_cons, List.getElem?_append_left (by rw [hc]; exact hj)]
theorem rows_row {α : Type} [Inhabited α] {f : α → List V} {c : Nat} (hc : ∀ a, (f a).length = c) {l : List α} {i : Nat} (hi : i < l.length) : ((rows f l).drop (i * c)).take c = f (gt l i) := by
  rw [rows_drop hc, drop_gt hi, rows_cons, List.take_append, List.take_of_length_le (by rw [hc]; omega), hc, Nat.sub_self, List.take_zero, List.append_nil]

/-! ### Reading a slot -/
def selB {α : Type} (b : Bool) (x y : α) : α := match b with | true => x | false => y
theorem selB_t {α : Type} (x y : α) : selB true x y = x := rfl
theorem selB_f {α : Type} (x y : α) : selB false x y = y := rfl
theorem upd_b {α : Type} (f : Nat → α) (i : Nat) (x : α) (j : Nat) : upd f i x j = selB (j == i) x (f j) := by
  by_cases h : j = i
  · subst h; simp [upd, selB]
  · have : (j == i) = false := by simpa using h
    rw [this]; simp [upd, selB, h]
theorem upd_s {α : Type} (f : Nat → α) (i : Nat) (x : α) : upd f i x i = x := by simp [upd]
theorem beq_no {a b : Nat} (h : ¬ a = b) : (a == b) = false := by simpa using h
theorem beq_yes {a b : Nat} (h : a = b) : (a == b) = true := by simpa using h

/-! ### Numbers -/
theorem nc_add (a b : Nat) : ((a : Int) + (b : Int)) = ((a + b : Nat) : Int) := rfl
theorem nc_add_l (a n : Nat) : ((a : Int) + (no_index (OfNat.ofNat n) : Int)) = ((a + (OfNat.ofNat n : Nat) : Nat) : Int) := rfl
theorem nc_add_r (a n : Nat) : ((no_index (OfNat.ofNat n) : Int) + (a : Int)) = (((OfNat.ofNat n : Nat) + a : Nat) : Int) := rfl
theorem nc_mul (a b : Nat) : ((a : Int) * (b : Int)) = ((a * b : Nat) : Int) := rfl
theorem nc_mul_l (a n : Nat) : ((a : Int) * (no_index (OfNat.ofNat n) : Int)) = ((a * (OfNat.ofNat n : Nat) : Nat) : Int) := rfl
theorem nc_mul_r (a n : Nat) : ((no_index (OfNat.ofNat n) : Int) * (a : Int)) = (((OfNat.ofNat n : Nat) * a : Nat) : Int) := rfl
theorem nc_sub {a b : Nat} (h : b ≤ a) : ((a : Int) - (b : Int)) = ((a - b : Nat) : Int) := by omega
theorem nc_sub_l {a n : Nat} (h : (OfNat.ofNat n : Nat) ≤ a) : ((a : Int) - (no_index (OfNat.ofNat n) : Int)) = ((a - (OfNat.ofNat n : Nat) : Nat) : Int) := by
  have : (OfNat.ofNat n : Int) = ((OfNat.ofNat n : Nat) : Int) := rfl
  omega
theorem nc_sub_r {a n : Nat} (h : a ≤ (OfNat.ofNat n : Nat)) : ((no_index (OfNat.ofNat n) : Int) - (a : Int)) = (((OfNat.ofNat n : Nat) - a : Nat) : Int) := by
  have : (OfNat.ofNat n : Int) = ((OfNat.ofNat n : Nat) : Int) := rfl
  omega
theorem nc_lt (a b : Nat) : ((a : Int) < (b : Int)) = (a < b) := propext Int.ofNat_lt
theorem nc_lt_l (a n : Nat) : ((a : Int) < (no_index (OfNat.ofNat n) : Int)) = (a < (OfNat.ofNat n : Nat)) := propext Int.ofNat_lt
theorem nc_lt_r (a n : Nat) : ((no_index (OfNat.ofNat n) : Int) < (a : Int)) = ((OfNat.ofNat n : Nat) < a) := propext Int.ofNat_lt
theorem nc_le (a b : Nat) : ((a : Int) ≤ (b : Int)) = (a ≤ b) := propext Int.ofNat_le
theorem nc_le_l (a n : Nat) : ((a : Int) ≤ (no_index (OfNat.ofNat n) : Int)) = (a ≤ (OfNat.ofNat n : Nat)) := propext Int.ofNat_le
theorem nc_le_r (a n : Nat) : ((no_index (OfNat.ofNat n) : Int) ≤ (a : Int)) = ((OfNat.ofNat n : Nat) ≤ a) := propext Int.ofNat_le
theorem nc_eq (a b : Nat) : ((a : Int) = (b : Int)) = (a = b) := propext Int.ofNat_inj
theorem nc_eq_l (a n : Nat) : ((a : Int) = (no_index (OfNat.ofNat n) : Int)) = (a = (OfNat.ofNat n : Nat)) := propext Int.ofNat_inj
theorem nc_eq_r (a n : Nat) : ((no_index (OfNat.ofNat n) : Int) = (a : Int)) = ((OfNat.ofNat n : Nat) = a) := propext Int.ofNat_inj
theorem nc_tdiv (a b : Nat) : (a : Int).tdiv (b : Int) = ((a / b : Nat) : Int) := rfl
theorem nc_tdiv_l (a n : Nat) : (a : Int).tdiv (no_index (OfNat.ofNat n) : Int) = ((a / (OfNat.ofNat n : Nat) : Nat) : Int) := rfl
theorem nc_tmod (a b : Nat) : (a : Int).tmod (b : Int) = ((a % b : Nat) : Int) := rfl
theorem nc_tmod_l (a n : Nat) : (a : Int).tmod (no_index (OfNat.ofNat n) : Int) = ((a % (OfNat.ofNat n : Nat) : Nat) : Int) := rfl
theorem nc_fdiv_p (a m : Nat) : (a : Int).fdiv (2 ^ m) = ((a / 2 ^ m : Nat) : Int) := by
  have : ((2 : Int) ^ m) = ((2 ^ m : Nat) : Int) := by simp
  rw [this, Int.fdiv_eq_ediv_of_nonneg _ (Int.natCast_nonneg _)]
  simp
theorem nc_mul_p (a m : Nat) : (a : Int) * 2 ^ m = ((a * 2 ^ m : Nat) : Int) := by simp
theorem bq {α : Type} [BEq α] [LawfulBEq α] [DecidableEq α] (a b : α) : (a == b) = decide (a = b) := by
  by_cases h : a = b
  · simp [h]
  · simp [h]
theorem bnq {α : Type} [BEq α] [LawfulBEq α] [DecidableEq α] (a b : α) : (a != b) = !decide (a = b) := by rw [bne, bq]
theorem w_i64 {x : Int} (h : -9223372036854775808 ≤ x ∧ x < 9223372036854775808) : IntKind.i64.wrap x = x := by
  simp [IntKind.wrap, IntKind.signed, IntKind.bits]; omega
theorem w_i32 {x : Int} (h : -2147483648 ≤ x ∧ x < 2147483648) : IntKind.i32.wrap x = x := by
  simp [IntKind.wrap, IntKind.signed, IntKind.bits]; omega
theorem w_u64 {x : Int} (h : 0 ≤ x ∧ x < 18446744073709551616) : IntKind.u64.wrap x = x := by
  simp [IntKind.wrap, IntKind.signed, IntKind.bits]; omega
theorem w_u32 {x : Int} (h : 0 ≤ x ∧ x < 4294967296) : IntKind.u32.wrap x = x := by
  simp [IntKind.wrap, IntKind.signed, IntKind.bits]; omega
theorem w_u8 {x : Int} (h : 0 ≤ x ∧ x < 256) : IntKind.u8.wrap x = x := by
  simp [IntKind.wrap, IntKind.signed, IntKind.bits]; omega
theorem b_i64 : IntKind.i64.bits = 64 := rfl
theorem b_i32 : IntKind.i32.bits = 32 := rfl
theorem b_u64 : IntKind.u64.bits = 64 := rfl
theorem b_u32 : IntKind.u32.bits = 32 := rfl
theorem b_u8 : IntKind.u8.bits = 8 := rfl
/-- A number's lowest byte. -/
def byteI (x : Int) : UInt8 := UInt8.ofNat (x % 256).toNat
theorem byteI_val (x : Int) : ((byteI x).toNat : Int) = IntKind.u8.wrap x := by
  have h : (x % 256).toNat < 256 := by omega
  have h2 : (byteI x).toNat = (x % 256).toNat := by
    simp [byteI, UInt8.toNat_ofNat']
    omega
  rw [h2]
  simp [IntKind.wrap, IntKind.signed, IntKind.bits]
  omega
theorem int_byte (x : Int) : V.int .u8 (IntKind.u8.wrap x) = u8 (byteI x) := by rw [u8, byteI_val]

theorem min_l {a b : Nat} (h : a ≤ b) : min a b = a := by omega
theorem min_r {a b : Nat} (h : b ≤ a) : min a b = b := by omega
theorem max_l {a b : Nat} (h : b ≤ a) : max a b = a := by omega
theorem max_r {a b : Nat} (h : a ≤ b) : max a b = b := by omega
/-! ### Bounds decide -/
theorem if_yes {α : Type} {c : Prop} [Decidable c] {a b : α} (h : c) : (if c then a else b) = a := if_pos h
theorem if_no {α : Type} {c : Prop} [Decidable c] {a b : α} (h : ¬ c) : (if c then a else b) = b := if_neg h
theorem dec_T {c : Prop} [Decidable c] (h : c) : decide c = true := decide_eq_true h
theorem dec_F {c : Prop} [Decidable c] (h : ¬ c) : decide c = false := decide_eq_false h
theorem bnd_some_int {k : IntKind} {i : Int} {d y : Nat} : bnd (some (.int k i)) d y = if 0 ≤ i ∧ i ≤ (y : Int) then some i.toNat else none := rfl
theorem bnd_none {d y : Nat} : bnd none d y = some d := rfl
theorem condC_not {a b : IC} {Q : Ex → St → Prop} {c : Bool} : condC tbl a b Q t σ (.bool (!c)) = condC tbl b a Q t σ (.bool c) := by
  cases c <;> simp [condC]
theorem condC_T {a b : IC} {Q : Ex → St → Prop} {c : Prop} [Decidable c] (h : c) : condC tbl a b Q t σ (.bool (decide c)) = wpA tbl a Q ⟨t, σ⟩ := by rw [decide_eq_true h, condC_true]
theorem condC_F {a b : IC} {Q : Ex → St → Prop} {c : Prop} [Decidable c] (h : ¬ c) : condC tbl a b Q t σ (.bool (decide c)) = wpA tbl b Q ⟨t, σ⟩ := by rw [decide_eq_false h, condC_false]

/-! ### Values -/
section
variable {d : Nat}
theorem ro_int (k : IntKind) (n : Int) : roV σ (d + 1) (.int k n) = some (.int k n, []) := rfl
theorem ro_u8 (b : UInt8) : roV σ (d + 1) (u8 b) = some (u8 b, []) := rfl
theorem ro_bool (b : Bool) : roV σ (d + 1) (.bool b) = some (.bool b, []) := rfl
theorem ro_str (s : List UInt8) : roV σ (d + 1) (.str s) = some (.str s, []) := rfl
theorem ro_nilp : roV σ (d + 1) .nilp = some (.nilp, []) := rfl
theorem ro_nilfn : roV σ (d + 1) .nilfn = some (.nilfn, []) := rfl
theorem ro_sl (k : SK) (n : Nat) (cs : List V) : roV σ (d + 1) (.sl k n cs) = some (.sl k n cs, []) := rfl
theorem ro_pt (cs : List V) (o : Nat) : roV σ (d + 1) (.pt cs o) = some (.pt cs o, []) := rfl
theorem ro_agg (cs : List V) : roV σ (d + 1) (.agg cs) = (mapQ (roV σ d) cs).map fun p => (.agg p.1, p.2) := rfl
theorem ro_tup (cs : List V) : roV σ (d + 1) (.tup cs) = (mapQ (roV σ d) cs).map fun p => (.tup p.1, p.2) := rfl
theorem ro_fn (f : Nat) (cs : List V) : roV σ (d + 1) (.fn f cs) = (mapQ (roV σ d) cs).map fun p => (.fn f p.1, p.2) := rfl
theorem ro_sli (id g off n esz : Nat) : roV σ (d + 1) (.sli id g off n esz) = if (σ id).gen = g ∧ (σ id).st ≠ .dead ∧ off + n * esz ≤ (σ id).cells.length then
        if (σ id).arr = true then some (.sl .ro n (((σ id).cells.drop off).take (n * esz)), [id])
        else (mapQ (roV σ d) (((σ id).cells.drop off).take (n * esz))).map fun p => (.sl .ro n p.1, id :: p.2)
      else none := rfl
theorem ro_ptr (id g off : Nat) : roV σ (d + 1) (.ptr id g off) = if (σ id).gen = g ∧ (σ id).st ≠ .dead then
        if (σ id).arr = true then some (.pt (σ id).cells off, [id])
        else (mapQ (roV σ d) (σ id).cells).map fun p => (.pt p.1 off, id :: p.2)
      else none := rfl
theorem own_int (k : IntKind) (n : Int) : ownV σ (d + 1) (.int k n) = some (.int k n, []) := rfl
theorem own_u8 (b : UInt8) : ownV σ (d + 1) (u8 b) = some (u8 b, []) := rfl
theorem own_bool (b : Bool) : ownV σ (d + 1) (.bool b) = some (.bool b, []) := rfl
theorem own_str (s : List UInt8) : ownV σ (d + 1) (.str s) = some (.str s, []) := rfl
theorem own_nilp : ownV σ (d + 1) .nilp = some (.nilp, []) := rfl
theorem own_nilfn : ownV σ (d + 1) .nilfn = some (.nilfn, []) := rfl
theorem own_sl (k : SK) (n : Nat) (cs : List V) : ownV σ (d + 1) (.sl k n cs) = some (.sl k n cs, []) := rfl
theorem own_pt (cs : List V) (o : Nat) : ownV σ (d + 1) (.pt cs o) = some (.pt cs o, []) := rfl
theorem own_agg (cs : List V) : ownV σ (d + 1) (.agg cs) = (mapQ (ownV σ d) cs).map fun p => (.agg p.1, p.2) := rfl
theorem own_tup (cs : List V) : ownV σ (d + 1) (.tup cs) = (mapQ (ownV σ d) cs).map fun p => (.tup p.1, p.2) := rfl
theorem own_fn (f : Nat) (cs : List V) : ownV σ (d + 1) (.fn f cs) = (mapQ (ownV σ d) cs).map fun p => (.fn f p.1, p.2) := rfl
theorem own_sli (id g off n esz : Nat) : ownV σ (d + 1) (.sli id g off n esz) = if (σ id).gen = g ∧ (σ id).st = .rw ∧ (σ id).arr = true ∧ off + n * esz ≤ (σ id).cells.length then
        some (.osl esz n (((σ id).cells.drop off).take (n * esz)), [id])
      else if (σ id).gen = g ∧ (σ id).st = .fz ∧ (σ id).arr = true ∧ off + n * esz ≤ (σ id).cells.length then
        some (.sl .ro n (((σ id).cells.drop off).take (n * esz)), [])
      else none := rfl
theorem own_ptr (id g off : Nat) : ownV σ (d + 1) (.ptr id g off) = if (σ id).gen = g ∧ (σ id).st = .rw ∧ (σ id).arr = false ∧ off = 0 then
        (mapQ (ownV σ d) (σ id).cells).map fun p => (.opt p.1, id :: p.2)
      else if (σ id).gen = g ∧ (σ id).st = .fz ∧ (σ id).arr = false then
        (mapQ (roV σ d) (σ id).cells).bind fun p => if p.2.all (fun i => (σ i).st = .fz) then some (.pt p.1 off, []) else none
      else none := rfl
variable {f : V → Option (V × List Nat)}
theorem mapQ_nil : mapQ f [] = some ([], []) := rfl
theorem mapQ_cons (x : V) (r : List V) : mapQ f (x :: r) = (f x).bind fun p => (mapQ f r).bind fun q => some (p.1 :: q.1, p.2 ++ q.2) := rfl
theorem mapQ_flat : ∀ {l : List V}, (∀ v ∈ l, f v = some (v, [])) → mapQ f l = some (l, [])
  | [], _ => rfl
  | x :: r, h => by
    rw [mapQ_cons, h x (by simp), mapQ_flat fun v hv => h v (List.mem_cons_of_mem _ hv)]
    rfl
theorem mapQ_app (a b : List V) : mapQ f (a ++ b) = (mapQ f a).bind fun p => (mapQ f b).bind fun q => some (p.1 ++ q.1, p.2 ++ q.2) := by
  induction a with
  | nil =>
    simp only [List.nil_append, mapQ_nil, Option.bind_some]
    cases mapQ f b <;> rfl
  | cons x a ih =>
    rw [List.cons_append, mapQ_cons, ih, mapQ_cons]
    cases f x with
    | none => rfl
    | some p =>
      cases mapQ f a with
      | none => rfl
      | some q =>
        cases mapQ f b with
        | none => rfl
        | some r => simp [List.append_assoc]
theorem mapQ_ro_u8 (l : List UInt8) : mapQ (roV σ (d + 1)) (l.map u8) = some (l.map u8, []) := mapQ_flat fun v hv => by obtain ⟨_, _, rfl⟩ := List.mem_map.1 hv; rfl
theorem mapQ_ro_int (k : IntKind) (l : List Int) : mapQ (roV σ (d + 1)) (l.map (V.int k)) = some (l.map (V.int k), []) := mapQ_flat fun v hv => by obtain ⟨_, _, rfl⟩ := List.mem_map.1 hv; rfl
theorem mapQ_ro_str (l : List (List UInt8)) : mapQ (roV σ (d + 1)) (l.map V.str) = some (l.map V.str, []) := mapQ_flat fun v hv => by obtain ⟨_, _, rfl⟩ := List.mem_map.1 hv; rfl
theorem mapQ_own_u8 (l : List UInt8) : mapQ (ownV σ (d + 1)) (l.map u8) = some (l.map u8, []) := mapQ_flat fun v hv => by obtain ⟨_, _, rfl⟩ := List.mem_map.1 hv; rfl
theorem mapQ_own_int (k : IntKind) (l : List Int) : mapQ (ownV σ (d + 1)) (l.map (V.int k)) = some (l.map (V.int k), []) := mapQ_flat fun v hv => by obtain ⟨_, _, rfl⟩ := List.mem_map.1 hv; rfl
theorem mapQ_own_str (l : List (List UInt8)) : mapQ (ownV σ (d + 1)) (l.map V.str) = some (l.map V.str, []) := mapQ_flat fun v hv => by obtain ⟨_, _, rfl⟩ := List.mem_map.1 hv; rfl

theorem ha_int (k : IntKind) (n : Int) : hasRo (d + 1) (.int k n) = false := rfl
theorem ha_u8 (b : UInt8) : hasRo (d + 1) (u8 b) = false := rfl
theorem ha_bool (b : Bool) : hasRo (d + 1) (.bool b) = false := rfl
theorem ha_str (s : List UInt8) : hasRo (d + 1) (.str s) = false := rfl
theorem ha_nilp : hasRo (d + 1) .nilp = false := rfl
theorem ha_nilfn : hasRo (d + 1) .nilfn = false := rfl
theorem ha_nil (n : Nat) (cs : List V) : hasRo (d + 1) (.sl .nil n cs) = false := rfl
theorem ha_zero (n : Nat) (cs : List V) : hasRo (d + 1) (.sl .zero n cs) = false := rfl
theorem ha_ro (n : Nat) (cs : List V) : hasRo (d + 1) (.sl .ro n cs) = (n != 0) := rfl
theorem ha_pt (cs : List V) (o : Nat) : hasRo (d + 1) (.pt cs o) = true := rfl
theorem ha_agg (cs : List V) : hasRo (d + 1) (.agg cs) = cs.any (hasRo d) := rfl
theorem ha_tup (cs : List V) : hasRo (d + 1) (.tup cs) = cs.any (hasRo d) := rfl
theorem ha_opt (cs : List V) : hasRo (d + 1) (.opt cs) = cs.any (hasRo d) := rfl
theorem ha_osl (e n : Nat) (cs : List V) : hasRo (d + 1) (.osl e n cs) = cs.any (hasRo d) := rfl
theorem ha_fn (f : Nat) (cs : List V) : hasRo (d + 1) (.fn f cs) = cs.any (hasRo d) := rfl
theorem any_none {l : List V} {p : V → Bool} (h : ∀ v ∈ l, p v = false) : l.any p = false := by
  rw [List.any_eq_false]
  intro v hv
  simp [h v hv]
theorem ha_l_u8 (l : List UInt8) : (l.map u8).any (hasRo (d + 1)) = false := any_none fun v hv => by obtain ⟨_, _, rfl⟩ := List.mem_map.1 hv; rfl
theorem ha_l_int (k : IntKind) (l : List Int) : (l.map (V.int k)).any (hasRo (d + 1)) = false := any_none fun v hv => by obtain ⟨_, _, rfl⟩ := List.mem_map.1 hv; rfl
theorem ha_l_str (l : List (List UInt8)) : (l.map V.str).any (hasRo (d + 1)) = false := any_none fun v hv => by obtain ⟨_, _, rfl⟩ := List.mem_map.1 hv; rfl

theorem vis_int (k : IntKind) (n : Int) : visV σ (d + 1) (.int k n) = [] := rfl
theorem vis_u8 (b : UInt8) : visV σ (d + 1) (u8 b) = [] := rfl
theorem vis_bool (b : Bool) : visV σ (d + 1) (.bool b) = [] := rfl
theorem vis_str (s : List UInt8) : visV σ (d + 1) (.str s) = [] := rfl
theorem vis_nilp : visV σ (d + 1) .nilp = [] := rfl
theorem vis_nilfn : visV σ (d + 1) .nilfn = [] := rfl
theorem vis_sl (k : SK) (n : Nat) (cs : List V) : visV σ (d + 1) (.sl k n cs) = [] := rfl
theorem vis_pt (cs : List V) (o : Nat) : visV σ (d + 1) (.pt cs o) = [] := rfl
theorem vis_agg (cs : List V) : visV σ (d + 1) (.agg cs) = cs.flatMap (visV σ d) := rfl
theorem vis_tup (cs : List V) : visV σ (d + 1) (.tup cs) = cs.flatMap (visV σ d) := rfl
theorem vis_fn (f : Nat) (cs : List V) : visV σ (d + 1) (.fn f cs) = cs.flatMap (visV σ d) := rfl
theorem vis_sli (id g off n esz : Nat) : visV σ (d + 1) (.sli id g off n esz) = id :: (if (σ id).arr = true then [] else (σ id).cells.flatMap (visV σ d)) := rfl
theorem vis_ptr (id g off : Nat) : visV σ (d + 1) (.ptr id g off) = id :: (if (σ id).arr = true then [] else (σ id).cells.flatMap (visV σ d)) := rfl
theorem flat_none {l : List V} {p : V → List Nat} (h : ∀ v ∈ l, p v = []) : l.flatMap p = [] := by
  rw [List.flatMap_eq_nil_iff]
  exact h
theorem vis_l_u8 (l : List UInt8) : (l.map u8).flatMap (visV σ (d + 1)) = [] := flat_none fun v hv => by obtain ⟨_, _, rfl⟩ := List.mem_map.1 hv; rfl
theorem vis_l_int (k : IntKind) (l : List Int) : (l.map (V.int k)).flatMap (visV σ (d + 1)) = [] := flat_none fun v hv => by obtain ⟨_, _, rfl⟩ := List.mem_map.1 hv; rfl
theorem vis_l_str (l : List (List UInt8)) : (l.map V.str).flatMap (visV σ (d + 1)) = [] := flat_none fun v hv => by obtain ⟨_, _, rfl⟩ := List.mem_map.1 hv; rfl

variable {k : Nat}
theorem mat_int (q : IntKind) (n : Int) : matV σ (d + 1) k (.int q n) = some (.int q n, [], k) := rfl
theorem mat_u8 (b : UInt8) : matV σ (d + 1) k (u8 b) = some (u8 b, [], k) := rfl
theorem mat_bool (b : Bool) : matV σ (d + 1) k (.bool b) = some (.bool b, [], k) := rfl
theorem mat_str (s : List UInt8) : matV σ (d + 1) k (.str s) = some (.str s, [], k) := rfl
theorem mat_nilp : matV σ (d + 1) k .nilp = some (.nilp, [], k) := rfl
theorem mat_nilfn : matV σ (d + 1) k .nilfn = some (.nilfn, [], k) := rfl
theorem mat_sl (q : SK) (n : Nat) (cs : List V) : matV σ (d + 1) k (.sl q n cs) = some (.sl q n cs, [], k) := rfl
theorem mat_pt (cs : List V) (o : Nat) : matV σ (d + 1) k (.pt cs o) = some (.pt cs o, [], k) := rfl
theorem mat_agg (cs : List V) : matV σ (d + 1) k (.agg cs) = (mapM' (matV σ d) k cs).map fun p => (.agg p.1, p.2.1, p.2.2) := rfl
theorem mat_tup (cs : List V) : matV σ (d + 1) k (.tup cs) = (mapM' (matV σ d) k cs).map fun p => (.tup p.1, p.2.1, p.2.2) := rfl
theorem mat_fn (f : Nat) (cs : List V) : matV σ (d + 1) k (.fn f cs) = (mapM' (matV σ d) k cs).map fun p => (.fn f p.1, p.2.1, p.2.2) := rfl
theorem mat_opt (cs : List V) : matV σ (d + 1) k (.opt cs) = (mapM' (matV σ d) (k + 1) cs).map fun p => (.ptr k ((σ k).gen + 1) 0, p.2.1 ++ [(k, ⟨(σ k).gen + 1, .rw, false, p.1⟩)], p.2.2) := rfl
theorem mat_osl (esz n : Nat) (cs : List V) : matV σ (d + 1) k (.osl esz n cs) = some (.sli k ((σ k).gen + 1) 0 n esz, [(k, ⟨(σ k).gen + 1, .rw, true, cs⟩)], k + 1) := rfl
variable {m : Nat → V → Option (V × List (Nat × Blk) × Nat)}
theorem mapM_nil : mapM' m k [] = some ([], [], k) := rfl
theorem mapM_cons (x : V) (r : List V) : mapM' m k (x :: r) = (m k x).bind fun p => (mapM' m p.2.2 r).bind fun q => some (p.1 :: q.1, p.2.1 ++ q.2.1, q.2.2) := rfl
theorem mapM_flat : ∀ {l : List V} {k : Nat}, (∀ k, ∀ v ∈ l, m k v = some (v, [], k)) → mapM' m k l = some (l, [], k)
  | [], _, _ => rfl
  | x :: r, k, h => by
    rw [mapM_cons, h k x (by simp), Option.bind_some, mapM_flat fun k v hv => h k v (List.mem_cons_of_mem _ hv)]
    rfl
theorem mapM_u8 (l : List UInt8) : mapM' (matV σ (d + 1)) k (l.map u8) = some (l.map u8, [], k) := mapM_flat fun k v hv => by obtain ⟨_, _, rfl⟩ := List.mem_map.1 hv; rfl
theorem mapM_int (q : IntKind) (l : List Int) : mapM' (matV σ (d + 1)) k (l.map (V.int q)) = some (l.map (V.int q), [], k) := mapM_flat fun k v hv => by obtain ⟨_, _, rfl⟩ := List.mem_map.1 hv; rfl
theorem mapM_str (l : List (List UInt8)) : mapM' (matV σ (d + 1)) k (l.map V.str) = some (l.map V.str, [], k) := mapM_flat fun k v hv => by obtain ⟨_, _, rfl⟩ := List.mem_map.1 hv; rfl
end
theorem dep8 : dep = 8 := rfl
theorem bytesOf_u8 : ∀ l : List UInt8, bytesOf (l.map u8) = some l
  | [] => rfl
  | b :: l => by
    show (bytesOf (l.map u8)).map _ = _
    rw [bytesOf_u8 l]
    simp [UInt8.ofNat_toNat]
theorem cellsOf_str (s : List UInt8) : cellsOfV σ (.str s) = some (s.map u8, []) := rfl
theorem cellsOf_sl (k : SK) (n : Nat) (cs : List V) : cellsOfV σ (.sl k n cs) = some (cs, []) := rfl
theorem cellsOf_sli (id g off n esz : Nat) : cellsOfV σ (.sli id g off n esz) = if (σ id).gen = g ∧ (σ id).st ≠ .dead ∧ off + n * esz ≤ (σ id).cells.length ∧ ((σ id).arr = true ∨ (((σ id).cells.drop off).take (n * esz)).all noRefB = true) then
      some (((σ id).cells.drop off).take (n * esz), [id]) else none := rfl
theorem len_str (s : List UInt8) : lenV (.str s) = some s.length := rfl
theorem len_sl (k : SK) (n : Nat) (cs : List V) : lenV (.sl k n cs) = some n := rfl
theorem len_sli (id g off n esz : Nat) : lenV (.sli id g off n esz) = some n := rfl
theorem cells_int (k : IntKind) (n : Int) : (V.int k n).cells = [.int k n] := rfl
theorem cells_u8 (b : UInt8) : (u8 b).cells = [u8 b] := rfl
theorem cells_bool (b : Bool) : (V.bool b).cells = [.bool b] := rfl
theorem cells_str (b : List UInt8) : (V.str b).cells = [.str b] := rfl
theorem cells_agg (b : List V) : (V.agg b).cells = b := rfl
theorem cells_nilp : V.nilp.cells = [.nilp] := rfl
theorem cells_nilfn : V.nilfn.cells = [.nilfn] := rfl
theorem cells_ptr (a b c : Nat) : (V.ptr a b c).cells = [.ptr a b c] := rfl
theorem cells_pt (a : List V) (b : Nat) : (V.pt a b).cells = [.pt a b] := rfl
theorem cells_sl (k : SK) (n : Nat) (cs : List V) : (V.sl k n cs).cells = [.sl k n cs] := rfl
theorem cells_sli (a b c d e : Nat) : (V.sli a b c d e).cells = [.sli a b c d e] := rfl
theorem cells_fn (f : Nat) (cs : List V) : (V.fn f cs).cells = [.fn f cs] := rfl

/-! ### Operations -/
theorem bin_int (op : BinOp) (k : IntKind) (a b : Int) (h : (match op with | .shl | .shr => false | _ => true) = true) : binV op (.int k a) (.int k b) = intV op k a b := by
  cases op <;> first | (cases h; done) | simp [binV]
theorem bin_add (k : IntKind) (a b : Int) : binV .add (.int k a) (.int k b) = some (.int k (k.wrap (a + b))) := by simp [binV, intV]
theorem bin_sub (k : IntKind) (a b : Int) : binV .sub (.int k a) (.int k b) = some (.int k (k.wrap (a - b))) := by simp [binV, intV]
theorem bin_mul (k : IntKind) (a b : Int) : binV .mul (.int k a) (.int k b) = some (.int k (k.wrap (a * b))) := by simp [binV, intV]
theorem bin_quo (k : IntKind) (a b : Int) : binV .quo (.int k a) (.int k b) = if b = 0 then none else some (.int k (k.wrap (a.tdiv b))) := by simp [binV, intV]
theorem bin_rem (k : IntKind) (a b : Int) : binV .rem (.int k a) (.int k b) = if b = 0 then none else some (.int k (a.tmod b)) := by simp [binV, intV]
theorem bin_and (k : IntKind) (a b : Int) : binV .and (.int k a) (.int k b) = some (.int k (bits .and k a b)) := by simp [binV, intV]
theorem bin_or (k : IntKind) (a b : Int) : binV .or (.int k a) (.int k b) = some (.int k (bits .or k a b)) := by simp [binV, intV]
theorem bin_xor (k : IntKind) (a b : Int) : binV .xor (.int k a) (.int k b) = some (.int k (bits .xor k a b)) := by simp [binV, intV]
theorem bin_andNot (k : IntKind) (a b : Int) : binV .andNot (.int k a) (.int k b) = some (.int k (bits .andNot k a b)) := by simp [binV, intV]
theorem bin_eql (k : IntKind) (a b : Int) : binV .eql (.int k a) (.int k b) = some (.bool (decide (a = b))) := by simp [binV, intV, bq]
theorem bin_neq (k : IntKind) (a b : Int) : binV .neq (.int k a) (.int k b) = some (.bool (!decide (a = b))) := by simp [binV, intV, bnq]
theorem bin_lss (k : IntKind) (a b : Int) : binV .lss (.int k a) (.int k b) = some (.bool (decide (a < b))) := by simp [binV, intV]
theorem bin_leq (k : IntKind) (a b : Int) : binV .leq (.int k a) (.int k b) = some (.bool (decide (a ≤ b))) := by simp [binV, intV]
theorem bin_gtr (k : IntKind) (a b : Int) : binV .gtr (.int k a) (.int k b) = some (.bool (decide (b < a))) := by simp [binV, intV]
theorem bin_geq (k : IntKind) (a b : Int) : binV .geq (.int k a) (.int k b) = some (.bool (decide (b ≤ a))) := by simp [binV, intV]
theorem bin_shl (k q : IntKind) (a b : Int) : binV .shl (.int k a) (.int q b) = if 0 ≤ b then some (.int k (k.wrap (a * 2 ^ min b.toNat k.bits))) else none := rfl
theorem bin_shr (k q : IntKind) (a b : Int) : binV .shr (.int k a) (.int q b) = if 0 ≤ b then some (.int k (a.fdiv (2 ^ min b.toNat k.bits))) else none := rfl
theorem bin_s_add (a b : List UInt8) : binV .add (.str a) (.str b) = if a.length + b.length ≤ 4611686018427387904 then some (.str (a ++ b)) else none := rfl
theorem bin_s_eql (a b : List UInt8) : binV .eql (.str a) (.str b) = some (.bool (decide (a = b))) := by show some (V.bool (a == b)) = _; rw [bq]
theorem bin_s_neq (a b : List UInt8) : binV .neq (.str a) (.str b) = some (.bool (!decide (a = b))) := by show some (V.bool (!(a == b))) = _; rw [bq]
theorem bin_s_lss (a b : List UInt8) : binV .lss (.str a) (.str b) = some (.bool (Op.bytesLess a b)) := rfl
theorem bin_s_leq (a b : List UInt8) : binV .leq (.str a) (.str b) = some (.bool (Op.bytesLess a b || decide (a = b))) := by show some (V.bool (_ || (a == b))) = _; rw [bq]
theorem bin_s_gtr (a b : List UInt8) : binV .gtr (.str a) (.str b) = some (.bool (!(Op.bytesLess a b || decide (a = b)))) := by show some (V.bool (!(_ || (a == b)))) = _; rw [bq]
theorem bin_s_geq (a b : List UInt8) : binV .geq (.str a) (.str b) = some (.bool (!Op.bytesLess a b)) := rfl
theorem un_neg (k : IntKind) (n : Int) : unV .neg (.int k n) = some (.int k (k.wrap (0 - n))) := rfl
theorem un_not (b : Bool) : unV .not (.bool b) = some (.bool !b) := rfl
theorem un_xor_u32 (n : Int) : unV .xor (.int .u32 n) = some (.int .u32 (bits .xor .u32 4294967295 n)) := rfl
theorem un_xor_i64 (n : Int) : unV .xor (.int .i64 n) = some (.int .i64 (bits .xor .i64 (-1) n)) := rfl

variable (x y z : Opd)
theorem i_mov : insV tbl base t σ (.mov x) = some ⟨x.ev t, [], []⟩ := rfl
theorem i_pick : insV tbl base t σ (.pick x y z) = (match x.ev t with | .bool true => some ⟨y.ev t, [], []⟩ | .bool false => some ⟨z.ev t, [], []⟩ | _ => none) := rfl
theorem i_new (zs : List V) : insV tbl base t σ (.new zs) = some ⟨.ptr base ((σ base).gen + 1) 0, [(base, ⟨(σ base).gen + 1, .rw, false, zs⟩)], [base]⟩ := rfl
theorem i_box (n : Nat) : insV tbl base t σ (.box n x) = if (x.ev t).cells.length = n then some ⟨.ptr base ((σ base).gen + 1) 0, [(base, ⟨(σ base).gen + 1, .rw, false, (x.ev t).cells⟩)], [base]⟩ else none := rfl
theorem i_mk (zs : List V) (ps : List (Nat × Nat × Opd)) : insV tbl base t σ (.mk zs ps) = (fillV (ps.map fun p => (p.1, p.2.1, p.2.2.ev t)) zs).map fun cs => ⟨.agg cs, [], []⟩ := rfl
theorem pB_nil : ptrsB [] = false := rfl
theorem pB_int {k : IntKind} {n : Int} {r : List V} : ptrsB (.int k n :: r) = false := rfl
theorem pB_bool {b : Bool} {r : List V} : ptrsB (.bool b :: r) = false := rfl
theorem pB_str {b : List UInt8} {r : List V} : ptrsB (.str b :: r) = false := rfl
theorem pB_nilp {r : List V} : ptrsB (.nilp :: r) = false := rfl
theorem pB_nilfn {r : List V} : ptrsB (.nilfn :: r) = false := rfl
theorem pB_nilm {r : List V} : ptrsB (.nilm :: r) = false := rfl
theorem pB_sl {k : SK} {n : Nat} {c r : List V} : ptrsB (.sl k n c :: r) = false := rfl
theorem pB_sli {i g o n e : Nat} {r : List V} : ptrsB (.sli i g o n e :: r) = false := rfl
theorem pB_pt {c : List V} {o : Nat} {r : List V} : ptrsB (.pt c o :: r) = false := rfl
theorem pB_fn {f : Nat} {c r : List V} : ptrsB (.fn f c :: r) = false := rfl
theorem pB_agg {c r : List V} : ptrsB (.agg c :: r) = false := rfl
theorem pB_ptr {i g o : Nat} {r : List V} : ptrsB (.ptr i g o :: r) = r.all V.isPtr := rfl
theorem pB_all {i g o : Nat} {r : List V} : (V.ptr i g o :: r).all V.isPtr = r.all V.isPtr := rfl
theorem pB_is {i g o : Nat} : (V.ptr i g o).isPtr = true := rfl
theorem pB_all0 : ([] : List V).all V.isPtr = true := rfl
theorem pB_map_u8 {l : List UInt8} : ptrsB (l.map u8) = false := by cases l <;> rfl
theorem pB_map_str {l : List (List UInt8)} : ptrsB (l.map V.str) = false := by cases l <;> rfl
theorem i_mksl (e n : Nat) (zs : List V) (ps : List (Nat × Nat × Opd)) : insV tbl base t σ (.mksl e n zs ps) = (fillV (ps.map fun p => (p.1, p.2.1, p.2.2.ev t)) zs).bind fun cs => if ptrsB cs = true then some ⟨.sli base ((σ base).gen + 1) 0 n e, [(base, ⟨(σ base).gen + 1, .rw, false, cs⟩)], [base]⟩ else (mapQ (roV σ dep) cs).bind fun p =>
      if base ∉ p.2 then some ⟨.sli base ((σ base).gen + 1) 0 n e, fzs σ p.2 ++ [(base, ⟨(σ base).gen + 1, .rw, true, p.1⟩)], base :: p.2⟩ else none := rfl
theorem i_ld_ptr {id g off : Nat} (agg : Bool) (n : Nat) (h : x.ev t = .ptr id g off) : insV tbl base t σ (.ld agg n x) = if (σ id).gen = g ∧ (σ id).st ≠ .dead ∧ off + n ≤ (σ id).cells.length then
        if agg = true then some ⟨.agg (((σ id).cells.drop off).take n), [], [id]⟩ else ((σ id).cells[off]?).map fun v => ⟨v, [], [id]⟩
      else none := by simp only [insV, h]
/-- Reading: by what is read from. -/
def ldV (σ : Store) (agg : Bool) (n : Nat) (v : V) : Option Res := match v with
    | .ptr id g off =>
      if (σ id).gen = g ∧ (σ id).st ≠ .dead ∧ off + n ≤ (σ id).cells.length then
        if agg = true then some ⟨.agg (((σ id).cells.drop off).take n), [], [id]⟩ else ((σ id).cells[off]?).map fun v => ⟨v, [], [id]⟩
      else none
    | .pt cs off =>
      if off + n ≤ cs.length then
        if agg = true then some ⟨.agg ((cs.drop off).take n), [], []⟩ else (cs[off]?).bind fun v => some ⟨v, [], []⟩
      else none
    | _ => none
theorem i_ld (agg : Bool) (n : Nat) : insV tbl base t σ (.ld agg n x) = ldV σ agg n (x.ev t) := rfl
theorem ld_ptr (agg : Bool) (n id g off : Nat) : ldV σ agg n (.ptr id g off) = if (σ id).gen = g ∧ (σ id).st ≠ .dead ∧ off + n ≤ (σ id).cells.length then
        if agg = true then some ⟨.agg (((σ id).cells.drop off).take n), [], [id]⟩ else ((σ id).cells[off]?).map fun v => ⟨v, [], [id]⟩
      else none := rfl
theorem ld_pt (agg : Bool) (n off : Nat) (cs : List V) : ldV σ agg n (.pt cs off) = if off + n ≤ cs.length then
        if agg = true then some ⟨.agg ((cs.drop off).take n), [], []⟩ else (cs[off]?).bind fun v => some ⟨v, [], []⟩
      else none := rfl
def stV (σ : Store) (agg : Bool) (n : Nat) (a v : V) : Option Res := match a with
    | .ptr id g off =>
      if (σ id).gen = g ∧ (σ id).st = .rw ∧ off + n ≤ (σ id).cells.length ∧ v.cells.length = n then
        if (σ id).arr = true then (mapQ (roV σ dep) v.cells).bind fun p =>
          if id ∉ p.2 then some ⟨.tup [], fzs σ p.2 ++ [(id, { σ id with cells := if agg = true then splice (σ id).cells off p.1 else (σ id).cells.set off (p.1.headD .nilp) })], id :: p.2⟩ else none
        else some ⟨.tup [], [(id, { σ id with cells := if agg = true then splice (σ id).cells off v.cells else (σ id).cells.set off (v.cells.headD .nilp) })], [id]⟩
      else none
    | _ => none
theorem i_st (agg : Bool) (n : Nat) : insV tbl base t σ (.st agg n x y) = stV σ agg n (x.ev t) (y.ev t) := rfl
theorem st_ptr (agg : Bool) (n id g off : Nat) (v : V) : stV σ agg n (.ptr id g off) v = if (σ id).gen = g ∧ (σ id).st = .rw ∧ off + n ≤ (σ id).cells.length ∧ v.cells.length = n then
        if (σ id).arr = true then (mapQ (roV σ dep) v.cells).bind fun p =>
          if id ∉ p.2 then some ⟨.tup [], fzs σ p.2 ++ [(id, { σ id with cells := if agg = true then splice (σ id).cells off p.1 else (σ id).cells.set off (p.1.headD .nilp) })], id :: p.2⟩ else none
        else some ⟨.tup [], [(id, { σ id with cells := if agg = true then splice (σ id).cells off v.cells else (σ id).cells.set off (v.cells.headD .nilp) })], [id]⟩
      else none := rfl
def chkV (v : V) : Option Res := match v with
    | .ptr id g off => some ⟨.ptr id g off, [], []⟩
    | .pt cs off => some ⟨.pt cs off, [], []⟩
    | _ => none
theorem i_chk : insV tbl base t σ (.chk x) = chkV (x.ev t) := rfl
theorem chk_ptr (id g off : Nat) : chkV (.ptr id g off) = some ⟨.ptr id g off, [], []⟩ := rfl
theorem chk_pt (cs : List V) (off : Nat) : chkV (.pt cs off) = some ⟨.pt cs off, [], []⟩ := rfl
theorem i_bin (op : BinOp) : insV tbl base t σ (.bin op x y) = (binV op (x.ev t) (y.ev t)).bind fun v => some ⟨v, [], []⟩ := rfl
theorem i_eqn (neg : Bool) (k : EqK) : insV tbl base t σ (.eqn neg k x y) = (eqV k (x.ev t) (y.ev t)).bind fun b => some ⟨.bool (if neg = true then !b else b), [], []⟩ := rfl
theorem i_un (op : UnOp) : insV tbl base t σ (.un op x) = (unV op (x.ev t)).bind fun v => some ⟨v, [], []⟩ := rfl
def toIntV (k : IntKind) (v : V) : Option Res := match v with
    | .int _ n => some ⟨.int k (k.wrap n), [], []⟩
    | _ => none
theorem i_toInt (k : IntKind) : insV tbl base t σ (.toInt k x) = toIntV k (x.ev t) := rfl
theorem toInt_int (k q : IntKind) (n : Int) : toIntV k (.int q n) = some ⟨.int k (k.wrap n), [], []⟩ := rfl
theorem toInt_u8 (k : IntKind) (b : UInt8) : toIntV k (u8 b) = some ⟨.int k (k.wrap (b.toNat : Int)), [], []⟩ := rfl
def toBytesV (σ : Store) (base : Nat) (v : V) : Option Res := match v with
    | .str s => if s.length ≤ 140737488355328 then (if strsB = true then some ⟨.sli base ((σ base).gen + 1) 0 s.length 1, [(base, ⟨(σ base).gen + 1, .rw, true, s.map u8⟩)], [base]⟩ else some ⟨.sl .ro s.length (s.map u8), [], []⟩) else none
    | _ => none
theorem i_toBytes : insV tbl base t σ (.toBytes x) = toBytesV σ base (x.ev t) := rfl
theorem toBytes_str (s : List UInt8) : toBytesV σ base (.str s) = if s.length ≤ 140737488355328 then (if strsB = true then some ⟨.sli base ((σ base).gen + 1) 0 s.length 1, [(base, ⟨(σ base).gen + 1, .rw, true, s.map u8⟩)], [base]⟩ else some ⟨.sl .ro s.length (s.map u8), [], []⟩) else none := rfl
theorem strsB_is : (strsB = true) = True := by simp [strsB]
def toStrV (σ : Store) (v : V) : Option Res := match v with
    | .str _ => none
    | v => (cellsOfV σ v).bind fun p => if lenV v = some p.1.length then (bytesOf p.1).map fun s => ⟨.str s, [], p.2⟩ else none
theorem i_toStr : insV tbl base t σ (.toStr x) = toStrV σ (x.ev t) := rfl
theorem toStr_sl (k : SK) (n : Nat) (cs : List V) : toStrV σ (.sl k n cs) = if n = cs.length then (bytesOf cs).map fun s => ⟨.str s, [], []⟩ else none := by
  simp [toStrV, cellsOfV, lenV]
theorem toStr_sli (id g off n esz : Nat) : toStrV σ (.sli id g off n esz) = (cellsOfV σ (.sli id g off n esz)).bind fun p => if n = p.1.length then (bytesOf p.1).map fun s => ⟨.str s, [], p.2⟩ else none := by
  simp [toStrV, lenV]
def mkSliceV (σ : Store) (base esz bytes : Nat) (zero : List V) (l c : V) : Option Res := match l, c with
    | .int _ l, .int _ c => if 0 ≤ l ∧ l ≤ c ∧ c * bytes ≤ 140737488355328 then some ⟨.sli base ((σ base).gen + 1) 0 l.toNat esz, [(base, ⟨(σ base).gen + 1, .rw, true, (List.replicate c.toNat zero).flatten⟩)], [base]⟩ else none
    | _, _ => none
theorem i_mkSlice (e b : Nat) (zs : List V) : insV tbl base t σ (.mkSlice e b zs x y) = mkSliceV σ base e b zs (x.ev t) (y.ev t) := rfl
theorem mkSlice_int (esz bytes : Nat) (zero : List V) (k q : IntKind) (l c : Int) : mkSliceV σ base esz bytes zero (.int k l) (.int q c) = if 0 ≤ l ∧ l ≤ c ∧ c * bytes ≤ 140737488355328 then some ⟨.sli base ((σ base).gen + 1) 0 l.toNat esz, [(base, ⟨(σ base).gen + 1, .rw, true, (List.replicate c.toNat zero).flatten⟩)], [base]⟩ else none := rfl
def slSV (v : V) (lo hi : Option V) : Option Res := match v with
    | .str s => (bnd hi s.length s.length).bind fun h => (bnd lo 0 h).bind fun l => some ⟨.str ((s.drop l).take (h - l)), [], []⟩
    | _ => none
theorem i_slS (lo hi : Option Opd) : insV tbl base t σ (.slS x lo hi) = slSV (x.ev t) (lo.map (·.ev t)) (hi.map (·.ev t)) := rfl
theorem slS_str (s : List UInt8) (lo hi : Option V) : slSV (.str s) lo hi = (bnd hi s.length s.length).bind fun h => (bnd lo 0 h).bind fun l => some ⟨.str ((s.drop l).take (h - l)), [], []⟩ := rfl
def slLV (σ : Store) (esz : Nat) (v : V) (lo hi : Option V) : Option Res := match v with
    | .sl k n cs => (bnd hi n n).bind fun h => (bnd lo 0 h).bind fun l => if h * esz ≤ cs.length then some ⟨.sl k (h - l) ((cs.drop (l * esz)).take ((h - l) * esz)), [], []⟩ else none
    | .sli id g off n e =>
      if e = esz then
        match hi with
        | some (.int _ i) =>
          if 0 ≤ i ∧ i ≤ (n : Int) then (bnd lo 0 i.toNat).bind fun l => some ⟨.sli id g (off + l * esz) (i.toNat - l) esz, [], []⟩
          else if 0 ≤ i ∧ (σ id).gen = g ∧ (σ id).st ≠ .dead ∧ off + i.toNat * esz ≤ (σ id).cells.length ∧ 0 < esz then (bnd lo 0 i.toNat).bind fun l => some ⟨.sli id g (off + l * esz) (i.toNat - l) esz, [], [id]⟩
          else none
        | none => (bnd lo 0 n).bind fun l => some ⟨.sli id g (off + l * esz) (n - l) esz, [], []⟩
        | _ => none
      else none
    | _ => none
theorem i_slL (esz : Nat) (lo hi : Option Opd) : insV tbl base t σ (.slL esz x lo hi none) = slLV σ esz (x.ev t) (lo.map (·.ev t)) (hi.map (·.ev t)) := by
  simp only [insV, slLV]
  cases x.ev t <;> rfl
theorem slL_sl (esz n : Nat) (k : SK) (cs : List V) (lo hi : Option V) : slLV σ esz (.sl k n cs) lo hi = (bnd hi n n).bind fun h => (bnd lo 0 h).bind fun l => if h * esz ≤ cs.length then some ⟨.sl k (h - l) ((cs.drop (l * esz)).take ((h - l) * esz)), [], []⟩ else none := rfl
theorem slL_sli_none (esz id g off n : Nat) (lo : Option V) : slLV σ esz (.sli id g off n esz) lo none = (bnd lo 0 n).bind fun l => some ⟨.sli id g (off + l * esz) (n - l) esz, [], []⟩ := by
  simp [slLV]
theorem slL_sli_some (esz id g off n : Nat) (lo : Option V) (q : IntKind) (i : Int) : slLV σ esz (.sli id g off n esz) lo (some (.int q i)) = if 0 ≤ i ∧ i ≤ (n : Int) then (bnd lo 0 i.toNat).bind fun l => some ⟨.sli id g (off + l * esz) (i.toNat - l) esz, [], []⟩
          else if 0 ≤ i ∧ (σ id).gen = g ∧ (σ id).st ≠ .dead ∧ off + i.toNat * esz ≤ (σ id).cells.length ∧ 0 < esz then (bnd lo 0 i.toNat).bind fun l => some ⟨.sli id g (off + l * esz) (i.toNat - l) esz, [], [id]⟩
          else none := by
  simp [slLV]
def slAV (σ : Store) (n esz : Nat) (v : V) (lo hi : Option V) : Option Res := match v with
    | .ptr id g off => (bnd hi n n).bind fun h => (bnd lo 0 h).bind fun l =>
        if (σ id).gen = g ∧ (σ id).st ≠ .dead ∧ off + n * esz = (σ id).cells.length then some ⟨.sli id g (off + l * esz) (h - l) esz, [], [id]⟩ else none
    | _ => none
theorem i_slA (n esz : Nat) (lo hi : Option Opd) : insV tbl base t σ (.slA n esz x lo hi) = slAV σ n esz (x.ev t) (lo.map (·.ev t)) (hi.map (·.ev t)) := rfl
theorem slA_ptr (n esz id g off : Nat) (lo hi : Option V) : slAV σ n esz (.ptr id g off) lo hi = (bnd hi n n).bind fun h => (bnd lo 0 h).bind fun l =>
        if (σ id).gen = g ∧ (σ id).st ≠ .dead ∧ off + n * esz = (σ id).cells.length then some ⟨.sli id g (off + l * esz) (h - l) esz, [], [id]⟩ else none := rfl
def fadV (off : Nat) (v : V) : Option Res := match v with
    | .ptr id g o => some ⟨.ptr id g (o + off), [], []⟩
    | .pt cs o => some ⟨.pt cs (o + off), [], []⟩
    | _ => none
theorem i_fad (off : Nat) : insV tbl base t σ (.fad off x) = fadV off (x.ev t) := rfl
theorem fad_ptr (off id g o : Nat) : fadV off (.ptr id g o) = some ⟨.ptr id g (o + off), [], []⟩ := rfl
theorem fad_pt (off o : Nat) (cs : List V) : fadV off (.pt cs o) = some ⟨.pt cs (o + off), [], []⟩ := rfl
def fldV (agg : Bool) (off n : Nat) (v : V) : Option Res := match v with
    | .agg cs => if off + n ≤ cs.length then if agg = true then some ⟨.agg ((cs.drop off).take n), [], []⟩ else (cs[off]?).bind fun v => some ⟨v, [], []⟩ else none
    | _ => none
theorem i_fld (agg : Bool) (off n : Nat) : insV tbl base t σ (.fld agg off n x) = fldV agg off n (x.ev t) := rfl
theorem fld_agg (agg : Bool) (off n : Nat) (cs : List V) : fldV agg off n (.agg cs) = if off + n ≤ cs.length then if agg = true then some ⟨.agg ((cs.drop off).take n), [], []⟩ else (cs[off]?).bind fun v => some ⟨v, [], []⟩ else none := rfl
def iaAV (n esz : Nat) (v i : V) : Option Res := match v, i with
    | .ptr id g o, .int _ j => if 0 ≤ j ∧ j < (n : Int) then some ⟨.ptr id g (o + j.toNat * esz), [], []⟩ else none
    | .pt cs o, .int _ j => if 0 ≤ j ∧ j < (n : Int) then some ⟨.pt cs (o + j.toNat * esz), [], []⟩ else none
    | _, _ => none
theorem i_iaA (n esz : Nat) : insV tbl base t σ (.iaA n esz x y) = iaAV n esz (x.ev t) (y.ev t) := by
  simp only [insV, iaAV]
  cases x.ev t <;> cases y.ev t <;> rfl
theorem iaA_ptr (n esz id g o : Nat) (k : IntKind) (j : Int) : iaAV n esz (.ptr id g o) (.int k j) = if 0 ≤ j ∧ j < (n : Int) then some ⟨.ptr id g (o + j.toNat * esz), [], []⟩ else none := rfl
theorem iaA_pt (n esz o : Nat) (cs : List V) (k : IntKind) (j : Int) : iaAV n esz (.pt cs o) (.int k j) = if 0 ≤ j ∧ j < (n : Int) then some ⟨.pt cs (o + j.toNat * esz), [], []⟩ else none := rfl
def iaLV (esz : Nat) (v i : V) : Option Res := match v, i with
    | .sli id g o n e, .int _ j => if 0 ≤ j ∧ j < (n : Int) ∧ e = esz then some ⟨.ptr id g (o + j.toNat * esz), [], []⟩ else none
    | .sl _ n cs, .int _ j => if 0 ≤ j ∧ j < (n : Int) then some ⟨.pt cs (j.toNat * esz), [], []⟩ else none
    | _, _ => none
theorem i_iaL (esz : Nat) : insV tbl base t σ (.iaL esz x y) = iaLV esz (x.ev t) (y.ev t) := by
  simp only [insV, iaLV]
  cases x.ev t <;> cases y.ev t <;> rfl
theorem iaL_sli (esz id g o n e : Nat) (k : IntKind) (j : Int) : iaLV esz (.sli id g o n e) (.int k j) = if 0 ≤ j ∧ j < (n : Int) ∧ e = esz then some ⟨.ptr id g (o + j.toNat * esz), [], []⟩ else none := rfl
theorem iaL_sl (esz n : Nat) (q : SK) (cs : List V) (k : IntKind) (j : Int) : iaLV esz (.sl q n cs) (.int k j) = if 0 ≤ j ∧ j < (n : Int) then some ⟨.pt cs (j.toNat * esz), [], []⟩ else none := rfl
def ixAV (agg : Bool) (n esz : Nat) (v i : V) : Option Res := match v, i with
    | .agg cs, .int _ j => if 0 ≤ j ∧ j < (n : Int) ∧ j.toNat * esz + esz ≤ cs.length then if agg = true then some ⟨.agg ((cs.drop (j.toNat * esz)).take esz), [], []⟩ else (cs[j.toNat * esz]?).bind fun v => some ⟨v, [], []⟩ else none
    | _, _ => none
theorem i_ixA (agg : Bool) (n esz : Nat) : insV tbl base t σ (.ixA agg n esz x y) = ixAV agg n esz (x.ev t) (y.ev t) := rfl
theorem ixA_agg (agg : Bool) (n esz : Nat) (cs : List V) (k : IntKind) (j : Int) : ixAV agg n esz (.agg cs) (.int k j) = if 0 ≤ j ∧ j < (n : Int) ∧ j.toNat * esz + esz ≤ cs.length then if agg = true then some ⟨.agg ((cs.drop (j.toNat * esz)).take esz), [], []⟩ else (cs[j.toNat * esz]?).bind fun v => some ⟨v, [], []⟩ else none := rfl
def ixSV (v i : V) : Option Res := match v, i with
    | .str s, .int _ j => if 0 ≤ j then (s[j.toNat]?).bind fun b => some ⟨u8 b, [], []⟩ else none
    | _, _ => none
theorem i_ixS : insV tbl base t σ (.ixS x y) = ixSV (x.ev t) (y.ev t) := rfl
theorem ixS_str (s : List UInt8) (k : IntKind) (j : Int) : ixSV (.str s) (.int k j) = if 0 ≤ j then (s[j.toNat]?).bind fun b => some ⟨u8 b, [], []⟩ else none := rfl
def extV (i : Nat) (v : V) : Option Res := match v with
    | .tup vs => (vs[i]?).bind fun v => some ⟨v, [], []⟩
    | _ => none
theorem i_ext (i : Nat) : insV tbl base t σ (.ext i x) = extV i (x.ev t) := rfl
theorem ext_tup (i : Nat) (vs : List V) : extV i (.tup vs) = (vs[i]?).bind fun v => some ⟨v, [], []⟩ := rfl
def lenIV (text : Bool) (v : V) : Option Res := match v, text with
    | .str s, true => some ⟨.int .i64 (s.length : Int), [], []⟩
    | .sl _ n _, false => some ⟨.int .i64 (n : Int), [], []⟩
    | .sli _ _ _ n _, false => some ⟨.int .i64 (n : Int), [], []⟩
    | _, _ => none
theorem i_len (text : Bool) : insV tbl base t σ (.len text x) = lenIV text (x.ev t) := by
  simp only [insV, lenIV]
  cases x.ev t <;> cases text <;> rfl
theorem lenI_str (s : List UInt8) : lenIV true (.str s) = some ⟨.int .i64 (s.length : Int), [], []⟩ := rfl
theorem lenI_sl (k : SK) (n : Nat) (cs : List V) : lenIV false (.sl k n cs) = some ⟨.int .i64 (n : Int), [], []⟩ := rfl
theorem lenI_sli (id g off n e : Nat) : lenIV false (.sli id g off n e) = some ⟨.int .i64 (n : Int), [], []⟩ := rfl
def sameSV (v : V) : Option Res := match v with
    | .str s => some ⟨.str s, [], []⟩
    | _ => none
theorem i_sameS : insV tbl base t σ (.sameS x) = sameSV (x.ev t) := rfl
theorem sameS_str (s : List UInt8) : sameSV (.str s) = some ⟨.str s, [], []⟩ := rfl
def cmpV (v w : V) : Option Res := match v, w with
  | .str a, .str b => some ⟨.int .i64 (cmpS a b), [], []⟩
  | _, _ => none
theorem i_cmp : insV tbl base t σ (.cmp x y) = cmpV (x.ev t) (y.ev t) := by
  simp only [insV, cmpV]
  rfl
theorem cmp_str (a b : List UInt8) : cmpV (.str a) (.str b) = some ⟨.int .i64 (cmpS a b), [], []⟩ := rfl
def mmV (mx : Bool) (v w : V) : Option Res := match v, w with
    | .int k a, .int k' b => if k = k' then some ⟨.int k (if mx = true then (if b > a then b else a) else (if b < a then b else a)), [], []⟩ else none
    | _, _ => none
theorem i_mm (mx : Bool) : insV tbl base t σ (.mm mx x y) = mmV mx (x.ev t) (y.ev t) := rfl
theorem mm_max (k : IntKind) (a b : Int) : mmV true (.int k a) (.int k b) = some ⟨.int k (max a b), [], []⟩ := by
  simp only [mmV, if_true]
  congr 2
  split <;> congr 1 <;> omega
theorem mm_min (k : IntKind) (a b : Int) : mmV false (.int k a) (.int k b) = some ⟨.int k (min a b), [], []⟩ := by
  simp only [mmV, if_true, Bool.false_eq_true, if_false]
  congr 2
  split <;> congr 1 <;> omega
theorem nc_min (a b : Nat) : min (a : Int) (b : Int) = ((min a b : Nat) : Int) := by omega
theorem nc_max (a b : Nat) : max (a : Int) (b : Int) = ((max a b : Nat) : Int) := by omega
theorem nc_max_r (a n : Nat) : max (no_index (OfNat.ofNat n) : Int) (a : Int) = ((max (OfNat.ofNat n : Nat) a : Nat) : Int) := nc_max _ _
theorem nc_max_l (a n : Nat) : max (a : Int) (no_index (OfNat.ofNat n) : Int) = ((max a (OfNat.ofNat n : Nat) : Nat) : Int) := nc_max _ _
theorem nc_min_r (a n : Nat) : min (no_index (OfNat.ofNat n) : Int) (a : Int) = ((min (OfNat.ofNat n : Nat) a : Nat) : Int) := nc_min _ _
theorem nc_min_l (a n : Nat) : min (a : Int) (no_index (OfNat.ofNat n) : Int) = ((min a (OfNat.ofNat n : Nat) : Nat) : Int) := nc_min _ _
theorem i_app (e b : Nat) : insV tbl base t σ (.app e b x y) = appV σ base e b (x.ev t) (y.ev t) := rfl
theorem i_appP (e b : Nat) : insV tbl base t σ (.appP e b x y) = appPV σ base e b (x.ev t) (y.ev t) := rfl
theorem appP_sli {id g off m e esz bytes : Nat} (v : V) : appPV σ base esz bytes v (.sli id g off m e) = if (σ id).arr = true ∨ m = 0 then appV σ base esz bytes v (.sli id g off m e) else if e = esz ∧ (σ id).gen = g ∧ (σ id).st ≠ .dead ∧ off + m * esz ≤ (σ id).cells.length then appQ σ base esz bytes v m (((σ id).cells.drop off).take (m * esz)) id else none := rfl
theorem appP_sl {k : SK} {n esz bytes : Nat} {cs : List V} (v : V) : appPV σ base esz bytes v (.sl k n cs) = appV σ base esz bytes v (.sl k n cs) := rfl
theorem appQ_sl {k : SK} {n esz bytes m iy : Nat} {cs yc : List V} : appQ σ base esz bytes (.sl k n cs) m yc iy = if k ≠ .ro ∧ m * bytes ≤ 140737488355328 then some ⟨.sli base ((σ base).gen + 1) 0 m esz, [(base, ⟨(σ base).gen + 1, .rw, false, yc⟩)], [base, iy]⟩ else none := rfl
theorem appQ_sli {id g off n e esz bytes m iy : Nat} {yc : List V} : appQ σ base esz bytes (.sli id g off n e) m yc iy = if e = esz ∧ (σ id).gen = g ∧ (σ id).st = .rw ∧ (σ id).arr = false ∧ off + n * esz = (σ id).cells.length ∧ (n + m) * bytes ≤ 140737488355328 then
      some ⟨.sli base ((σ base).gen + 1) 0 (n + m) esz, [(id, { σ id with st := .dead }), (base, ⟨(σ base).gen + 1, .rw, false, (σ id).cells.drop off ++ yc⟩)], [base, id, iy]⟩
    else none := rfl
theorem app_sl {k : SK} {esz bytes n m : Nat} {cs yc : List V} {ids : List Nat} {v : V} (hc : cellsOfV σ v = some (yc, ids)) (hl : lenV v = some m) (hm : m ≠ 0) (hk : k ≠ .ro) (hb : m * bytes ≤ 140737488355328) (hy : yc.length = m * esz) :
    appV σ base esz bytes (.sl k n cs) v = some ⟨.sli base ((σ base).gen + 1) 0 m esz, [(base, ⟨(σ base).gen + 1, .rw, true, yc⟩)], base :: ids⟩ := by
  unfold appV
  rw [hc, hl]
  simp only [Option.bind_some]
  rw [if_neg hm, if_pos ⟨hk, hb, hy⟩]
theorem app_0 {esz bytes : Nat} {yc : List V} {ids : List Nat} {w v : V} (hc : cellsOfV σ v = some (yc, ids)) (hl : lenV v = some 0) (hw : (match w with | .sl _ _ _ | .sli _ _ _ _ _ => True | _ => False)) :
    appV σ base esz bytes w v = some ⟨w, [], ids⟩ := by
  unfold appV
  rw [hc, hl]
  simp only [Option.bind_some, if_true]
  cases w <;> first | exact hw.elim | rfl
theorem app_sli {id g off n esz bytes m : Nat} {yc cs : List V} {ids : List Nat} {v : V} (hs : σ id = ⟨g, .rw, true, cs⟩) (hc : cellsOfV σ v = some (yc, ids)) (hl : lenV v = some m) (hm : m ≠ 0) (hn : off + n * esz = cs.length) (hb : (n + m) * bytes ≤ 140737488355328) (hy : yc.length = m * esz) (h0 : 0 < esz) :
    appV σ base esz bytes (.sli id g off n esz) v = some ⟨.sli base ((σ base).gen + 1) 0 (n + m) esz, [(id, ⟨g, .dead, true, cs⟩), (base, ⟨(σ base).gen + 1, .rw, true, cs.drop off ++ yc⟩)], base :: id :: ids⟩ := by
  unfold appV
  rw [hc, hl]
  simp only [Option.bind_some]
  rw [if_neg hm, hs]
  simp only
  have h1 : 0 < m * esz := Nat.mul_pos (by omega) h0
  have h2 : (n + m) * esz = n * esz + m * esz := Nat.add_mul _ _ _
  rw [if_pos ⟨trivial, trivial, trivial, trivial, by omega, hb, hy⟩, if_neg (by omega), List.take_of_length_le (by rw [List.length_drop]; omega)]
theorem i_copy (e : Nat) : insV tbl base t σ (.copy e x y) = (match x.ev t with
    | .sli id g off n e' => (cellsOfV σ (y.ev t)).bind fun p => (lenV (y.ev t)).bind fun m =>
        if e' = e ∧ (σ id).gen = g ∧ (σ id).st = .rw ∧ (σ id).arr = true ∧ off + n * e ≤ (σ id).cells.length ∧ p.1.length = m * e then
          some ⟨.int .i64 ((min m n : Nat) : Int), [(id, { σ id with cells := splice (σ id).cells off (p.1.take (min m n * e)) })], id :: p.2⟩
        else none
    | _ => none) := rfl
theorem i_clo (f : Nat) (caps : List Opd) : insV tbl base t σ (.clo f caps) = some ⟨.fn f (caps.map (·.ev t)), [], []⟩ := rfl
theorem i_call (f : Nat) (xs : List Opd) : insV tbl base t σ (.call f xs) = callV tbl σ base f (xs.map (·.ev t)) := rfl
def callvV (tbl : Tbl) (σ : Store) (base : Nat) (v : V) (args : List V) : Option Res := match v with
    | .fn f caps => callV tbl σ base f (args ++ caps)
    | .mth f id g off => callV tbl σ base f (.ptr id g off :: args)
    | _ => none
theorem i_callv (xs : List Opd) : insV tbl base t σ (.callv x xs) = callvV tbl σ base (x.ev t) (xs.map (·.ev t)) := rfl
theorem callv_fn (f : Nat) (caps args : List V) : callvV tbl σ base (.fn f caps) args = callV tbl σ base f (args ++ caps) := rfl
theorem callv_mth (f id g off : Nat) (args : List V) : callvV tbl σ base (.mth f id g off) args = callV tbl σ base f (.ptr id g off :: args) := rfl
theorem pass_nil : passV σ [] [] = some ([], [], []) := rfl
theorem pass_bor (ms : List Mode) (v : V) (vs : List V) : passV σ (.bor :: ms) (v :: vs) = (roV σ dep v).bind fun p => (passV σ ms vs).bind fun q => some (p.1 :: q.1, q.2.1, p.2 ++ q.2.2) := rfl
theorem pass_io (ms : List Mode) (v : V) (vs : List V) : passV σ (.io :: ms) (v :: vs) = (ownV σ dep v).bind fun p => (passV σ ms vs).bind fun q => some (p.1 :: q.1, p.2 ++ q.2.1, q.2.2) := rfl
theorem pass_mov (ms : List Mode) (v : V) (vs : List V) : passV σ (.mov :: ms) (v :: vs) = (ownV σ dep v).bind fun p => (passV σ ms vs).bind fun q => some (p.1 :: q.1, p.2 ++ q.2.1, q.2.2) := rfl
theorem back_nil {k : Nat} : backV σ k [] [] [] = some [] := rfl
theorem back_bor {k : Nat} (ms : List Mode) (v : V) (vs xs : List V) : backV σ k (.bor :: ms) (v :: vs) xs = backV σ k ms vs xs := by cases xs <;> rfl
theorem back_mov {k : Nat} (ms : List Mode) (v : V) (vs xs : List V) : backV σ k (.mov :: ms) (v :: vs) xs = backV σ k ms vs xs := by cases xs <;> rfl
theorem back_io_ptr {k id g : Nat} (ms : List Mode) (cs vs xs : List V) : backV σ k (.io :: ms) (.ptr id g 0 :: vs) (.opt cs :: xs) = if (σ id).gen = g ∧ (σ id).st ≠ .dead ∧ cs.length = (σ id).cells.length then (mapM' (matV σ dep) k cs).bind fun p => (backV σ p.2.2 ms vs xs).map fun w2 => p.2.1 ++ (id, ⟨g, .rw, false, p.1⟩) :: w2 else none := rfl
theorem back_io_nil {k : Nat} (ms : List Mode) (vs xs : List V) : backV σ k (.io :: ms) (.nilp :: vs) (.nilp :: xs) = backV σ k ms vs xs := rfl
theorem ios_nil (vs : List V) : iosV σ [] vs = some ([], []) := rfl
theorem ios_io (ms : List Mode) (v : V) (vs : List V) : iosV σ (.io :: ms) (v :: vs) = (ownV σ dep v).bind fun p => (iosV σ ms vs).bind fun q => some (p.1 :: q.1, p.2 ++ q.2) := rfl
theorem ios_bor (ms : List Mode) (v : V) (vs : List V) : iosV σ (.bor :: ms) (v :: vs) = iosV σ ms vs := rfl
theorem ios_mov (ms : List Mode) (v : V) (vs : List V) : iosV σ (.mov :: ms) (v :: vs) = iosV σ ms vs := rfl
theorem fill_nil (cs : List V) : fillV [] cs = some cs := rfl
theorem fill_cons (off size : Nat) (v : V) (r : List (Nat × Nat × V)) (cs : List V) : fillV ((off, size, v) :: r) cs = if v.cells.length = size ∧ off + size ≤ cs.length then fillV r (cs.take off ++ v.cells ++ cs.drop (off + size)) else none := rfl
theorem outR_eq (ms : List Mode) (res : List IRes) (ps : List V) : outR ms res ps ⟨t, σ⟩ = (ressV ⟨t, σ⟩ res).bind fun vs => (ownV σ dep (tupV vs)).bind fun p => (iosV σ ms ps).bind fun q => if (p.2 ++ q.2).Nodup then some (p.1, q.1) else out2V ms ps σ p.2 (tupV vs) := rfl
theorem ress_nil {s : St} : ressV s [] = some [] := rfl
theorem ress_cons {s : St} (r : IRes) (rs : List IRes) : ressV s (r :: rs) = (resV s r).bind fun v => (ressV s rs).map fun vs => v :: vs := rfl
theorem res_tmp (i : Nat) : resV ⟨t, σ⟩ (.tmp i) = some (t i) := rfl
def resC (σ : Store) (agg : Bool) (n : Nat) (v : V) : Option V := match v with
    | .ptr id g off =>
      if (σ id).gen = g ∧ (σ id).st ≠ .dead ∧ off + n ≤ (σ id).cells.length then
        if agg then some (.agg (((σ id).cells.drop off).take n)) else (σ id).cells[off]?
      else none
    | _ => none
theorem res_cell (i : Nat) (agg : Bool) (n : Nat) : resV ⟨t, σ⟩ (.cell i agg n) = resC σ agg n (t i) := rfl
theorem resC_ptr (agg : Bool) (n id g off : Nat) : resC σ agg n (.ptr id g off) = if (σ id).gen = g ∧ (σ id).st ≠ .dead ∧ off + n ≤ (σ id).cells.length then
        if agg = true then some (.agg (((σ id).cells.drop off).take n)) else (σ id).cells[off]?
      else none := rfl
theorem tup_1 (v : V) : tupV [v] = v := rfl
theorem tup_0 : tupV [] = .tup [] := rfl
theorem tup_2 (v w : V) (r : List V) : tupV (v :: w :: r) = .tup (v :: w :: r) := rfl

/-! ### One operation, by its kind -/
section
variable (d b : Nat) (ds an : List Nat) (r : List IOp) (K : St → Prop)
theorem rc_mov (x : Opd) : regA tbl (⟨some d, none, .mov x, ds, an, b⟩ :: r) K ⟨t, σ⟩ = contA tbl r K t σ d (insV tbl b t σ (.mov x)) := reg_cons rfl d b ds an r K
theorem rc_pick (x y z : Opd) : regA tbl (⟨some d, none, .pick x y z, ds, an, b⟩ :: r) K ⟨t, σ⟩ = contA tbl r K t σ d (insV tbl b t σ (.pick x y z)) := reg_cons rfl d b ds an r K
theorem rc_new (zs : List V) : regA tbl (⟨some d, none, .new zs, ds, an, b⟩ :: r) K ⟨t, σ⟩ = contA tbl r K t σ d (insV tbl b t σ (.new zs)) := reg_cons rfl d b ds an r K
theorem rc_box (n : Nat) (x : Opd) : regA tbl (⟨some d, none, .box n x, ds, an, b⟩ :: r) K ⟨t, σ⟩ = contA tbl r K t σ d (insV tbl b t σ (.box n x)) := reg_cons rfl d b ds an r K
theorem rc_mk (zs : List V) (ps : List (Nat × Nat × Opd)) : regA tbl (⟨some d, none, .mk zs ps, ds, an, b⟩ :: r) K ⟨t, σ⟩ = contA tbl r K t σ d (insV tbl b t σ (.mk zs ps)) := reg_cons rfl d b ds an r K
theorem rc_mksl (e n : Nat) (zs : List V) (ps : List (Nat × Nat × Opd)) : regA tbl (⟨some d, none, .mksl e n zs ps, ds, an, b⟩ :: r) K ⟨t, σ⟩ = contA tbl r K t σ d (insV tbl b t σ (.mksl e n zs ps)) := reg_cons rfl d b ds an r K
theorem rc_ld (g : Bool) (n : Nat) (x : Opd) : regA tbl (⟨some d, none, .ld g n x, ds, an, b⟩ :: r) K ⟨t, σ⟩ = contA tbl r K t σ d (insV tbl b t σ (.ld g n x)) := reg_cons rfl d b ds an r K
theorem rc_st (g : Bool) (n : Nat) (x y : Opd) : regA tbl (⟨some d, none, .st g n x y, ds, an, b⟩ :: r) K ⟨t, σ⟩ = contA tbl r K t σ d (insV tbl b t σ (.st g n x y)) := reg_cons rfl d b ds an r K
theorem rc_chk (x : Opd) : regA tbl (⟨some d, none, .chk x, ds, an, b⟩ :: r) K ⟨t, σ⟩ = contA tbl r K t σ d (insV tbl b t σ (.chk x)) := reg_cons rfl d b ds an r K
theorem rc_bin (op : BinOp) (x y : Opd) : regA tbl (⟨some d, none, .bin op x y, ds, an, b⟩ :: r) K ⟨t, σ⟩ = contA tbl r K t σ d (insV tbl b t σ (.bin op x y)) := reg_cons rfl d b ds an r K
theorem rc_eqn (g : Bool) (k : EqK) (x y : Opd) : regA tbl (⟨some d, none, .eqn g k x y, ds, an, b⟩ :: r) K ⟨t, σ⟩ = contA tbl r K t σ d (insV tbl b t σ (.eqn g k x y)) := reg_cons rfl d b ds an r K
theorem rc_un (op : UnOp) (x : Opd) : regA tbl (⟨some d, none, .un op x, ds, an, b⟩ :: r) K ⟨t, σ⟩ = contA tbl r K t σ d (insV tbl b t σ (.un op x)) := reg_cons rfl d b ds an r K
theorem rc_toInt (k : IntKind) (x : Opd) : regA tbl (⟨some d, none, .toInt k x, ds, an, b⟩ :: r) K ⟨t, σ⟩ = contA tbl r K t σ d (insV tbl b t σ (.toInt k x)) := reg_cons rfl d b ds an r K
theorem rc_toBytes (x : Opd) : regA tbl (⟨some d, none, .toBytes x, ds, an, b⟩ :: r) K ⟨t, σ⟩ = contA tbl r K t σ d (insV tbl b t σ (.toBytes x)) := reg_cons rfl d b ds an r K
theorem rc_toStr (x : Opd) : regA tbl (⟨some d, none, .toStr x, ds, an, b⟩ :: r) K ⟨t, σ⟩ = contA tbl r K t σ d (insV tbl b t σ (.toStr x)) := reg_cons rfl d b ds an r K
theorem rc_mkSlice (e n : Nat) (zs : List V) (x y : Opd) : regA tbl (⟨some d, none, .mkSlice e n zs x y, ds, an, b⟩ :: r) K ⟨t, σ⟩ = contA tbl r K t σ d (insV tbl b t σ (.mkSlice e n zs x y)) := reg_cons rfl d b ds an r K
theorem rc_slS (x : Opd) (lo hi : Option Opd) : regA tbl (⟨some d, none, .slS x lo hi, ds, an, b⟩ :: r) K ⟨t, σ⟩ = contA tbl r K t σ d (insV tbl b t σ (.slS x lo hi)) := reg_cons rfl d b ds an r K
theorem rc_slL (e : Nat) (x : Opd) (lo hi mx : Option Opd) : regA tbl (⟨some d, none, .slL e x lo hi mx, ds, an, b⟩ :: r) K ⟨t, σ⟩ = contA tbl r K t σ d (insV tbl b t σ (.slL e x lo hi mx)) := reg_cons rfl d b ds an r K
theorem rc_slA (n e : Nat) (x : Opd) (lo hi : Option Opd) : regA tbl (⟨some d, none, .slA n e x lo hi, ds, an, b⟩ :: r) K ⟨t, σ⟩ = contA tbl r K t σ d (insV tbl b t σ (.slA n e x lo hi)) := reg_cons rfl d b ds an r K
theorem rc_fad (n : Nat) (x : Opd) : regA tbl (⟨some d, none, .fad n x, ds, an, b⟩ :: r) K ⟨t, σ⟩ = contA tbl r K t σ d (insV tbl b t σ (.fad n x)) := reg_cons rfl d b ds an r K
theorem rc_fld (g : Bool) (n m : Nat) (x : Opd) : regA tbl (⟨some d, none, .fld g n m x, ds, an, b⟩ :: r) K ⟨t, σ⟩ = contA tbl r K t σ d (insV tbl b t σ (.fld g n m x)) := reg_cons rfl d b ds an r K
theorem rc_iaA (n e : Nat) (x y : Opd) : regA tbl (⟨some d, none, .iaA n e x y, ds, an, b⟩ :: r) K ⟨t, σ⟩ = contA tbl r K t σ d (insV tbl b t σ (.iaA n e x y)) := reg_cons rfl d b ds an r K
theorem rc_iaL (e : Nat) (x y : Opd) : regA tbl (⟨some d, none, .iaL e x y, ds, an, b⟩ :: r) K ⟨t, σ⟩ = contA tbl r K t σ d (insV tbl b t σ (.iaL e x y)) := reg_cons rfl d b ds an r K
theorem rc_ixA (g : Bool) (n e : Nat) (x y : Opd) : regA tbl (⟨some d, none, .ixA g n e x y, ds, an, b⟩ :: r) K ⟨t, σ⟩ = contA tbl r K t σ d (insV tbl b t σ (.ixA g n e x y)) := reg_cons rfl d b ds an r K
theorem rc_ixS (x y : Opd) : regA tbl (⟨some d, none, .ixS x y, ds, an, b⟩ :: r) K ⟨t, σ⟩ = contA tbl r K t σ d (insV tbl b t σ (.ixS x y)) := reg_cons rfl d b ds an r K
theorem rc_ext (n : Nat) (x : Opd) : regA tbl (⟨some d, none, .ext n x, ds, an, b⟩ :: r) K ⟨t, σ⟩ = contA tbl r K t σ d (insV tbl b t σ (.ext n x)) := reg_cons rfl d b ds an r K
theorem rc_len (g : Bool) (x : Opd) : regA tbl (⟨some d, none, .len g x, ds, an, b⟩ :: r) K ⟨t, σ⟩ = contA tbl r K t σ d (insV tbl b t σ (.len g x)) := reg_cons rfl d b ds an r K
theorem rc_sameS (x : Opd) : regA tbl (⟨some d, none, .sameS x, ds, an, b⟩ :: r) K ⟨t, σ⟩ = contA tbl r K t σ d (insV tbl b t σ (.sameS x)) := reg_cons rfl d b ds an r K
theorem rc_cmp (x y : Opd) : regA tbl (⟨some d, none, .cmp x y, ds, an, b⟩ :: r) K ⟨t, σ⟩ = contA tbl r K t σ d (insV tbl b t σ (.cmp x y)) := reg_cons rfl d b ds an r K
theorem rc_mm (g : Bool) (x y : Opd) : regA tbl (⟨some d, none, .mm g x y, ds, an, b⟩ :: r) K ⟨t, σ⟩ = contA tbl r K t σ d (insV tbl b t σ (.mm g x y)) := reg_cons rfl d b ds an r K
theorem rc_app (e n : Nat) (x y : Opd) : regA tbl (⟨some d, none, .app e n x y, ds, an, b⟩ :: r) K ⟨t, σ⟩ = contA tbl r K t σ d (insV tbl b t σ (.app e n x y)) := reg_cons rfl d b ds an r K
theorem rc_appP (e n : Nat) (x y : Opd) : regA tbl (⟨some d, none, .appP e n x y, ds, an, b⟩ :: r) K ⟨t, σ⟩ = contA tbl r K t σ d (insV tbl b t σ (.appP e n x y)) := reg_cons rfl d b ds an r K
theorem rc_copy (e : Nat) (x y : Opd) : regA tbl (⟨some d, none, .copy e x y, ds, an, b⟩ :: r) K ⟨t, σ⟩ = contA tbl r K t σ d (insV tbl b t σ (.copy e x y)) := reg_cons rfl d b ds an r K
theorem rc_clo (f : Nat) (xs : List Opd) : regA tbl (⟨some d, none, .clo f xs, ds, an, b⟩ :: r) K ⟨t, σ⟩ = contA tbl r K t σ d (insV tbl b t σ (.clo f xs)) := reg_cons rfl d b ds an r K
theorem rc_callv (x : Opd) (xs : List Opd) : regA tbl (⟨some d, none, .callv x xs, ds, an, b⟩ :: r) K ⟨t, σ⟩ = contC tbl r K t d (callvR tbl σ b (x.ev t) (xs.map (·.ev t))) := reg_callv d b x xs ds an r K
theorem callvR_fn (f : Nat) (caps args : List V) : callvR tbl σ b (.fn f caps) args = callR tbl σ b f (args ++ caps) := rfl
theorem callvR_mth (f id g off : Nat) (args : List V) : callvR tbl σ b (.mth f id g off) args = callR tbl σ b f (.ptr id g off :: args) := rfl
theorem rn_st (g : Bool) (n : Nat) (x y : Opd) : regA tbl (⟨none, none, .st g n x y, ds, an, b⟩ :: r) K ⟨t, σ⟩ = contN tbl r K t σ (insV tbl b t σ (.st g n x y)) := reg_none rfl b ds an r K
theorem rn_copy (e : Nat) (x y : Opd) : regA tbl (⟨none, none, .copy e x y, ds, an, b⟩ :: r) K ⟨t, σ⟩ = contN tbl r K t σ (insV tbl b t σ (.copy e x y)) := reg_none rfl b ds an r K
theorem rn_callv (x : Opd) (xs : List Opd) : regA tbl (⟨none, none, .callv x xs, ds, an, b⟩ :: r) K ⟨t, σ⟩ = contCn tbl r K t (callvR tbl σ b (x.ev t) (xs.map (·.ev t))) := reg_callvn b x xs ds an r K
theorem rn_chk (x : Opd) : regA tbl (⟨none, none, .chk x, ds, an, b⟩ :: r) K ⟨t, σ⟩ = contN tbl r K t σ (insV tbl b t σ (.chk x)) := reg_none rfl b ds an r K
end

/-! ### What an operation reads -/
section
variable (x y z : Opd)
theorem rd_mov : rdV t σ (.mov x) = [] := rfl
theorem rd_pick : rdV t σ (.pick x y z) = [] := rfl
theorem rd_new (zs : List V) : rdV t σ (.new zs) = [] := rfl
theorem rd_box (n : Nat) : rdV t σ (.box n x) = [] := rfl
theorem rd_mk (zs : List V) (ps : List (Nat × Nat × Opd)) : rdV t σ (.mk zs ps) = [] := rfl
theorem rd_mksl (e n : Nat) (zs : List V) (ps : List (Nat × Nat × Opd)) : rdV t σ (.mksl e n zs ps) = zs.flatMap (visV σ dep) ++ ps.flatMap fun p => (p.2.2.ev t).cells.flatMap (visV σ dep) := rfl
def rdP (v : V) : List Nat := match v with | .ptr id _ _ => [id] | _ => []
theorem rdP_ptr (i g o : Nat) : rdP (.ptr i g o) = [i] := rfl
theorem rdP_pt (cs : List V) (o : Nat) : rdP (.pt cs o) = [] := rfl
def rdS (v : V) : List Nat := match v with | .sli id _ _ _ _ => [id] | _ => []
theorem rdS_sli (i g o n e : Nat) : rdS (.sli i g o n e) = [i] := rfl
theorem rdS_sl (k : SK) (n : Nat) (cs : List V) : rdS (.sl k n cs) = [] := rfl
theorem rd_ld (agg : Bool) (n : Nat) : rdV t σ (.ld agg n x) = rdP (x.ev t) := rfl
theorem rd_st (agg : Bool) (n : Nat) : rdV t σ (.st agg n x y) = visV σ dep (x.ev t) ++ (y.ev t).cells.flatMap (visV σ dep) := rfl
theorem rd_chk : rdV t σ (.chk x) = [] := rfl
theorem rd_bin (op : BinOp) : rdV t σ (.bin op x y) = [] := rfl
theorem rd_eqn (b : Bool) (k : EqK) : rdV t σ (.eqn b k x y) = [] := rfl
theorem rd_un (op : UnOp) : rdV t σ (.un op x) = [] := rfl
theorem rd_toInt (k : IntKind) : rdV t σ (.toInt k x) = [] := rfl
theorem rd_toBytes : rdV t σ (.toBytes x) = [] := rfl
theorem rd_toStr : rdV t σ (.toStr x) = visV σ dep (x.ev t) := rfl
theorem rd_mkSlice (e b : Nat) (zs : List V) : rdV t σ (.mkSlice e b zs x y) = [] := rfl
theorem rd_slS (a b : Option Opd) : rdV t σ (.slS x a b) = [] := rfl
theorem rd_slL (e : Nat) (a b c : Option Opd) : rdV t σ (.slL e x a b c) = rdS (x.ev t) := rfl
theorem rd_slA (n e : Nat) (a b : Option Opd) : rdV t σ (.slA n e x a b) = rdP (x.ev t) := rfl
theorem rd_fad (o : Nat) : rdV t σ (.fad o x) = [] := rfl
theorem rd_fld (a : Bool) (o n : Nat) : rdV t σ (.fld a o n x) = [] := rfl
theorem rd_iaA (n e : Nat) : rdV t σ (.iaA n e x y) = [] := rfl
theorem rd_iaL (e : Nat) : rdV t σ (.iaL e x y) = [] := rfl
theorem rd_ixA (a : Bool) (n e : Nat) : rdV t σ (.ixA a n e x y) = [] := rfl
theorem rd_ixS : rdV t σ (.ixS x y) = [] := rfl
theorem rd_ext (i : Nat) : rdV t σ (.ext i x) = [] := rfl
theorem rd_len (b : Bool) : rdV t σ (.len b x) = [] := rfl
theorem rd_sameS : rdV t σ (.sameS x) = [] := rfl
theorem rd_cmp : rdV t σ (.cmp x y) = [] := rfl
theorem rd_mm (b : Bool) : rdV t σ (.mm b x y) = [] := rfl
theorem rd_app (e b : Nat) : rdV t σ (.app e b x y) = visV σ dep (x.ev t) ++ visV σ dep (y.ev t) := rfl
theorem rd_appP (e b : Nat) : rdV t σ (.appP e b x y) = visV σ dep (x.ev t) ++ visV σ dep (y.ev t) := rfl
theorem rd_copy (e : Nat) : rdV t σ (.copy e x y) = visV σ dep (x.ev t) ++ visV σ dep (y.ev t) := rfl
theorem rd_clo (f : Nat) (xs : List Opd) : rdV t σ (.clo f xs) = [] := rfl
theorem rd_call (f : Nat) (xs : List Opd) : rdV t σ (.call f xs) = xs.flatMap fun x => visV σ dep (x.ev t) := rfl
end

/-! ### Regions of open order -/
def pushE (acc : List (Nat × List Nat × List Nat)) (e : Nat × List Nat × List Nat) : List (Nat × List Nat × List Nat) := acc ++ [e]
def chkE (acc : List (Nat × List Nat × List Nat)) (an rds wrs : List Nat) : Bool := acc.all fun q => an.contains q.1 || !clash q.2 (rds, wrs)
def regE (tbl : Tbl) : Nat → List IOp → List (Nat × List Nat × List Nat) → (St → Prop) → St → Prop
  | _, [], _, K, s => K s
  | n, o :: r, acc, K, s => okP (o.step tbl s) fun p => (o.reads s = [] ∧ p.2 = [] ∨ chkE acc o.anc (o.reads s) p.2 = true) ∧ regE tbl (n + 1) r (if o.reads s = [] ∧ p.2 = [] then acc else acc ++ [(n, o.reads s, p.2)]) K p.1
theorem regD_of_E : ∀ {ops : List IOp} {n : Nat} {acc : List (List Nat × List Nat)} {bcc : List (Nat × List Nat × List Nat)} {K : St → Prop} {s : St}, n = acc.length → (∀ i a, acc[i]? = some a → a = ([], []) ∨ (i, a) ∈ bcc) → regE tbl n ops bcc K s → regD tbl n ops acc K s
  | [], _, _, _, _, _, _, _, h => h
  | o :: r, n, acc, bcc, K, s, hn, ha, h => by
    obtain ⟨p, h1, h2, h3⟩ := okP_some_iff.1 h
    refine okP_some_iff.2 ⟨p, h1, ?_, ?_⟩
    · rw [List.all_eq_true]
      intro i hi
      have hi := List.mem_range.1 hi
      have hg : acc[i]? = some (acc.getD i ([], [])) := by
        rw [List.getD_eq_getElem?_getD, List.getElem?_eq_getElem (by omega)]
        rfl
      rcases h2 with ⟨h4, h5⟩ | h2
      · rw [h4, h5]
        have : clash (acc.getD i ([], [])) ([], []) = false := by simp [clash]
        rw [this]
        simp
      · rcases ha i _ hg with h6 | h6
        · rw [h6]
          have : clash ([], []) (o.reads s, p.2) = false := by simp [clash]
          rw [this]
          simp
        · have := List.all_eq_true.1 h2 _ h6
          exact this
    · refine regD_of_E (by simp [hn]) (fun i a hia => ?_) h3
      rcases Nat.lt_trichotomy i acc.length with h4 | h4 | h4
      · rw [List.getElem?_append_left h4] at hia
        rcases ha i a hia with h5 | h5
        · exact .inl h5
        · right
          split
          · exact h5
          · exact List.mem_append_left _ h5
      · subst h4
        rw [List.getElem?_append_right (Nat.le_refl _)] at hia
        simp at hia
        subst hia
        split
        · rename_i hc; left; rw [hc.1, hc.2]
        · right; rw [hn]; simp
      · rw [List.getElem?_append_right (by omega), List.getElem?_eq_none (by simp; omega)] at hia
        cases hia
theorem wp_draw_E {ops : List IOp} {Q : Ex → St → Prop} {s : St} (h : regE tbl 0 ops [] (Q .normal) s) : wpA tbl (.reg true ops) Q s := regD_of_E rfl (fun i a h => by simp at h) h
def contE (tbl : Tbl) (n : Nat) (r : List IOp) (acc : List (Nat × List Nat × List Nat)) (K : St → Prop) (t : Nat → V) (σ : Store) (d : Nat) (an rds : List Nat) (o : Option Res) : Prop :=
  okP o fun q => (rds = [] ∧ q.wr = [] ∨ chkE acc an rds (q.wr.map (·.1)) = true) ∧ regE tbl (n + 1) r (if rds = [] ∧ q.wr = [] then acc else acc ++ [(n, rds, q.wr.map (·.1))]) K ⟨upd t d q.val, upds σ q.wr⟩
def contEn (tbl : Tbl) (n : Nat) (r : List IOp) (acc : List (Nat × List Nat × List Nat)) (K : St → Prop) (t : Nat → V) (σ : Store) (an rds : List Nat) (o : Option Res) : Prop :=
  okP o fun q => (rds = [] ∧ q.wr = [] ∨ chkE acc an rds (q.wr.map (·.1)) = true) ∧ regE tbl (n + 1) r (if rds = [] ∧ q.wr = [] then acc else acc ++ [(n, rds, q.wr.map (·.1))]) K ⟨t, upds σ q.wr⟩
section
variable {n : Nat} {acc : List (Nat × List Nat × List Nat)} {K : St → Prop} {r : List IOp}
theorem regE_nil {s : St} : regE tbl n [] acc K s = K s := rfl
theorem regE_cons (d b : Nat) (i : Ins) (ds an : List Nat) : regE tbl n (⟨some d, none, i, ds, an, b⟩ :: r) acc K ⟨t, σ⟩ = contE tbl n r acc K t σ d an (rdV t σ i) (insV tbl b t σ i) := by
  simp only [contE, regE, IOp.step, IOp.wants, if_true, okP_map, putT, IOp.reads, List.map_eq_nil_iff]
theorem regE_none (b : Nat) (i : Ins) (ds an : List Nat) : regE tbl n (⟨none, none, i, ds, an, b⟩ :: r) acc K ⟨t, σ⟩ = contEn tbl n r acc K t σ an (rdV t σ i) (insV tbl b t σ i) := by
  simp only [contEn, regE, IOp.step, IOp.wants, if_true, okP_map, putT, IOp.reads, List.map_eq_nil_iff]
theorem contE_pure (d : Nat) (an : List Nat) (v : V) (rd : List Nat) : contE tbl n r acc K t σ d an [] (some ⟨v, [], rd⟩) = regE tbl (n + 1) r acc K ⟨upd t d v, σ⟩ := by
  simp [contE, okP, upds]
theorem contE_some (d : Nat) (an rds : List Nat) (v : V) (wr : List (Nat × Blk)) (rd : List Nat) : contE tbl n r acc K t σ d an rds (some ⟨v, wr, rd⟩) = ((rds = [] ∧ wr = [] ∨ chkE acc an rds (wr.map (·.1)) = true) ∧ regE tbl (n + 1) r (if rds = [] ∧ wr = [] then acc else acc ++ [(n, rds, wr.map (·.1))]) K ⟨upd t d v, upds σ wr⟩) := rfl
theorem contEn_some (an rds : List Nat) (v : V) (wr : List (Nat × Blk)) (rd : List Nat) : contEn tbl n r acc K t σ an rds (some ⟨v, wr, rd⟩) = ((rds = [] ∧ wr = [] ∨ chkE acc an rds (wr.map (·.1)) = true) ∧ regE tbl (n + 1) r (if rds = [] ∧ wr = [] then acc else acc ++ [(n, rds, wr.map (·.1))]) K ⟨t, upds σ wr⟩) := rfl
def grdE (tbl : Tbl) (n : Nat) (i : Ins) (an : List Nat) (b : Nat) (r : List IOp) (acc : List (Nat × List Nat × List Nat)) (K : St → Prop) (t : Nat → V) (σ : Store) (d : Nat) (w : Bool) (v : V) : Prop :=
  match v with
  | .bool c => (c = w → contE tbl n r acc K t σ d an (rdV t σ i) (insV tbl b t σ i)) ∧ (c ≠ w → regE tbl (n + 1) r acc K ⟨upd t d (.tup []), σ⟩)
  | _ => regE tbl (n + 1) r acc K ⟨upd t d (.tup []), σ⟩
theorem grdE_yes (i : Ins) (an : List Nat) (d b : Nat) (w : Bool) : grdE tbl n i an b r acc K t σ d w (.bool w) = contE tbl n r acc K t σ d an (rdV t σ i) (insV tbl b t σ i) := by simp [grdE]
theorem grdE_tf (i : Ins) (an : List Nat) (d b : Nat) : grdE tbl n i an b r acc K t σ d true (.bool false) = regE tbl (n + 1) r acc K ⟨upd t d (.tup []), σ⟩ := by simp [grdE]
theorem grdE_ft (i : Ins) (an : List Nat) (d b : Nat) : grdE tbl n i an b r acc K t σ d false (.bool true) = regE tbl (n + 1) r acc K ⟨upd t d (.tup []), σ⟩ := by simp [grdE]
theorem grdE_no (i : Ins) (an : List Nat) (d b : Nat) (w : Bool) : grdE tbl n i an b r acc K t σ d w (.tup []) = regE tbl (n + 1) r acc K ⟨upd t d (.tup []), σ⟩ := rfl
theorem regE_grd (d j b : Nat) (w : Bool) (i : Ins) (ds an : List Nat) : regE tbl n (⟨some d, some (j, w), i, ds, an, b⟩ :: r) acc K ⟨t, σ⟩ = grdE tbl n i an b r acc K t σ d w (t j) := by
  by_cases hw : (⟨some d, some (j, w), i, ds, an, b⟩ : IOp).wants t = true
  · have : t j = .bool w := by
      unfold IOp.wants at hw
      simp only at hw
      split at hw
      · rename_i b hb; rw [hb]; rw [beq_iff_eq.1 hw]
      · cases hw
    rw [this, grdE_yes]
    simp only [contE, regE, IOp.step, if_pos hw, okP_map, putT, IOp.reads, List.map_eq_nil_iff]
  · have : grdE tbl n i an b r acc K t σ d w (t j) = (regE tbl (n + 1) r acc K ⟨upd t d (.tup []), σ⟩) := by
      unfold IOp.wants at hw
      simp only at hw
      unfold grdE
      split
      · rename_i b hb
        rw [hb] at hw
        have hne : b ≠ w := fun h => hw (by simp [h])
        simp [hne]
      · rfl
    rw [this]
    simp only [regE, IOp.step, if_neg hw, okP_some, putT, IOp.reads, and_self, true_or, true_and, if_true]
end
theorem chkE_nil {an rds wrs : List Nat} : chkE [] an rds wrs = true := rfl
theorem chkE_cons {q : Nat × List Nat × List Nat} {acc : List (Nat × List Nat × List Nat)} {an rds wrs : List Nat} : chkE (q :: acc) an rds wrs = ((an.contains q.1 || !clash q.2 (rds, wrs)) && chkE acc an rds wrs) := rfl
theorem clash_eq (a b c d : List Nat) : clash (a, b) (c, d) = (b.any (fun i => c.contains i || d.contains i) || d.any (fun i => a.contains i)) := rfl

/-! ### Loops -/
/-- What stands behind a round: the next state of the loop, which is nearer to its end. -/
def nextQ {α : Type} (S : α → St → Prop) (μ : α → Nat) (a : α) (Q : Ex → St → Prop) : Ex → St → Prop := fun e s => match e with | .normal => ∃ b, μ b < μ a ∧ S b s | e => Q e s
section
variable {α : Type} {S : α → St → Prop} {μ : α → Nat} {a : α} {Q : Ex → St → Prop} {s : St}
theorem nextQ_normal : nextQ S μ a Q .normal s = ∃ b, μ b < μ a ∧ S b s := rfl
theorem nextQ_exit (i : Nat) : nextQ S μ a Q (.exit i) s = Q (.exit i) s := rfl
theorem nextQ_ret : nextQ S μ a Q .ret s = Q .ret s := rfl
end
theorem wp_loopS {α : Type} {c : IC} {Q : Ex → St → Prop} {s : St} (S : α → St → Prop) (μ : α → Nat) (a0 : α) (h0 : S a0 s) (h : ∀ a s, S a s → wpA tbl c (nextQ S μ a Q) s) : wpA tbl (.loop c) Q s := by
  refine wp_loop_rule (fun n s => ∃ a, μ a = n ∧ S a s) (n := μ a0) ⟨a0, rfl, h0⟩ ?_
  rintro n s ⟨a, rfl, ha⟩
  refine wpA_mono (fun e s hq => ?_) (h a s ha)
  cases e with
  | normal =>
    obtain ⟨b, h1, h2⟩ := hq
    exact ⟨μ b, h1, b, rfl, h2⟩
  | exit i => exact hq
  | ret => exact hq

/-! ### Bytes put behind bytes -/
theorem u8_app (b : UInt8) : u8 b = .int .u8 (b.toNat : Int) := rfl
theorem snoc_n (l : List UInt8) (b : UInt8) : l.map u8 ++ [V.int .u8 (b.toNat : Int)] = (l ++ [b]).map u8 := by simp [u8]
theorem snoc_w (l : List UInt8) (x : Int) : l.map u8 ++ [V.int .u8 (IntKind.u8.wrap x)] = (l ++ [byteI x]).map u8 := by rw [← byteI_val, snoc_n]
theorem snoc_l (l : List UInt8) (n : Nat) (h : (OfNat.ofNat n : Nat) < 256) : l.map u8 ++ [V.int .u8 (no_index (OfNat.ofNat n) : Int)] = (l ++ [UInt8.ofNat (OfNat.ofNat n)]).map u8 := by
  rw [← snoc_n, UInt8.toNat_ofNat_of_lt' (by show _ < 256; exact h)]
  rfl
theorem snoc_str (l : List (List UInt8)) (b : List UInt8) : l.map V.str ++ [V.str b] = (l ++ [b]).map V.str := by simp
theorem byt_nil : bytesOf [] = some [] := rfl
theorem byt_n (b : UInt8) (r : List V) : bytesOf (V.int .u8 (b.toNat : Int) :: r) = (bytesOf r).map (b :: ·) := by
  show (bytesOf r).map (UInt8.ofNat ((b.toNat : Int)).toNat :: ·) = _
  rw [Int.toNat_natCast, UInt8.ofNat_toNat]
theorem byt_w (x : Int) (r : List V) : bytesOf (V.int .u8 (IntKind.u8.wrap x) :: r) = (bytesOf r).map (byteI x :: ·) := by rw [← byteI_val, byt_n]
theorem byt_l (n : Nat) (h : (OfNat.ofNat n : Nat) < 256) (r : List V) : bytesOf (V.int .u8 (no_index (OfNat.ofNat n) : Int) :: r) = (bytesOf r).map (UInt8.ofNat (OfNat.ofNat n) :: ·) := by
  rw [← byt_n, UInt8.toNat_ofNat_of_lt' (by show _ < 256; exact h)]
  rfl
theorem app_e_sl {k : SK} {esz bytes n : Nat} {cs : List V} (v : V) : appV σ base esz bytes (.sl k n cs) v = (cellsOfV σ v).bind fun p => (lenV v).bind fun m => if m = 0 then some ⟨.sl k n cs, [], p.2⟩ else
      if k ≠ .ro ∧ m * bytes ≤ 140737488355328 ∧ p.1.length = m * esz then some ⟨.sli base ((σ base).gen + 1) 0 m esz, [(base, ⟨(σ base).gen + 1, .rw, true, p.1⟩)], base :: p.2⟩ else none := rfl
theorem app_e_sli {id g off n e esz bytes : Nat} (v : V) : appV σ base esz bytes (.sli id g off n e) v = (cellsOfV σ v).bind fun p => (lenV v).bind fun m => if m = 0 then some ⟨.sli id g off n e, [], p.2⟩ else
      if e = esz ∧ (σ id).gen = g ∧ (σ id).st = .rw ∧ (σ id).arr = true ∧ off + n * esz ≤ (σ id).cells.length ∧ (n + m) * bytes ≤ 140737488355328 ∧ p.1.length = m * esz then
        if off + (n + m) * esz ≤ (σ id).cells.length then
          some ⟨.sli id g off (n + m) esz, [(id, { σ id with cells := splice (σ id).cells (off + n * esz) p.1 })], id :: p.2⟩
        else
          some ⟨.sli base ((σ base).gen + 1) 0 (n + m) esz, [(id, { σ id with st := .dead }), (base, ⟨(σ base).gen + 1, .rw, true, ((σ id).cells.drop off).take (n * esz) ++ p.1⟩)], base :: id :: p.2⟩
      else none := rfl

/-! ### Functions that work on the caller's own blocks -/
def endR (res : List IRes) (Q : V × Store → Prop) : Ex → St → Prop := fun e s => (match e with | .exit _ => False | _ => True) ∧ okP (ressV s res) fun vs => Q (tupV vs, s.σ)
theorem endR_ret (res : List IRes) (Q : V × Store → Prop) : endR res Q .ret ⟨t, σ⟩ = okP (ressV ⟨t, σ⟩ res) fun vs => Q (tupV vs, σ) := by simp [endR]
theorem endR_normal (res : List IRes) (Q : V × Store → Prop) : endR res Q .normal ⟨t, σ⟩ = okP (ressV ⟨t, σ⟩ res) fun vs => Q (tupV vs, σ) := by simp [endR]
theorem runR_of {np nt : Nat} {res : List IRes} {body : IC} {args : List V} {Q : V × Store → Prop} (hn : args.length = np) (h : wpA tbl body (endR res Q) ⟨fun i => args.getD i (.tup []), σ⟩) : runR tbl ⟨np, nt, res, body, none⟩ args σ Q := ⟨hn, h⟩
/-- What such a function does, told by what holds behind it. -/
theorem Hf_ex {fs : Fns} {f : Nat} {F : IFun} {xs : List V} {Q : V × Store → Prop} (hf : fs f = some (none, F)) (h : runR (tabW fs) F xs σ Q) : ∃ v σ', Hf fs f xs σ = some (v, σ') ∧ Q (v, σ') := by
  obtain ⟨h1, h2⟩ := h
  obtain ⟨e, s, ⟨h3, h4⟩, h5⟩ := wpA_det h2
  obtain ⟨vs, h6, h7⟩ := okP_some_iff.1 h4
  exact ⟨_, _, Hf_of hf ⟨h1, h5 _ ⟨h3, okP_some_iff.2 ⟨vs, h6, rfl⟩⟩⟩, h7⟩
/-- What a function answers, told by what holds of it. -/
theorem Gf_ex {fs : Fns} {f : Nat} {ms : List Mode} {F : IFun} {xs : List V} {Q : V × List V → Prop} (hf : fs f = some (some ms, F)) (h : fnA (tabW fs) ms F xs Q) (hh : F.hand = none := by rfl) : ∃ r, Gf fs f xs = some r ∧ Q r := by
  obtain ⟨r, h1, h2⟩ := fnA_at h
  exact ⟨r, Gf_of hf h2 hh, h1⟩

/-- A function's beginning. -/
def startA (tbl : Tbl) (ms : List Mode) (res : List IRes) (body : IC) (Q : V × List V → Prop) (o : Option (List V × List (Nat × Blk) × Nat)) : Prop := okP o fun p => wpA tbl body (endQ ms res p.1 Q) ⟨fun i => p.1.getD i (.tup []), upds (fun _ => noBlk) p.2.1⟩
theorem startA_some {ms : List Mode} {res : List IRes} {body : IC} {Q : V × List V → Prop} (ps : List V) (wr : List (Nat × Blk)) (k : Nat) : startA tbl ms res body Q (some (ps, wr, k)) = wpA tbl body (endQ ms res ps Q) ⟨fun i => ps.getD i (.tup []), upds (fun _ => noBlk) wr⟩ := rfl
theorem fnA_start {ms : List Mode} {np nt : Nat} {res : List IRes} {body : IC} {xs : List V} {Q : V × List V → Prop} (hn : xs.length = np) (h : startA tbl ms res body Q (inV xs)) : fnA tbl ms ⟨np, nt, res, body, none⟩ xs Q := by
  obtain ⟨p, h1, h2⟩ := okP_some_iff.1 h
  exact fnA_of hn h1 h2
theorem Gf_start {fs : Fns} {f : Nat} {ms : List Mode} {np nt : Nat} {res : List IRes} {body : IC} {xs : List V} {r : V × List V} (hf : fs f = some (some ms, ⟨np, nt, res, body, none⟩)) (hn : xs.length = np) (h : startA (tabW fs) ms res body (· = r) (inV xs)) : Gf fs f xs = some r := Gf_of hf (fnA_start hn h)
theorem GfH_start {fs : Fns} {f : Nat} {np nt : Nat} {res : List IRes} {body : IC} {xs : List V} {r : V × List V} (hf : fs f = some (none, ⟨np, nt, res, body, none⟩)) (hn : xs.length = np) (h : startA (tabW fs) (List.replicate np .bor) res body (· = r) (inV xs)) : Gf fs f xs = some r := GfH_of hf (fnA_start hn h)
theorem inV_eq (xs : List V) : inV xs = mapM' (matV (fun _ => noBlk) 8) 0 xs := rfl

theorem splice_full {l m : List V} (h : l.length ≤ m.length) : splice l 0 m = m := by
  unfold splice
  rw [List.take_zero, List.nil_append, List.drop_of_length_le (by omega), List.append_nil]

theorem splice_0 (l m : List V) : splice l 0 m = if l.length ≤ m.length then m else m ++ l.drop m.length := by
  split
  · rename_i h; exact splice_full h
  · unfold splice
    rw [List.take_zero, List.nil_append, Nat.zero_add]

theorem Hf_start {fs : Fns} {f np nt : Nat} {res : List IRes} {body : IC} {xs : List V} {Q : V × Store → Prop} (hf : fs f = some (none, ⟨np, nt, res, body, none⟩)) (hn : xs.length = np) (h : wpA (tabW fs) body (endR res Q) ⟨fun i => xs.getD i (.tup []), σ⟩) : ∃ v σ', Hf fs f xs σ = some (v, σ') ∧ Q (v, σ') := Hf_ex hf (runR_of hn h)
theorem of_closed {α : Type} {X : Prop} (r : α) (h : X = (True ∧ r = r)) : X := by rw [h]; exact ⟨trivial, rfl⟩

/-- The caller's blocks are as they were. -/
def Same (σ0 σ : Store) : Prop := ∀ i, i < 1048576 → σ i = σ0 i
theorem same_refl : Same σ σ = True := eq_true fun _ _ => rfl
theorem same_upd {σ0 : Store} {j : Nat} {x : Blk} (h : ¬ j < 1048576) : Same σ0 (upd σ j x) = Same σ0 σ := by
  refine propext ⟨fun hs i hi => ?_, fun hs i hi => ?_⟩
  · rw [← hs i hi, upd_b, beq_no (by omega)]; rfl
  · rw [upd_b, beq_no (by omega), ← hs i hi]; rfl
/-- .. but one. -/
def SameBut (p : Nat) (σ0 σ : Store) : Prop := ∀ i, i < 1048576 → i ≠ p → σ i = σ0 i
theorem sameBut_of {p : Nat} {σ0 : Store} (h : Same σ0 σ) : SameBut p σ0 σ := fun i hi _ => h i hi
theorem sameBut_upd {σ0 : Store} {p j : Nat} {x : Blk} (h : ¬ j < 1048576) : SameBut p σ0 (upd σ j x) = SameBut p σ0 σ := by
  refine propext ⟨fun hs i hi hp => ?_, fun hs i hi hp => ?_⟩
  · rw [← hs i hi hp, upd_b, beq_no (by omega)]; rfl
  · rw [upd_b, beq_no (by omega), ← hs i hi hp]; rfl
theorem sameBut_p {σ0 : Store} {p : Nat} {x : Blk} : SameBut p σ0 (upd σ p x) = SameBut p σ0 σ := by
  refine propext ⟨fun hs i hi hp => ?_, fun hs i hi hp => ?_⟩
  · rw [← hs i hi hp, upd_b, beq_no (by omega)]; rfl
  · rw [upd_b, beq_no (by omega), ← hs i hi hp]; rfl
theorem upd_upd {i : Nat} {x y : Blk} : upd (upd σ i x) i y = upd σ i y := by funext j; simp only [upd]; split <;> rfl

def nodupB : List Nat → Bool
  | [] => true
  | a :: l => !l.contains a && nodupB l
theorem nodupB_nil : nodupB [] = true := rfl
theorem nodupB_cons (a : Nat) (l : List Nat) : nodupB (a :: l) = (!l.contains a && nodupB l) := rfl
theorem nodupB_iff : ∀ l : List Nat, l.Nodup ↔ nodupB l = true
  | [] => by simp [nodupB]
  | a :: l => by rw [List.nodup_cons, nodupB_iff l, nodupB_cons]; simp
theorem all_tt (l : List Nat) : (l.all fun _ => true) = true := by simp
def okMB (mv bo : List Nat) : Bool := nodupB mv && bo.all fun i => !mv.contains i
theorem okMB_eq (mv bo : List Nat) : okMB mv bo = (nodupB mv && bo.all fun i => !mv.contains i) := rfl
theorem okMB_iff (mv bo : List Nat) : (mv.Nodup ∧ ∀ i ∈ bo, i ∉ mv) ↔ okMB mv bo = true := by
  rw [nodupB_iff, okMB_eq]
  simp [List.all_eq_true]
theorem ifc {α : Type} {p q : Prop} [Decidable p] [Decidable q] (h : p ↔ q) (x y : α) : (if p then x else y) = if q then x else y := by
  by_cases hp : p
  · rw [if_pos hp, if_pos (h.1 hp)]
  · rw [if_neg hp, if_neg (fun c => hp (h.2 c))]
theorem callP_b {ms : List Mode} {vs xs : List V} {G : List V → Option (V × List V)} {mv bo : List Nat} : callP σ base ms vs G (some (xs, mv, bo)) = if okMB mv bo = true then callG σ base ms vs mv bo (G xs) else none := by rw [callP_some, ifc (okMB_iff mv bo)]
theorem callB_b {mv bo : List Nat} {rv : V} {w1 w2 : List (Nat × Blk)} {ro : Bool} : callB σ mv bo rv w1 ro (some w2) = if nodupB ((w1 ++ w2).map (·.1)) = true then
            some ⟨rv, (mv.map fun i => (i, { σ i with st := .dead })) ++ (if ro = true then fzs σ bo else []) ++ w1 ++ w2, mv ++ bo ++ (w1 ++ w2).map (·.1)⟩
          else none := by rw [callB_some, ifc (nodupB_iff _)]
theorem outR_b (ms : List Mode) (res : List IRes) (ps : List V) : outR ms res ps ⟨t, σ⟩ = (ressV ⟨t, σ⟩ res).bind fun vs => (ownV σ 8 (tupV vs)).bind fun p => (iosV σ ms ps).bind fun q => if nodupB (p.2 ++ q.2) = true then some (p.1, q.1) else out2V ms ps σ p.2 (tupV vs) := by
  rw [outR_eq]
  congr 1; funext vs
  congr 1; funext p
  congr 1; funext q
  exact ifc (nodupB_iff _) _ _
theorem out2_b (ms : List Mode) (ps : List V) (is : List Nat) (v : V) : out2V ms ps σ is v = (ownV (upds σ (fzs σ (dupL is))) 8 v).bind fun p => (iosV (upds σ (fzs σ (dupL is))) ms ps).bind fun q => if nodupB (p.2 ++ q.2) = true then some (p.1, q.1) else none := by
  have : out2V ms ps σ is v = (ownV (upds σ (fzs σ (dupL is))) 8 v).bind fun p => (iosV (upds σ (fzs σ (dupL is))) ms ps).bind fun q => if (p.2 ++ q.2).Nodup then some (p.1, q.1) else none := rfl
  rw [this]
  congr 1; funext p
  congr 1; funext q
  exact ifc (nodupB_iff _) _ _
theorem dupL_nil : dupL [] = [] := rfl
theorem dupL_cons (a : Nat) (l : List Nat) : dupL (a :: l) = if l.contains a = true then a :: dupL l else dupL l := rfl

/-! ### Structs held against one another, maps, rows laid empty -/
def eqSV (neg : Bool) (ks : List CK) (v w : V) : Option Res := match v, w with
  | .agg xs, .agg ys => (eqCs ks xs ys).bind fun b => some ⟨.bool (if neg = true then !b else b), [], []⟩
  | _, _ => none
theorem i_eqS (neg : Bool) (ks : List CK) (x y : Opd) : insV tbl base t σ (.eqS neg ks x y) = eqSV neg ks (x.ev t) (y.ev t) := by
  simp only [insV, eqSV]
  cases x.ev t <;> cases y.ev t <;> rfl
theorem eqS_agg (neg : Bool) (ks : List CK) (xs ys : List V) : eqSV neg ks (.agg xs) (.agg ys) = (eqCs ks xs ys).bind fun b => some ⟨.bool (if neg = true then !b else b), [], []⟩ := rfl
theorem eqCs_nil : eqCs [] [] [] = some true := rfl
theorem eqCs_cons (k : CK) (ks : List CK) (x y : V) (xs ys : List V) : eqCs (k :: ks) (x :: xs) (y :: ys) = (eqC k x y).bind fun b => (eqCs ks xs ys).map fun c => b && c := rfl
theorem eqC_b (a b : Bool) : eqC .b (.bool a) (.bool b) = some (decide (a = b)) := rfl
theorem eqC_i (k : IntKind) (a b : Int) : eqC .i (.int k a) (.int k b) = some (decide (a = b)) := by simp [eqC]
theorem eqC_s (a b : List UInt8) : eqC .s (.str a) (.str b) = some (decide (a = b)) := rfl
theorem eqC_bb (a : Bool) : eqC .b (.bool a) (.bool a) = some true := by simp [eqC]
theorem eqC_ii (k : IntKind) (a : Int) : eqC .i (.int k a) (.int k a) = some true := by simp [eqC]
theorem eqC_ss (a : List UInt8) : eqC .s (.str a) (.str a) = some true := by simp [eqC]
theorem eqKV_one (c : CK) (x y : V) : eqKV (.one c) x y = eqC c x y := rfl
theorem eqKV_many (cs : List CK) (xs ys : List V) : eqKV (.many cs) (.agg xs) (.agg ys) = eqCs cs xs ys := rfl
theorem flatB_int (k : IntKind) (n : Int) : flatB (.int k n) = true := rfl
theorem flatB_bool (b : Bool) : flatB (.bool b) = true := rfl
theorem flatB_str (b : List UInt8) : flatB (.str b) = true := rfl
theorem flatB_agg (cs : List V) : flatB (.agg cs) = cs.all basB := rfl
theorem basB_int (k : IntKind) (n : Int) : basB (.int k n) = true := rfl
theorem basB_bool (b : Bool) : basB (.bool b) = true := rfl
theorem basB_str (b : List UInt8) : basB (.str b) = true := rfl
def guardO {α : Type} (b : Option Bool) (x : Option α) : Option α := match b with
  | some true => x
  | _ => none
theorem guardO_t {α : Type} (x : Option α) : guardO (some true) x = x := rfl
theorem guardO_if {α : Type} (b : Option Bool) (x : Option α) : guardO b x = if b = some true then x else none := by
  cases b with
  | none => rfl
  | some b => cases b <;> simp [guardO]
theorem i_mkm : insV tbl base t σ .mkm = some ⟨.mp base ((σ base).gen + 1), [(base, ⟨(σ base).gen + 1, .rw, false, [.mcell []]⟩)], [base]⟩ := rfl
def mgetR (ok : Bool) (z : V) (is : List Nat) (r : Option V) : Res := ⟨if ok = true then .tup [r.getD z, .bool r.isSome] else r.getD z, [], is⟩
theorem mgetR_some (ok : Bool) (z : V) (is : List Nat) (v : V) : mgetR ok z is (some v) = ⟨if ok = true then .tup [v, .bool true] else v, [], is⟩ := rfl
theorem mgetR_none (ok : Bool) (z : V) (is : List Nat) : mgetR ok z is none = ⟨if ok = true then .tup [z, .bool false] else z, [], is⟩ := rfl
theorem i_mget (kk : KK) (ok : Bool) (z : V) (x y : Opd) : insV tbl base t σ (.mget kk ok z x y) = (entsV σ (x.ev t)).bind fun p => guardO (eqKV kk (y.ev t) (y.ev t)) ((mfind kk (y.ev t) p.1).map fun r => mgetR ok z p.2 r) := by
  simp only [insV, guardO_if]
  rfl
theorem i_mset (kk : KK) (x y z : Opd) : insV tbl base t σ (.mset kk x y z) = guardO (eqKV kk (y.ev t) (y.ev t)) (guardO (some (flatB (z.ev t))) ((mwrV σ (x.ev t) (mput kk (y.ev t) (z.ev t))).map fun p => ⟨.tup [], p.1, p.2⟩)) := by
  simp only [insV, guardO_if]
  by_cases h1 : eqKV kk (y.ev t) (y.ev t) = some true
  · by_cases h2 : flatB (z.ev t) = true
    · simp [h1, h2]
    · simp [h1, h2]
  · simp [h1]
theorem i_mdel (kk : KK) (x y : Opd) : insV tbl base t σ (.mdel kk x y) = guardO (eqKV kk (y.ev t) (y.ev t)) ((mwrV σ (x.ev t) (mrem kk (y.ev t))).map fun p => ⟨.tup [], p.1, p.2⟩) := by
  simp only [insV, guardO_if]
def rngC (es : List (V × V)) (id g : Nat) (is : List Nat) : Option Res := match es with
  | [] => some ⟨.itm id g, [], is⟩
  | _ :: _ => none
theorem rngC_nil (id g : Nat) (is : List Nat) : rngC [] id g is = some ⟨.itm id g, [], is⟩ := rfl
def rngV (σ : Store) (v : V) : Option Res := match v with
  | .mp id g => (entsV σ (.mp id g)).bind fun p => rngC p.1 id g p.2
  | _ => none
theorem rng_mp (id g : Nat) : rngV σ (.mp id g) = (entsV σ (.mp id g)).bind fun p => rngC p.1 id g p.2 := rfl
theorem i_rng (x : Opd) : insV tbl base t σ (.rng x) = rngV σ (x.ev t) := by
  simp only [insV]
  cases x.ev t <;> try rfl
  simp only [rngV]
  congr 1
  funext p
  obtain ⟨es, is⟩ := p
  cases es <;> rfl
def nxtC (es : List (V × V)) (is : List Nat) : Option Res := match es with
  | [] => some ⟨.tup [.bool false], [], is⟩
  | _ :: _ => none
theorem nxtC_nil (is : List Nat) : nxtC [] is = some ⟨.tup [.bool false], [], is⟩ := rfl
def nxtV (σ : Store) (v : V) : Option Res := match v with
  | .itm id g => (entsV σ (.mp id g)).bind fun p => nxtC p.1 p.2
  | _ => none
theorem nxt_itm (id g : Nat) : nxtV σ (.itm id g) = (entsV σ (.mp id g)).bind fun p => nxtC p.1 p.2 := rfl
theorem i_nxt (x : Opd) : insV tbl base t σ (.nxt x) = nxtV σ (x.ev t) := by
  simp only [insV]
  cases x.ev t <;> try rfl
  simp only [nxtV]
  congr 1
  funext p
  obtain ⟨es, is⟩ := p
  cases es <;> rfl
def clbV (f : Nat) (v : V) : Option Res := match v with
  | .ptr id g off => some ⟨.mth f id g off, [], []⟩
  | _ => none
theorem clb_ptr (f id g off : Nat) : clbV f (.ptr id g off) = some ⟨.mth f id g off, [], []⟩ := rfl
theorem i_clb (f : Nat) (x : Opd) : insV tbl base t σ (.clb f x) = clbV f (x.ev t) := by
  simp only [insV]
  cases x.ev t <;> rfl
theorem i_mlen (x : Opd) : insV tbl base t σ (.mlen x) = (entsV σ (x.ev t)).map fun p => ⟨.int .i64 (p.1.length : Int), [], p.2⟩ := rfl
def entsC (cs : List V) (id : Nat) : Option (List (V × V) × List Nat) := match cs with
  | [.mcell es] => some (es, [id])
  | _ => none
theorem entsC_one (es : List (V × V)) (id : Nat) : entsC [.mcell es] id = some (es, [id]) := rfl
theorem ents_nilm : entsV σ .nilm = some ([], []) := rfl
theorem ents_rmp (es : List (V × V)) : entsV σ (.rmp es) = some (es, []) := rfl
theorem ents_mp (id g : Nat) : entsV σ (.mp id g) = if (σ id).gen = g ∧ (σ id).st ≠ .dead then entsC (σ id).cells id else none := rfl
def mwrC (B : Blk) (cs : List V) (id : Nat) (f : List (V × V) → Option (List (V × V))) : Option (List (Nat × Blk) × List Nat) := match cs with
  | [.mcell es] => (f es).map fun es' => ([(id, { B with cells := [.mcell es'] })], [id])
  | _ => none
theorem mwrC_one (B : Blk) (es : List (V × V)) (id : Nat) (f : List (V × V) → Option (List (V × V))) : mwrC B [.mcell es] id f = (f es).map fun es' => ([(id, { B with cells := [.mcell es'] })], [id]) := rfl
theorem mwr_mp (id g : Nat) (f : List (V × V) → Option (List (V × V))) : mwrV σ (.mp id g) f = if (σ id).gen = g ∧ (σ id).st = .rw then mwrC (σ id) (σ id).cells id f else none := rfl
theorem mfind_nil (kk : KK) (k : V) : mfind kk k [] = some none := rfl
theorem mput_nil (kk : KK) (k v : V) : mput kk k v [] = some [(k, v)] := rfl
theorem mrem_nil (kk : KK) (k : V) : mrem kk k [] = some [] := rfl
theorem mfind_cons (kk : KK) (k : V) (e : V × V) (r : List (V × V)) : mfind kk k (e :: r) = (eqKV kk k e.1).bind fun b => if b = true then some (some e.2) else mfind kk k r := rfl
theorem mput_cons (kk : KK) (k v : V) (e : V × V) (r : List (V × V)) : mput kk k v (e :: r) = (eqKV kk k e.1).bind fun b => if b = true then some ((k, v) :: r) else (mput kk k v r).map (e :: ·) := rfl
theorem mrem_cons (kk : KK) (k : V) (e : V × V) (r : List (V × V)) : mrem kk k (e :: r) = (eqKV kk k e.1).bind fun b => if b = true then some r else (mrem kk k r).map (e :: ·) := rfl
def clrV (σ : Store) (esz : Nat) (zero : List V) (v : V) : Option Res := match v with
    | .sl _ n _ => if n = 0 then some ⟨.tup [], [], []⟩ else none
    | .sli id g off n e =>
      if e = esz ∧ (σ id).gen = g ∧ (σ id).st = .rw ∧ (σ id).arr = true ∧ off + n * esz ≤ (σ id).cells.length then
        some ⟨.tup [], [(id, { σ id with cells := splice (σ id).cells off (List.replicate n zero).flatten })], [id]⟩
      else none
    | _ => none
theorem i_clr (esz : Nat) (zero : List V) (x : Opd) : insV tbl base t σ (.clr esz zero x) = clrV σ esz zero (x.ev t) := rfl
theorem clr_sl (esz : Nat) (zero : List V) (k : SK) (n : Nat) (cs : List V) : clrV σ esz zero (.sl k n cs) = if n = 0 then some ⟨.tup [], [], []⟩ else none := rfl
theorem clr_sli (esz : Nat) (zero : List V) (id g off n e : Nat) : clrV σ esz zero (.sli id g off n e) = if e = esz ∧ (σ id).gen = g ∧ (σ id).st = .rw ∧ (σ id).arr = true ∧ off + n * esz ≤ (σ id).cells.length then
        some ⟨.tup [], [(id, { σ id with cells := splice (σ id).cells off (List.replicate n zero).flatten })], [id]⟩
      else none := rfl
def slL3V (v : V) (l h q : V) : Option Res := match v, l, h, q with
    | .sli _ _ _ n _, .int _ i, .int _ j, .int _ m => if 0 ≤ i ∧ i ≤ j ∧ j ≤ m ∧ m ≤ (n : Int) then some ⟨.junk, [], []⟩ else none
    | _, _, _, _ => none
theorem i_slL3 (esz : Nat) (x l h q : Opd) : insV tbl base t σ (.slL esz x (some l) (some h) (some q)) = slL3V (x.ev t) (l.ev t) (h.ev t) (q.ev t) := by
  simp only [insV, slL3V]
  cases hx : x.ev t <;> try rfl
  · simp only [Option.map_some]
    cases l.ev t <;> cases h.ev t <;> cases q.ev t <;> rfl
def slKV (σ : Store) (esz : Nat) (v h q : V) : Option Res := match v with
    | .sl k _ _ => match h, q with
      | .int _ h, .int _ q => if h = 0 ∧ q = 0 then some ⟨.sl (if k = .nil then .nil else .zero) 0 [], [], []⟩ else none
      | _, _ => none
    | .sli id g off n e => match h, q with
      | .int _ h, .int _ q => if h = 0 ∧ q = 0 then some ⟨.sl .zero 0 [], [], []⟩ else if h = q ∧ 0 ≤ h ∧ h ≤ (n : Int) ∧ e = esz ∧ (σ id).gen = g ∧ (σ id).st = .rw ∧ (σ id).arr = true ∧ off + h.toNat * esz ≤ (σ id).cells.length then
          some ⟨.sli id ((σ id).gen + 1) off h.toNat esz, [(id, ⟨(σ id).gen + 1, .rw, true, (σ id).cells.take (off + h.toNat * esz)⟩)], [id]⟩ else none
      | _, _ => none
    | _ => none
theorem i_slLk (esz : Nat) (x h q : Opd) : insV tbl base t σ (.slL esz x none (some h) (some q)) = slKV σ esz (x.ev t) (h.ev t) (q.ev t) := by
  simp only [insV, slKV]
  cases x.ev t <;> try rfl
  · simp only [Option.map_some, Option.map_none]
    generalize h.ev t = hv
    generalize q.ev t = qv
    cases hv <;> cases qv <;> first | rfl | (split <;> first | rfl | (rename_i e; cases e)) | skip
    rename_i k1 a k2 b
    simp only
    split
    · rename_i e2 e3
      cases e2
      cases e3
      simp
    · rename_i hn
      split
      · rename_i hab
        obtain ⟨rfl, rfl⟩ := hab
        exact (hn k1 k2 rfl rfl rfl).elim
      · rfl
  · simp only [Option.map_some, Option.map_none]
    generalize h.ev t = hv
    generalize q.ev t = qv
    cases hv <;> cases qv <;> first | rfl | (split <;> first | rfl | (rename_i e; cases e)) | skip
    rename_i k1 a k2 b
    simp only
    split
    · rename_i e2 e3
      cases e2
      cases e3
      simp
    · rename_i hx hn e2 e3
      cases e2
      cases e3
      have hz : ¬ (a = 0 ∧ b = 0) := fun c => hx c.1 c.2
      simp only [hz, if_false]
    · rename_i e1 e2 e3
      cases e1
    · rename_i e1 e2
      exact (e1 _ _ _ _ rfl rfl rfl).elim
theorem slK_sl (esz n : Nat) (k : SK) (cs : List V) (k1 k2 : IntKind) (h q : Int) : slKV σ esz (.sl k n cs) (.int k1 h) (.int k2 q) = if h = 0 ∧ q = 0 then some ⟨.sl (if k = .nil then .nil else .zero) 0 [], [], []⟩ else none := rfl
theorem slK_sli (esz id g off n e : Nat) (k1 k2 : IntKind) (h q : Int) : slKV σ esz (.sli id g off n e) (.int k1 h) (.int k2 q) = if h = 0 ∧ q = 0 then some ⟨.sl .zero 0 [], [], []⟩ else if h = q ∧ 0 ≤ h ∧ h ≤ (n : Int) ∧ e = esz ∧ (σ id).gen = g ∧ (σ id).st = .rw ∧ (σ id).arr = true ∧ off + h.toNat * esz ≤ (σ id).cells.length then
          some ⟨.sli id ((σ id).gen + 1) off h.toNat esz, [(id, ⟨(σ id).gen + 1, .rw, true, (σ id).cells.take (off + h.toNat * esz)⟩)], [id]⟩ else none := rfl
theorem slL3_sli (id g off n e : Nat) (k1 k2 k3 : IntKind) (i j m : Int) : slL3V (.sli id g off n e) (.int k1 i) (.int k2 j) (.int k3 m) = if 0 ≤ i ∧ i ≤ j ∧ j ≤ m ∧ m ≤ (n : Int) then some ⟨.junk, [], []⟩ else none := rfl
section
variable {d : Nat}
theorem ro_nilm : roV σ (d + 1) .nilm = some (.nilm, []) := rfl
theorem ro_rmp (es : List (V × V)) : roV σ (d + 1) (.rmp es) = some (.rmp es, []) := rfl
theorem ro_junk : roV σ (d + 1) .junk = some (.junk, []) := rfl
def roC (cs : List V) (id : Nat) : Option (V × List Nat) := match cs with
  | [.mcell es] => some (.rmp es, [id])
  | _ => none
theorem roC_one (es : List (V × V)) (id : Nat) : roC [.mcell es] id = some (.rmp es, [id]) := rfl
theorem ro_mp (id g : Nat) : roV σ (d + 1) (.mp id g) = if (σ id).gen = g ∧ (σ id).st ≠ .dead then roC (σ id).cells id else none := rfl
theorem own_nilm : ownV σ (d + 1) .nilm = some (.nilm, []) := rfl
theorem own_rmp (es : List (V × V)) : ownV σ (d + 1) (.rmp es) = some (.rmp es, []) := rfl
theorem own_junk : ownV σ (d + 1) .junk = some (.junk, []) := rfl
def ownC (st : BS) (cs : List V) (id : Nat) : Option (V × List Nat) := match cs with
  | [.mcell es] => if st = .rw then some (.omp es, [id]) else some (.rmp es, [])
  | _ => none
theorem ownC_rw (es : List (V × V)) (id : Nat) : ownC .rw [.mcell es] id = some (.omp es, [id]) := rfl
theorem ownC_fz (es : List (V × V)) (id : Nat) : ownC .fz [.mcell es] id = some (.rmp es, []) := rfl
theorem own_mp (id g : Nat) : ownV σ (d + 1) (.mp id g) = if (σ id).gen = g ∧ (σ id).st ≠ .dead then ownC (σ id).st (σ id).cells id else none := rfl
variable {k : Nat}
theorem mat_nilm : matV σ (d + 1) k .nilm = some (.nilm, [], k) := rfl
theorem mat_rmp (es : List (V × V)) : matV σ (d + 1) k (.rmp es) = some (.rmp es, [], k) := rfl
theorem mat_junk : matV σ (d + 1) k .junk = some (.junk, [], k) := rfl
theorem mat_omp (es : List (V × V)) : matV σ (d + 1) k (.omp es) = some (.mp k ((σ k).gen + 1), [(k, ⟨(σ k).gen + 1, .rw, false, [.mcell es]⟩)], k + 1) := rfl
theorem ha_nilm : hasRo (d + 1) .nilm = false := rfl
theorem ha_rmp (es : List (V × V)) : hasRo (d + 1) (.rmp es) = true := rfl
theorem ha_omp (es : List (V × V)) : hasRo (d + 1) (.omp es) = false := rfl
theorem ha_junk : hasRo (d + 1) .junk = false := rfl
theorem vis_nilm : visV σ (d + 1) .nilm = [] := rfl
theorem vis_rmp (es : List (V × V)) : visV σ (d + 1) (.rmp es) = [] := rfl
theorem vis_junk : visV σ (d + 1) .junk = [] := rfl
theorem vis_mp (id g : Nat) : visV σ (d + 1) (.mp id g) = [id] := rfl
theorem cells_nilm : V.nilm.cells = [.nilm] := rfl
theorem cells_junk : V.junk.cells = [.junk] := rfl
theorem cells_rmp (es : List (V × V)) : (V.rmp es).cells = [.rmp es] := rfl
theorem cells_mp (id g : Nat) : (V.mp id g).cells = [.mp id g] := rfl
variable (x y z : Opd)
theorem rd_eqS (neg : Bool) (ks : List CK) : rdV t σ (.eqS neg ks x y) = [] := rfl
theorem rd_mkm : rdV t σ .mkm = [] := rfl
theorem rd_mget (kk : KK) (ok : Bool) (u : V) : rdV t σ (.mget kk ok u x y) = visV σ dep (x.ev t) := rfl
theorem rd_mset (kk : KK) : rdV t σ (.mset kk x y z) = visV σ dep (x.ev t) := rfl
theorem rd_mdel (kk : KK) : rdV t σ (.mdel kk x y) = visV σ dep (x.ev t) := rfl
theorem rd_rng : rdV t σ (.rng x) = visV σ dep (x.ev t) := rfl
theorem rd_nxt : rdV t σ (.nxt x) = visV σ dep (x.ev t) := rfl
theorem rd_clb (f : Nat) : rdV t σ (.clb f x) = [] := rfl
theorem vis_itm (id g : Nat) : visV σ (d + 1) (.itm id g) = [id] := rfl
theorem rd_mlen : rdV t σ (.mlen x) = visV σ dep (x.ev t) := rfl
theorem rd_clr (e : Nat) (zs : List V) : rdV t σ (.clr e zs x) = visV σ dep (x.ev t) := rfl
variable (d b : Nat) (ds an : List Nat) (r : List IOp) (K : St → Prop)
theorem rc_eqS (neg : Bool) (ks : List CK) : regA tbl (⟨some d, none, .eqS neg ks x y, ds, an, b⟩ :: r) K ⟨t, σ⟩ = contA tbl r K t σ d (insV tbl b t σ (.eqS neg ks x y)) := reg_cons rfl d b ds an r K
theorem rc_mkm : regA tbl (⟨some d, none, .mkm, ds, an, b⟩ :: r) K ⟨t, σ⟩ = contA tbl r K t σ d (insV tbl b t σ .mkm) := reg_cons rfl d b ds an r K
theorem rc_mget (kk : KK) (ok : Bool) (u : V) : regA tbl (⟨some d, none, .mget kk ok u x y, ds, an, b⟩ :: r) K ⟨t, σ⟩ = contA tbl r K t σ d (insV tbl b t σ (.mget kk ok u x y)) := reg_cons rfl d b ds an r K
theorem rc_mset (kk : KK) : regA tbl (⟨some d, none, .mset kk x y z, ds, an, b⟩ :: r) K ⟨t, σ⟩ = contA tbl r K t σ d (insV tbl b t σ (.mset kk x y z)) := reg_cons rfl d b ds an r K
theorem rc_mdel (kk : KK) : regA tbl (⟨some d, none, .mdel kk x y, ds, an, b⟩ :: r) K ⟨t, σ⟩ = contA tbl r K t σ d (insV tbl b t σ (.mdel kk x y)) := reg_cons rfl d b ds an r K
theorem rc_rng : regA tbl (⟨some d, none, .rng x, ds, an, b⟩ :: r) K ⟨t, σ⟩ = contA tbl r K t σ d (insV tbl b t σ (.rng x)) := reg_cons rfl d b ds an r K
theorem rc_nxt : regA tbl (⟨some d, none, .nxt x, ds, an, b⟩ :: r) K ⟨t, σ⟩ = contA tbl r K t σ d (insV tbl b t σ (.nxt x)) := reg_cons rfl d b ds an r K
theorem rc_clb (f : Nat) : regA tbl (⟨some d, none, .clb f x, ds, an, b⟩ :: r) K ⟨t, σ⟩ = contA tbl r K t σ d (insV tbl b t σ (.clb f x)) := reg_cons rfl d b ds an r K
theorem rc_mlen : regA tbl (⟨some d, none, .mlen x, ds, an, b⟩ :: r) K ⟨t, σ⟩ = contA tbl r K t σ d (insV tbl b t σ (.mlen x)) := reg_cons rfl d b ds an r K
theorem rc_clr (e : Nat) (zs : List V) : regA tbl (⟨some d, none, .clr e zs x, ds, an, b⟩ :: r) K ⟨t, σ⟩ = contA tbl r K t σ d (insV tbl b t σ (.clr e zs x)) := reg_cons rfl d b ds an r K
theorem rn_mset (kk : KK) : regA tbl (⟨none, none, .mset kk x y z, ds, an, b⟩ :: r) K ⟨t, σ⟩ = contN tbl r K t σ (insV tbl b t σ (.mset kk x y z)) := reg_none rfl b ds an r K
theorem rn_mdel (kk : KK) : regA tbl (⟨none, none, .mdel kk x y, ds, an, b⟩ :: r) K ⟨t, σ⟩ = contN tbl r K t σ (insV tbl b t σ (.mdel kk x y)) := reg_none rfl b ds an r K
theorem rn_clr (e : Nat) (zs : List V) : regA tbl (⟨none, none, .clr e zs x, ds, an, b⟩ :: r) K ⟨t, σ⟩ = contN tbl r K t σ (insV tbl b t σ (.clr e zs x)) := reg_none rfl b ds an r K
theorem rn_slL (e : Nat) (x : Opd) (lo hi mx : Option Opd) : regA tbl (⟨none, none, .slL e x lo hi mx, ds, an, b⟩ :: r) K ⟨t, σ⟩ = contN tbl r K t σ (insV tbl b t σ (.slL e x lo hi mx)) := reg_none rfl b ds an r K
end

/-! ### The set -/
theorem wp_draw_eq {ops : List IOp} {Q : Ex → St → Prop} {s : St} : wpA tbl (.reg true ops) Q s = regD tbl 0 ops [] (Q .normal) s := rfl
attribute [go_sem ↓ high] upd_s
attribute [go_sem ↓]
  againQ_normal againQ_exit againQ_ret   upd_b   rc_mov rc_pick rc_new rc_box rc_mk rc_mksl rc_ld rc_st rc_chk rc_bin rc_eqn rc_un rc_toInt rc_toBytes rc_toStr rc_mkSlice rc_slS rc_slL rc_slA rc_fad rc_fld rc_iaA rc_iaL rc_ixA rc_ixS rc_ext rc_len rc_sameS rc_mm rc_cmp i_cmp cmp_str rc_app rc_appP rc_copy rc_clo rc_callv rn_st rn_copy rn_callv rn_chk rc_eqS rc_mkm rc_mget rc_mset rc_mdel rc_mlen rc_clr rn_mset rn_mdel rn_clr rn_slL
  wp_seq_ wp_reg_ wp_cond_ wp_skip_ wp_ret_ wp_exit_ wp_block_ wp_scope_ reg_call reg_calln  reg_grd reg_nil thenQ_normal thenQ_ret thenQ_exit blockQ_normal blockQ_ret blockQ_exit roundQ_normal roundQ_ret
  roundQ_exit regE_cons regE_none regE_grd regE_nil nextQ_normal nextQ_exit nextQ_ret
attribute [go_sem]
  contA_some contN_some condC_true condC_false grdC_yes grdC_tf grdC_ft grdC_no ev_t ev_c upds_nil upds_cons_  eqV_sl_nil eqV_sli_nil eqV_bool eqV_nilp eqV_ptr eqV_pt Option.bind_some
  Option.bind_none Option.map_some Option.map_none Nat.zero_le Nat.zero_add Nat.add_zero Nat.sub_zero Nat.zero_mul Nat.mul_zero Nat.mul_one Nat.one_mul if_true if_false List.getD_cons_zero
  List.getD_cons_succ List.getD_nil List.length_nil List.length_cons List.map_nil List.map_cons List.drop_zero List.drop_nil List.take_zero List.take_nil List.flatten_nil List.nil_append List.append_nil
  List.mem_nil_iff List.not_mem_nil not_false_eq_true not_true_eq_false ne_eq and_true true_and and_false false_and or_true true_or or_false false_or and_self Bool.false_eq_true Bool.not_true
  Bool.not_false decide_true decide_false fzs Int.toNat_natCast noBlk endQ_ret endQ_normal dep okP_some okP_none List.nodup_nil List.nodup_cons List.length_drop List.length_take List.cons_append
  List.drop_succ_cons List.drop_one List.tail_cons List.take_succ_cons beq_self_eq_true Bool.not_not Int.cast_ofNat_Int Int.natCast_zero Int.natCast_one List.any_nil List.any_cons Bool.or_false
  Bool.false_or Bool.or_true Bool.true_or List.all_nil List.all_cons BEq.rfl Bool.and_true Bool.true_and Bool.and_false Bool.false_and forall_const implies_true List.getElem?_cons_zero
  List.getElem?_cons_succ map_get_gt take_all drop_all take_map drop_map app_map app_u8 nc_add   nc_mul   nc_sub   nc_lt   nc_le 
   nc_eq   nc_tdiv  nc_tmod  nc_fdiv_p nc_mul_p w_i64 w_i32 w_u64 w_u32 w_u8 b_i64 b_i32 b_u64 b_u32 b_u8 if_yes if_no bnd_some_int bnd_none condC_not condC_T
  condC_F ro_int ro_u8 ro_bool ro_str ro_nilp ro_nilfn ro_sl ro_pt ro_agg ro_tup ro_fn ro_sli ro_ptr own_int own_u8 own_bool own_str own_nilp own_nilfn own_sl own_pt own_agg own_tup own_fn own_sli
  own_ptr mapQ_nil mapQ_cons mapQ_ro_u8 mapQ_ro_int mapQ_ro_str mapQ_own_u8 mapQ_own_int mapQ_own_str ha_int ha_u8 ha_bool ha_str ha_nilp ha_nilfn ha_nil ha_zero ha_ro ha_pt ha_agg ha_tup ha_opt ha_osl
  ha_fn ha_l_u8 ha_l_int ha_l_str vis_int vis_u8 vis_bool vis_str vis_nilp vis_nilfn vis_sl vis_pt vis_agg vis_tup vis_fn vis_sli vis_ptr vis_l_u8 vis_l_int vis_l_str mat_int mat_u8 mat_bool mat_str
  mat_nilp mat_nilfn mat_sl mat_pt mat_agg mat_tup mat_fn mat_opt mat_osl mapM_nil mapM_cons mapM_u8 mapM_int mapM_str dep8 bytesOf_u8 cellsOf_str cellsOf_sl cellsOf_sli len_str len_sl len_sli cells_int
  cells_u8 cells_bool cells_str cells_agg cells_nilp cells_nilfn cells_ptr cells_pt cells_sl cells_sli cells_fn bin_add bin_sub bin_mul bin_quo bin_rem bin_and bin_or bin_xor bin_andNot bin_eql bin_neq
  bin_lss bin_leq bin_gtr bin_geq bin_shl bin_shr bin_s_add bin_s_eql bin_s_neq bin_s_lss bin_s_leq bin_s_gtr bin_s_geq un_neg un_not un_xor_u32 un_xor_i64 i_mov i_pick i_new i_box i_mk i_mksl pB_nil pB_int pB_bool pB_str pB_nilp pB_nilfn pB_nilm pB_sl pB_sli pB_pt pB_fn pB_agg pB_ptr pB_all pB_all0 pB_is pB_map_u8 pB_map_str i_ld
  ld_ptr ld_pt i_st st_ptr i_chk chk_ptr chk_pt i_bin i_eqn i_un i_toInt toInt_int toInt_u8 i_toBytes toBytes_str strsB_is i_toStr toStr_sl toStr_sli i_mkSlice mkSlice_int i_slS slS_str i_slL slL_sl slL_sli_none
  slL_sli_some i_slA slA_ptr i_fad fad_ptr fad_pt i_fld fld_agg i_iaA iaA_ptr iaA_pt i_iaL iaL_sli iaL_sl i_ixA ixA_agg i_ixS ixS_str i_ext ext_tup i_len lenI_str lenI_sl lenI_sli i_sameS sameS_str i_mm
  mm_max mm_min nc_min nc_max     i_app i_appP appP_sli appP_sl appQ_sl appQ_sli i_copy i_clo i_call i_callv callv_fn callvR_fn callvR_mth i_slLk slK_sl slK_sli pass_nil pass_bor pass_io pass_mov back_nil back_bor back_mov back_io_ptr back_io_nil ios_nil
  ios_io ios_bor ios_mov fill_nil fill_cons  ress_nil ress_cons res_tmp res_cell resC_ptr tup_1 tup_0 tup_2   grdE_yes grdE_tf grdE_ft grdE_no chkE_nil chkE_cons clash_eq
   contE_pure fzs noBlk snoc_str all_tt nodupB_nil nodupB_cons okMB_eq callP_b callB_b outR_b out2_b dupL_nil dupL_cons take_drop_all List.set_cons_zero List.set_cons_succ same_refl same_upd sameBut_upd sameBut_p upd_upd splice_0 selB_t selB_f min_l min_r max_l max_r startA_some inV_eq List.headD_cons List.headD_nil endR_ret endR_normal contC_some contCn_some outS_some  callG_some callM_some  u8_app snoc_n snoc_w  byt_nil byt_n byt_w  app_e_sl app_e_sli List.length_map List.length_append List.length_replicate List.flatMap_nil List.flatMap_cons List.contains_cons List.contains_nil List.mem_cons List.mem_append forall_eq_or_imp forall_eq List.append_assoc
  rd_mov rd_pick rd_new rd_box rd_mk rd_mksl rdP_ptr rdP_pt rdS_sli rdS_sl rd_ld rd_st rd_chk rd_bin rd_eqn rd_un rd_toInt rd_toBytes rd_toStr rd_mkSlice rd_slS rd_slL rd_slA rd_fad rd_fld rd_iaA rd_iaL rd_ixA rd_ixS rd_ext rd_len rd_sameS rd_mm rd_cmp rd_app rd_appP rd_copy rd_clo rd_call
attribute [go_sem high] eqC_bb eqC_ii eqC_ss
attribute [go_sem]
  i_eqS eqS_agg eqCs_nil eqCs_cons eqC_b eqC_i eqC_s eqKV_one eqKV_many flatB_int flatB_bool flatB_str flatB_agg basB_int basB_bool basB_str guardO_t i_mkm mgetR_some mgetR_none i_mget i_mset i_mdel i_mlen entsC_one ents_nilm ents_rmp ents_mp mwrC_one mwr_mp
  mfind_nil mput_nil mrem_nil mfind_cons mput_cons mrem_cons i_clr clr_sl clr_sli i_slL3 slL3_sli ro_nilm ro_rmp ro_junk roC_one ro_mp own_nilm own_rmp own_junk ownC_rw ownC_fz own_mp mat_nilm mat_rmp mat_junk mat_omp ha_nilm ha_rmp ha_omp ha_junk vis_nilm vis_rmp vis_junk vis_mp
  cells_nilm cells_junk cells_rmp cells_mp rd_eqS rd_mkm rd_mget rd_mset rd_mdel rd_mlen rd_clr rd_rng rd_nxt rd_clb rngC_nil rng_mp i_rng nxtC_nil nxt_itm i_nxt clb_ptr i_clb rc_rng rc_nxt rc_clb callv_mth vis_itm
attribute [go_sem low]
  dec_T dec_F   get_gt   beq_no beq_yes   contE_some contEn_some   nc_add_l nc_add_r nc_mul_l nc_mul_r nc_sub_l nc_sub_r nc_lt_l nc_lt_r nc_le_l nc_le_r nc_eq_l nc_eq_r nc_tdiv_l nc_tmod_l nc_max_r nc_max_l nc_min_r nc_min_l snoc_l byt_l
end Go.Vm
