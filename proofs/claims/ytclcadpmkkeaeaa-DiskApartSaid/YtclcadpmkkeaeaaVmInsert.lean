/- slices.Insert of one thing, at things of any size: the library's text walked; the four roads. -/
import Derived.Test.YtclcadpmkkeaeaaVmCall
import Derived.Shelf.Spec.SlicesInsertGrow
set_option linter.unusedSectionVars false
set_option linter.unusedSimpArgs false
set_option linter.unusedVariables false
namespace Go.Vm
open Go.Proofs Go.Shelf Go.RowKit Go.Lib
variable {P : Program} {ρ : Shelf.Ren}

/-- The function of a program, under its own name. -/
noncomputable def insF (ρ : Shelf.Ren) (nm : String) : Func := { Body2.n22 ρ with name := nm }
theorem insF_ntmps (ρ : Shelf.Ren) (nm : String) : (insF ρ nm).ntmps = 95 := rfl
/-- What is looked at in a program: things of z cells, of so many bytes. -/
structure LI (P : Program) (ρ : Shelf.Ren) (nm : String) (z bytes : Nat) (zc : Value) : Prop where
  mixed : P.follows .mixedOrders = true
  f22 : P.funcs[ρ.f 22]? = some (insF ρ nm)
  ov : ∀ args w, (callFunc (ρ.f 29) args).run P w = ((Extern.SlicesOverlaps.overlaps #[ρ.t 24, ρ.t 24] #[ρ.t 4] args).run P w).andThen fun v w' => .ok (.value v) w'
  t0 : P.underlying (ρ.t 0) = some (TypeDesc.tuple #[])
  a0 : ∀ w, (isAgg (ρ.t 0)).run P w = .ok false w
  z0 : ∀ w, (Go.sizeOf (ρ.t 0)).run P w = .ok 1 w
  v0 : ∀ w, (zeroValue (ρ.t 0)).run P w = .ok (Value.tuple #[]) w
  t3 : P.underlying (ρ.t 3) = some (TypeDesc.int IntKind.i64)
  a3 : ∀ w, (isAgg (ρ.t 3)).run P w = .ok false w
  z3 : ∀ w, (Go.sizeOf (ρ.t 3)).run P w = .ok 1 w
  v3 : ∀ w, (zeroValue (ρ.t 3)).run P w = .ok (Value.int IntKind.i64 0) w
  t4 : P.underlying (ρ.t 4) = some (TypeDesc.bool)
  a4 : ∀ w, (isAgg (ρ.t 4)).run P w = .ok false w
  z4 : ∀ w, (Go.sizeOf (ρ.t 4)).run P w = .ok 1 w
  v4 : ∀ w, (zeroValue (ρ.t 4)).run P w = .ok (Value.bool false) w
  sz9 : szC P (ρ.t 9) = some z
  by9 : byC P (ρ.t 9) = some bytes
  v9 : ∀ w, (zeroValue (ρ.t 9)).run P w = .ok zc w
  t24 : P.underlying (ρ.t 24) = some (TypeDesc.slice (ρ.t 9))
  a24 : ∀ w, (isAgg (ρ.t 24)).run P w = .ok false w
  z24 : ∀ w, (Go.sizeOf (ρ.t 24)).run P w = .ok 1 w
  v24 : ∀ w, (zeroValue (ρ.t 24)).run P w = .ok (Value.slice none 0 0) w
  i9 : (P.info? (ρ.t 9)).map (fun i => (i.zero, i.size, i.bytes)) = some (some zc, z, bytes)

theorem LI.z9 {nm : String} {z bytes : Nat} {zc : Value} (L : LI P ρ nm z bytes zc) (w : World) : (Go.sizeOf (ρ.t 9)).run P w = .ok z w := szC_some L.sz9 w
theorem run_copy_rows {w : World} {T U e : TypeId} {z b o n c b2 o2 m c2 k : Nat} {arr arr2 : Array Value} {el el2 : TypeId} {fz fz2 : Nat × Nat} (hu : P.underlying T = some (.slice e)) (hz : ∀ w, (Go.sizeOf e).run P w = .ok z w) (hz0 : 0 < z)
    (hrow : w.heap[b]? = some (.cells arr el fz)) (hun : Unfrozen arr fz) (hrow2 : w.heap[b2]? = some (.cells arr2 el2 fz2)) (hk : min m n = k) (hk0 : 0 < k) (h1 : o + k * z ≤ arr.size) (h2 : o2 + k * z ≤ arr2.size) (hone : ∀ v ∈ (arr2.toList.drop o2).take (k * z), v.oneCell' = true) (ty : TypeId) :
    (Builtin.copy_ #[T, U] ty #[.slice (some ⟨b, o, none⟩) n c, .slice (some ⟨b2, o2, none⟩) m c2]).run P w = .ok (goInt k) (putRow w b (.cells (setL arr o ((arr2.toList.drop o2).take (k * z))) el fz)) := by
  have hst := run_storeCells_row (P := P) b el fz o ((arr2.toList.drop o2).take (k * z)) 0 w arr hrow hun (by simp; omega) hone
  have hne : (arr2.toList.drop o2).take (k * z) ≠ [] := by
    intro h
    have := congrArg List.length h
    have := Nat.mul_pos hk0 hz0
    simp at *
    omega
  rw [if_neg hne] at hst
  have hk' : Nat.min m n = k := hk
  have hkz : k * z ≠ 0 := Nat.ne_of_gt (Nat.mul_pos hk0 hz0)
  have hl := run_loadCells_row (P := P) hrow2 h2
  simp [Builtin.copy_, run_underlying hu, hz, Builtin.lenOf, Builtin.firstCells, hk', hkz, hl]
  have hst' : (storeCells ⟨b, o, none⟩ ((arr2.toList.drop o2).take (k * z))).run P w = .ok () _ := hst
  rw [hst']
  rfl
theorem size_of {w : World} {b : Nat} {arr : Array Value} {el : TypeId} {fz : Nat × Nat} (h : w.heap[b]? = some (.cells arr el fz)) : w.shape? b = some (el, arr.size) := by
  simp [World.shape?, h]

section
variable {nm : String} {z bytes : Nat} {zc : Value} (L : LI P ρ nm z bytes zc) (hz0 : 0 < z) (w : World) {b base n c i vb voff vc : Nat} {arr va : Array Value} {el vel : TypeId} {fz vfz : Nat × Nat}
  (hrow : w.heap[b]? = some (.cells arr el fz)) (hun : Unfrozen arr fz) (hvrow : w.heap[vb]? = some (.cells va vel vfz)) (hvun : Unfrozen va vfz) (hst : strsB = false)
include L hz0 hrow hun hvrow hvun hst
set_option maxHeartbeats 4000000 in
set_option maxRecDepth 100000 in
theorem ins_shift {m : Nat} (hm : 0 < m) (hne : vb ≠ b) (hi : i < n) (hn : n + m ≤ 140737488355328) (hc : n + m ≤ c) (hfit : base + c * z ≤ arr.size) (hvfit : voff + m * z ≤ va.size) (hone : ∀ v ∈ (arr.toList.drop (base + i * z)).take ((n - i) * z), v.oneCell' = true) (hvone : ∀ v ∈ (va.toList.drop voff).take (m * z), v.oneCell' = true) :
    Calls P (ρ.f 22) #[.slice (some ⟨b, base, none⟩) n c, .int .i64 i, .slice (some ⟨vb, voff, none⟩) m vc] w fun e w' =>
      e = .returned (.slice (some ⟨b, base, none⟩) (n + m) c) ∧
      w' = putRow (putRow w.drew b (.cells (setL arr (base + (i + m) * z) ((arr.toList.drop (base + i * z)).take ((n - i) * z))) el fz)) b (.cells (setL (setL arr (base + (i + m) * z) ((arr.toList.drop (base + i * z)).take ((n - i) * z))) (base + i * z) ((va.toList.drop voff).take (m * z))) el fz) := by
  have t0 := L.t0; have a0 := L.a0; have z0 := L.z0; have v0 := L.v0; have t3 := L.t3; have a3 := L.a3; have z3 := L.z3; have v3 := L.v3; have t4 := L.t4; have a4 := L.a4; have z4 := L.z4; have v4 := L.v4; have z9 := L.z9; have t24 := L.t24; have a24 := L.a24; have z24 := L.z24; have v24 := L.v24
  have u0 := run_underlying L.t0; have u3 := run_underlying L.t3; have u4 := run_underlying L.t4; have u24 := run_underlying L.t24
  have mixed := L.mixed
  have hz1 : ¬ ((m : Int) = 0) := by omega
  have hz2 : ¬ ((i : Int) = (n : Int)) := by omega
  have hw1 : IntKind.i64.wrap ((i : Int) + (m : Int)) = (i : Int) + (m : Int) := by rw [IntKind.wrap_i64]; omega
  have hb1 : (0 : Int) ≤ (i : Int) + (m : Int) := by omega
  have hin : i ≤ n := by omega
  have htn : ((i : Int) + (m : Int)).toNat = i + m := by omega
  have hb2 : ¬ (c = i + m) := by omega
  have hb3 : (i : Int) ≤ (n : Int) + (m : Int) := by omega
  have hb4 : ¬ (c = i) := by omega
  have hm1 : (n - i) * z + (i + m) * z = (n + m) * z := by rw [← Nat.add_mul]; congr 1; omega
  have hm2 : (n + m) * z ≤ c * z := Nat.mul_le_mul_right _ hc
  have hm3 : (n - i) * z + i * z + m * z = (n + m) * z := by rw [← Nat.add_mul, ← Nat.add_mul]; congr 1; omega
  have hov : ∀ lb cb, (callFunc (ρ.f 29) #[.slice (some ⟨vb, voff, none⟩) m vc, .slice (some ⟨b, base + (i + m) * z, none⟩) lb cb]).run P w = .ok (.value (.bool false)) w := fun lb cb => by
    rw [L.ov, Lib.run_overlaps_apart w (ρ.t 24) (ρ.t 4) (ρ.t 9) L.t24 z L.z9 ⟨vb, voff, none⟩ ⟨b, base + (i + m) * z, none⟩ m vc lb cb hne vel el va.size arr.size (size_of hvrow) (size_of hrow) (by have := Nat.mul_pos hm hz0; omega) (frozen_of hvrow hvun (by have := Nat.mul_pos hm hz0; omega)) (by
      unfold Unfrozen at hvun
      simp only [World.frozen?, hvrow]
      obtain ⟨lo, hi⟩ := vfz
      simp [hst] at *
      omega)]
    rfl
  have hrowd : w.drew.heap[b]? = some (.cells arr el fz) := hrow
  have hcp1 : ∀ ty dc sc, (Builtin.copy_ #[(ρ.t 24), (ρ.t 24)] ty #[.slice (some ⟨b, base + (i + m) * z, none⟩) (n + m - (i + m)) dc, .slice (some ⟨b, base + i * z, none⟩) (n + m - i) sc]).run P w.drew = _ := fun ty dc sc =>
    run_copy_rows (k := n - i) L.t24 L.z9 hz0 hrowd hun hrowd (by omega) (by omega) (by omega) (by omega) hone ty
  generalize hA : setL arr (base + (i + m) * z) ((arr.toList.drop (base + i * z)).take ((n - i) * z)) = A at hcp1 ⊢
  have hAs : A.size = arr.size := by rw [← hA]; exact setL_size _ _ _
  obtain ⟨W1, hW1⟩ : ∃ W1, W1 = putRow w.drew b (.cells A el fz) := ⟨_, rfl⟩
  have hblt : b < w.drew.heap.size := lt_of_heap hrowd
  have hrow1 : W1.heap[b]? = some (.cells A el fz) := by rw [hW1]; exact putRow_same hblt
  have hvrow1 : W1.heap[vb]? = some (.cells va vel vfz) := by rw [hW1, putRow_other hne]; exact hvrow
  have hcp2 : ∀ ty dc, (Builtin.copy_ #[(ρ.t 24), (ρ.t 24)] ty #[.slice (some ⟨b, base + i * z, none⟩) (n + m - i) dc, .slice (some ⟨vb, voff, none⟩) m vc]).run P W1 = _ := fun ty dc =>
    run_copy_rows (k := m) L.t24 L.z9 hz0 hrow1 (by unfold Unfrozen at *; rw [hAs]; exact hun) hvrow1 (by omega) (by omega) (by omega) (by omega) hvone ty
  subst hW1
  clear hm1 hm2 hm3 hfit hvfit hone hvone hun hvun hrow hvrow hrowd hst hA hAs hrow1 hvrow1 hblt
  go_enter L.f22, insF_ntmps ρ nm
  go_wp2_with (simp only [hov])
  go_region_law_o (refine step_copy_runI rfl _ _ (ρ.t 24) (ρ.t 24) rfl _ _ (by simp [Act.eval, Act.put]) (by simp [Act.eval, Act.put]) (hcp1 _ _ _) ?_)
  go_wp2_with (at_builtin; refine wpList_copy_runI _ rfl _ _ (ρ.t 24) (ρ.t 24) rfl _ _ rfl rfl (hcp2 _ _) ?_)
  go_ret
  exact ⟨rfl, rfl⟩
set_option maxHeartbeats 4000000 in
set_option maxRecDepth 100000 in
theorem ins_end_room {m : Nat} (hm : 0 < m) (hn : n + m ≤ 140737488355328) (hc : n + m ≤ c) (hfit : base + c * z ≤ arr.size) (hvfit : voff + m * z ≤ va.size) (hvone : ∀ v ∈ (va.toList.drop voff).take (m * z), v.oneCell' = true) :
    Calls P (ρ.f 22) #[.slice (some ⟨b, base, none⟩) n c, .int .i64 n, .slice (some ⟨vb, voff, none⟩) m vc] w fun e w' =>
      e = .returned (.slice (some ⟨b, base, none⟩) (n + m) c) ∧
      w' = putRow w b (.cells (setL arr (base + n * z) ((va.toList.drop voff).take (m * z))) el fz) := by
  have t0 := L.t0; have a0 := L.a0; have z0 := L.z0; have v0 := L.v0; have t3 := L.t3; have a3 := L.a3; have z3 := L.z3; have v3 := L.v3; have t4 := L.t4; have a4 := L.a4; have z4 := L.z4; have v4 := L.v4; have z9 := L.z9; have t24 := L.t24; have a24 := L.a24; have z24 := L.z24; have v24 := L.v24
  have u0 := run_underlying L.t0; have u3 := run_underlying L.t3; have u4 := run_underlying L.t4; have u24 := run_underlying L.t24
  have mixed := L.mixed
  have hz1 : ¬ ((m : Int) = 0) := by omega
  have hm2 : (n + m) * z ≤ c * z := Nat.mul_le_mul_right _ hc
  have hm3 : n * z + m * z = (n + m) * z := by rw [← Nat.add_mul]
  have hkz := Nat.mul_pos hm hz0
  have hl := run_loadCells_row (P := P) hvrow hvfit
  have hstc := run_storeCells_row (P := P) b el fz (base + n * z) ((va.toList.drop voff).take (m * z)) 0 w arr hrow hun (by simp; omega) hvone
  rw [if_neg (by intro h; have := congrArg List.length h; simp at this; omega)] at hstc
  have hrun : ∀ ty, (Builtin.append_ #[ρ.t 24, ρ.t 24] ty #[.slice (some ⟨b, base, none⟩) n c, .slice (some ⟨vb, voff, none⟩) m vc]).run P w = .ok (.slice (some ⟨b, base, none⟩) (n + m) c) (putRow w b (.cells (setL arr (base + n * z) ((va.toList.drop voff).take (m * z))) el fz)) := fun ty =>
    run_append_fits L.t24 (.inr ⟨_, L.t24⟩) L.sz9 ty (by simp [Builtin.lenOf]) (by simp only [Builtin.firstCells]; exact hl) hc (fun ad had => by cases had; rw [addr_add]; exact hstc) (fun h => by cases h)
  clear hm2 hm3 hkz hl hstc hfit hvfit hvone hun hvun hrow hvrow hst
  go_enter L.f22, insF_ntmps ρ nm
  go_wp2_with (at_builtin; refine Lib.wpList_append_run _ rfl _ _ _ _ rfl _ _ rfl rfl _ _ (hrun _) ?_)
  go_ret
  exact ⟨rfl, rfl⟩
set_option maxHeartbeats 4000000 in
set_option maxRecDepth 100000 in
theorem ins_end_grow {m : Nat} {p : Option Addr} {olds : Array Value} (hm : 0 < m) (hp : p = none → n = 0) (hb0 : 0 < bytes) (hbig : (n + m) * bytes ≤ 140737488355328) (hn : n ≤ c) (hc : c < n + m) (ho : (Builtin.firstCells z n (.slice p n c)).run P w.drew = .ok olds w.drew) (hvfit : voff + m * z ≤ va.size) :
    Calls P (ρ.f 22) #[.slice p n c, .int .i64 n, .slice (some ⟨vb, voff, none⟩) m vc] w fun e w' =>
      e = .returned (.slice (some ⟨w.heap.size, 0, none⟩) (n + m) (grownCap w (n + m) c (ρ.t 9))) ∧
      w' = w.drew.alloc (.cells (olds ++ ((va.toList.drop voff).take (m * z)).toArray ++ Builtin.zeroCells zc.cells (grownCap w (n + m) c (ρ.t 9) - (n + m))) (ρ.t 9)) := by
  have t0 := L.t0; have a0 := L.a0; have z0 := L.z0; have v0 := L.v0; have t3 := L.t3; have a3 := L.a3; have z3 := L.z3; have v3 := L.v3; have t4 := L.t4; have a4 := L.a4; have z4 := L.z4; have v4 := L.v4; have z9 := L.z9; have t24 := L.t24; have a24 := L.a24; have z24 := L.z24; have v24 := L.v24
  have u0 := run_underlying L.t0; have u3 := run_underlying L.t3; have u4 := run_underlying L.t4; have u24 := run_underlying L.t24
  have mixed := L.mixed
  have hz1 : ¬ ((m : Int) = 0) := by omega
  have hvrowd : w.drew.heap[vb]? = some (.cells va vel vfz) := hvrow
  have hl := run_loadCells_row (P := P) hvrowd hvfit
  have hrun : ∀ ty, (Builtin.append_ #[ρ.t 24, ρ.t 24] ty #[.slice p n c, .slice (some ⟨vb, voff, none⟩) m vc]).run P w = _ := fun ty =>
    run_append_grows L.t24 (.inr ⟨_, L.t24⟩) L.sz9 L.by9 hb0 L.v9 ty (by simp [Builtin.lenOf]) ho (by simp only [Builtin.firstCells]; exact hl) hc hbig
  clear hl ho hvfit hun hvun hrow hvrow hvrowd hst
  cases p with
  | none =>
    have hc0 : n = 0 := hp rfl
    subst hc0
    go_enter L.f22, insF_ntmps ρ nm
    go_wp2_with (at_builtin; refine Lib.wpList_append_run _ rfl _ _ _ _ rfl _ _ rfl rfl _ _ (hrun _) ?_)
    all_goals (go_ret; exact ⟨rfl, rfl⟩)
  | some ad =>
  obtain ⟨ab, ao, asp⟩ := ad
  go_enter L.f22, insF_ntmps ρ nm
  go_wp2_with (at_builtin; refine Lib.wpList_append_run _ rfl _ _ _ _ rfl _ _ rfl rfl _ _ (hrun _) ?_)
  all_goals (go_ret; exact ⟨rfl, rfl⟩)
set_option maxHeartbeats 4000000 in
set_option maxRecDepth 100000 in
theorem ins_grow {m : Nat} (hm : 0 < m) (hi : i < n) (hb0 : 0 < bytes) (hbig : (n + m) * bytes ≤ 140737488355328) (hn : n ≤ c) (hc : c < n + m) (hfit : base + n * z ≤ arr.size) (hvfit : voff + m * z ≤ va.size) (hone : ∀ v ∈ (arr.toList.drop (base + i * z)).take ((n - i) * z), v.oneCell' = true) (hvone : ∀ v ∈ (va.toList.drop voff).take (m * z), v.oneCell' = true) (hzc : zc.cells.size = z) :
    Calls P (ρ.f 22) #[.slice (some ⟨b, base, none⟩) n c, .int .i64 i, .slice (some ⟨vb, voff, none⟩) m vc] w fun e w' =>
      e = .returned (.slice (some ⟨w.heap.size, 0, none⟩) (n + m) (grownCap w (n + m) c (ρ.t 9))) ∧
      ∃ R : Array Value, R = ((arr.toList.drop base).take (i * z)).toArray ++ Builtin.zeroCells zc.cells (n + m - i) ++ Builtin.zeroCells zc.cells (grownCap w (n + m) c (ρ.t 9) - (n + m)) ∧
      w' = putRow (putRow (w.alloc (.cells R (ρ.t 9))).drew w.heap.size (.cells (setL R (i * z) ((va.toList.drop voff).take (m * z))) (ρ.t 9) (0, 0))).drew w.heap.size (.cells (setL (setL R (i * z) ((va.toList.drop voff).take (m * z))) ((i + m) * z) ((arr.toList.drop (base + i * z)).take ((n - i) * z))) (ρ.t 9) (0, 0)) := by
  have t0 := L.t0; have a0 := L.a0; have z0 := L.z0; have v0 := L.v0; have t3 := L.t3; have a3 := L.a3; have z3 := L.z3; have v3 := L.v3; have t4 := L.t4; have a4 := L.a4; have z4 := L.z4; have v4 := L.v4; have z9 := L.z9; have t24 := L.t24; have a24 := L.a24; have z24 := L.z24; have v24 := L.v24
  have u0 := run_underlying L.t0; have u3 := run_underlying L.t3; have u4 := run_underlying L.t4; have u24 := run_underlying L.t24
  have mixed := L.mixed
  obtain ⟨i0, hi0, hzz, hzs, hzb⟩ := info_parts L.i9
  have hz1 : ¬ ((m : Int) = 0) := by omega
  have hz2 : ¬ ((i : Int) = (n : Int)) := by omega
  have hz3 : (c : Int) < (n : Int) + (m : Int) := by omega
  have hsmall : n + m ≤ 140737488355328 := by
    have : (n + m) * 1 ≤ (n + m) * bytes := Nat.mul_le_mul_left _ hb0
    omega
  have hkk : (n : Int) + (m : Int) - (i : Int) = ((n + m - i : Nat) : Int) := by omega
  have hik : i + (n + m - i) = n + m := by omega
  have hm1 : (n - i) * z + (i + m) * z = (n + m) * z := by rw [← Nat.add_mul]; congr 1; omega
  have hm3 : (n - i) * z + i * z = n * z := by rw [← Nat.add_mul]; congr 1; omega
  have hm4 : i * z + m * z = (i + m) * z := by rw [← Nat.add_mul]
  have hm5 : (n + m - i) * z + i * z = (n + m) * z := by rw [← Nat.add_mul]; congr 1; omega
  have hrowd : w.drew.heap[b]? = some (.cells arr el fz) := hrow
  have hl := run_loadCells_row (P := P) (o := base) (n := i * z) hrowd (by omega)
  have hold : (Builtin.firstCells i0.size i (.slice (some ⟨b, base, none⟩) i c)).run P w.drew = .ok ((arr.toList.drop base).take (i * z)).toArray w.drew := by
    rw [hzs]
    exact hl
  have hrz := fun ty => Lib.run_append_grow_zeros w (ρ.t 24) (ρ.t 3) ty (ρ.t 9) i0 _ .i64 .i64 L.t24 L.t3 hi0 hzz (some ⟨b, base, none⟩) i c ((arr.toList.drop base).take (i * z)) hold (n + m - i) (by omega) (by omega) (by omega) (by omega) (by rw [hzb]; have : (n + m - i) * bytes ≤ (n + m) * bytes := Nat.mul_le_mul_right _ (by omega); omega) (by rw [hzb, hik]; exact growslice_fits hc hbig)
  simp only [hik, ← hkk] at hrz
  refine Calls.mono (R := fun e w' => e = .returned (.slice (some ⟨w.heap.size, 0, none⟩) (n + m) (grownCap w (n + m) c (ρ.t 9))) ∧ w' = putRow (putRow (w.alloc (.cells (((arr.toList.drop base).take (i * z)).toArray ++ Builtin.zeroCells zc.cells (n + m - i) ++ Builtin.zeroCells zc.cells (grownCap w (n + m) c (ρ.t 9) - (n + m))) (ρ.t 9))).drew w.heap.size (.cells (setL (((arr.toList.drop base).take (i * z)).toArray ++ Builtin.zeroCells zc.cells (n + m - i) ++ Builtin.zeroCells zc.cells (grownCap w (n + m) c (ρ.t 9) - (n + m))) (i * z) ((va.toList.drop voff).take (m * z))) (ρ.t 9) (0, 0))).drew w.heap.size (.cells (setL (setL (((arr.toList.drop base).take (i * z)).toArray ++ Builtin.zeroCells zc.cells (n + m - i) ++ Builtin.zeroCells zc.cells (grownCap w (n + m) c (ρ.t 9) - (n + m))) (i * z) ((va.toList.drop voff).take (m * z))) ((i + m) * z) ((arr.toList.drop (base + i * z)).take ((n - i) * z))) (ρ.t 9) (0, 0))) ?_ (fun e w' h => ⟨h.1, _, rfl, h.2⟩)
  have hge := grownCap_ge w (n + m) c (ρ.t 9)
  have hG63 : grownCap w (n + m) c (ρ.t 9) ≤ 9223372036854775807 := by
    have := grownCap_le_maxLen w (n + m) c (ρ.t 9) (by unfold maxLen; omega)
    unfold maxLen at this
    omega
  generalize hG : grownCap w (n + m) c (ρ.t 9) = G at hrz hge hG63 ⊢
  generalize hR : ((arr.toList.drop base).take (i * z)).toArray ++ Builtin.zeroCells zc.cells (n + m - i) ++ Builtin.zeroCells zc.cells (G - (n + m)) = R at hrz ⊢
  have hRs : (n + m) * z ≤ R.size := by
    rw [← hR]
    simp only [Array.size_append, size_zeroCells, hzc]
    simp
    omega
  have hblt : b < w.heap.size := lt_of_heap hrow
  have hvlt : vb < w.heap.size := lt_of_heap hvrow
  have hN : (w.alloc (.cells R (ρ.t 9))).drew.heap[w.heap.size]? = some (.cells R (ρ.t 9) (0, 0)) := by show (w.heap.push _)[w.heap.size]? = _; simp
  have hNb : (w.alloc (.cells R (ρ.t 9))).drew.heap[b]? = some (.cells arr el fz) := by rw [← hrow]; show (w.heap.push _)[b]? = _; rw [Array.getElem?_push, if_neg (by omega)]
  have hNv : (w.alloc (.cells R (ρ.t 9))).drew.heap[vb]? = some (.cells va vel vfz) := by rw [← hvrow]; show (w.heap.push _)[vb]? = _; rw [Array.getElem?_push, if_neg (by omega)]
  have hNl : w.heap.size < (w.alloc (.cells R (ρ.t 9))).drew.heap.size := by show _ < (w.heap.push _).size; simp
  have hcp1 : ∀ ty dc, (Builtin.copy_ #[(ρ.t 24), (ρ.t 24)] ty #[.slice (some ⟨w.heap.size, i * z, none⟩) (n + m - i) dc, .slice (some ⟨vb, voff, none⟩) m vc]).run P (w.alloc (.cells R (ρ.t 9))).drew = _ := fun ty dc =>
    run_copy_rows (k := m) L.t24 L.z9 hz0 hN (unfrozen00 _) hNv (by omega) (by omega) (by omega) (by omega) hvone ty
  generalize hA : setL R (i * z) ((va.toList.drop voff).take (m * z)) = A at hcp1 ⊢
  have hAs : A.size = R.size := by rw [← hA]; exact setL_size _ _ _
  have hN2 : (putRow (w.alloc (.cells R (ρ.t 9))).drew w.heap.size (.cells A (ρ.t 9) (0, 0))).drew.heap[w.heap.size]? = some (.cells A (ρ.t 9) (0, 0)) := putRow_same hNl
  have hNb2 : (putRow (w.alloc (.cells R (ρ.t 9))).drew w.heap.size (.cells A (ρ.t 9) (0, 0))).drew.heap[b]? = some (.cells arr el fz) := (putRow_other (by omega)).trans hNb
  have hcp2 : ∀ ty dc sc, (Builtin.copy_ #[(ρ.t 24), (ρ.t 24)] ty #[.slice (some ⟨w.heap.size, (i + m) * z, none⟩) (n + m - (i + m)) dc, .slice (some ⟨b, base + i * z, none⟩) (n - i) sc]).run P (putRow (w.alloc (.cells R (ρ.t 9))).drew w.heap.size (.cells A (ρ.t 9) (0, 0))).drew = _ := fun ty dc sc =>
    run_copy_rows (k := n - i) L.t24 L.z9 hz0 hN2 (unfrozen00 _) hNb2 (by omega) (by omega) (by omega) (by omega) hone ty
  have hGi : ¬ (G = i) := by omega
  have hGim : ¬ (G = i + m) := by omega
  have hci : ¬ (c = i) := by omega
  have hw1 : IntKind.i64.wrap ((i : Int) + (m : Int)) = (i : Int) + (m : Int) := by rw [IntKind.wrap_i64]; omega
  have hb1 : (0 : Int) ≤ (i : Int) + (m : Int) := by omega
  have hin : i ≤ n := by omega
  have htn : ((i : Int) + (m : Int)).toNat = i + m := by omega
  have hb3 : (i : Int) ≤ (n : Int) := by omega
  clear hA hAs hN2 hNb2 hkk hik hm1 hm3 hm4 hm5 hl hold hfit hvfit hone hvone hun hvun hrow hvrow hrowd hst hR hG hRs hN hNb hNv hNl hblt hvlt hbig hsmall hi0 hzz hzs hzb
  go_enter L.f22, insF_ntmps ρ nm
  go_wp2_with (first
    | (at_builtin; refine Lib.wpList_append_run _ rfl _ _ _ _ rfl _ _ rfl rfl _ _ (hrz _) ?_)
    | (at_builtin; refine wpList_copy_runI _ rfl _ _ (ρ.t 24) (ρ.t 24) rfl _ _ rfl rfl (hcp1 _ _) ?_))
  go_region_law_o (refine step_copy_runI rfl _ _ (ρ.t 24) (ρ.t 24) rfl _ _ (by simp [Act.eval, Act.put]) (by simp [Act.eval, Act.put]) (hcp2 _ _ _) ?_)
  go_wp2
  go_ret
  exact ⟨rfl, rfl⟩
end

theorem Fr.new {w w' : World} {S : Nat → Prop} (ho : w'.os = w.os) (ht : w'.tape = w.tape) (hp : w'.output = w.output) (hs : w.heap.size ≤ w'.heap.size) (hold : ∀ k, k < w.heap.size → w'.heap[k]? = w.heap[k]?) : Fr w w' S :=
  ⟨ho, ht, hp, hs, fun k hk _ => hold k hk, fun b arr el fz h => ⟨arr, el, fz, (hold b (lt_of_heap h)).trans h, Nat.le_refl _⟩⟩
/-- What is put between. -/
theorem seg_shift (arr va : Array Value) (base a N z voff : Nat) (ha : a ≤ N) (hfit : base + (N + z) ≤ arr.size) (hv : voff + z ≤ va.size) (j : Nat) (hj : j < N + z) :
    (setL (setL arr (base + (a + z)) ((arr.toList.drop (base + a)).take (N - a))) (base + a) ((va.toList.drop voff).take z))[base + j]? = (((arr.toList.drop base).take N).take a ++ (va.toList.drop voff).take z ++ ((arr.toList.drop base).take N).drop a)[j]? := by
  have l1 : ((va.toList.drop voff).take z).length = z := by simp; omega
  have l2 : ((arr.toList.drop (base + a)).take (N - a)).length = N - a := by simp; omega
  have l3 : (((arr.toList.drop base).take N).take a).length = a := by simp; omega
  rw [setL_get _ _ _ _ (by rw [setL_size, l1]; omega), setL_get _ _ _ _ (by rw [l2]; omega), l1, l2]
  rw [List.append_assoc, List.getElem?_append, l3]
  by_cases h1 : j < a
  · rw [if_neg (by omega), if_neg (by omega), if_pos h1, List.getElem?_take, if_pos h1, List.getElem?_take, if_pos (by omega), List.getElem?_drop]
    simp
  · rw [if_neg h1, List.getElem?_append, l1]
    by_cases h2 : j < a + z
    · rw [if_pos (by omega), if_pos (by omega)]
      congr 1
      omega
    · rw [if_neg (by omega), if_pos (by omega), if_neg (by omega), List.getElem?_drop, List.getElem?_take, List.getElem?_take, if_pos (by omega), if_pos (by omega), List.getElem?_drop, List.getElem?_drop]
      congr 1
      omega
/-- The same in a new row. -/
theorem seg_grow (arr va R : Array Value) (base a N z voff : Nat) (ha : a ≤ N) (hfit : base + N ≤ arr.size) (hv : voff + z ≤ va.size) (hR : N + z ≤ R.size) (hR2 : ∀ j, j < a → R[j]? = ((arr.toList.drop base).take a)[j]?) (j : Nat) (hj : j < N + z) :
    (setL (setL R a ((va.toList.drop voff).take z)) (a + z) ((arr.toList.drop (base + a)).take (N - a)))[j]? = (((arr.toList.drop base).take N).take a ++ (va.toList.drop voff).take z ++ ((arr.toList.drop base).take N).drop a)[j]? := by
  have l1 : ((va.toList.drop voff).take z).length = z := by simp; omega
  have l2 : ((arr.toList.drop (base + a)).take (N - a)).length = N - a := by simp; omega
  have l3 : (((arr.toList.drop base).take N).take a).length = a := by simp; omega
  rw [setL_get _ _ _ _ (by rw [setL_size, l2]; omega), setL_get _ _ _ _ (by rw [l1]; omega), l1, l2]
  rw [List.append_assoc, List.getElem?_append, l3]
  by_cases h1 : j < a
  · rw [if_neg (by omega), if_neg (by omega), if_pos h1, hR2 j h1, List.getElem?_take, if_pos h1, List.getElem?_take, if_pos h1, List.getElem?_take, if_pos (by omega)]
  · rw [if_neg h1, List.getElem?_append, l1]
    by_cases h2 : j < a + z
    · rw [if_neg (by omega), if_pos (by omega), if_pos (by omega)]
    · rw [if_pos (by omega), if_neg (by omega), List.getElem?_drop, List.getElem?_take, List.getElem?_take, if_pos (by omega), if_pos (by omega), List.getElem?_drop, List.getElem?_drop]
      congr 1
      omega
theorem seg_end (arr va : Array Value) (base N z voff : Nat) (hfit : base + (N + z) ≤ arr.size) (hv : voff + z ≤ va.size) (j : Nat) (hj : j < N + z) :
    (setL arr (base + N) ((va.toList.drop voff).take z))[base + j]? = ((arr.toList.drop base).take N ++ (va.toList.drop voff).take z)[j]? := by
  have l1 : ((va.toList.drop voff).take z).length = z := by simp; omega
  have l3 : ((arr.toList.drop base).take N).length = N := by simp; omega
  rw [setL_get _ _ _ _ (by rw [l1]; omega), l1, List.getElem?_append, l3]
  by_cases h1 : j < N
  · rw [if_neg (by omega), if_pos h1, List.getElem?_take, if_pos h1, List.getElem?_drop]
    simp
  · rw [if_pos (by omega), if_neg h1]
    congr 1
    omega
end Go.Vm
