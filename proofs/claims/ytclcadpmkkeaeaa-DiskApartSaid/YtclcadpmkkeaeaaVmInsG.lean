/- slices.Insert of one thing as a table's entry. -/
import Derived.Test.YtclcadpmkkeaeaaVmInsert
set_option linter.unusedSectionVars false
set_option linter.unusedSimpArgs false
set_option linter.unusedVariables false
namespace Go.Vm
open Go.Proofs Go.Shelf Go.RowKit Go.Lib
variable {P : Program} {ρ : Shelf.Ren}

/-- One thing put between others. -/
def insG (z bytes : Nat) : List V → Option (V × List V)
  | [.osl z1 n cs, .int .i64 i, .osl z2 1 vs] => if z1 = z ∧ z2 = z ∧ cs.length = n * z ∧ vs.length = z ∧ 0 ≤ i ∧ i ≤ n ∧ (n + 1) * bytes ≤ 140737488355328 then some (.osl z (n + 1) (cs.take (i.toNat * z) ++ vs ++ cs.drop (i.toNat * z)), []) else none
  | [.sl k 0 [], .int .i64 i, .osl z2 1 vs] => if k ≠ .ro ∧ z2 = z ∧ vs.length = z ∧ i = 0 then some (.osl z 1 vs, []) else none
  | _ => none

theorem after_ins {pin : Pin} {w w' : World} {own : List Nat} {c1 c2 c3 : Value} {e : Ending} {z n' cap b base : Nat} {arr : Array Value} {el : TypeId} {fz : Nat × Nat} {cs : List V} (he : e = .returned (.slice (some ⟨b, base, none⟩) n' cap)) (hrow : w'.heap[b]? = some (.cells arr el fz)) (hun : Unfrozen arr fz)
    (hn : n' ≤ cap) (hcap : base + cap * z ≤ arr.size) (hlen : cs.length = n' * z) (h1 : ∀ v ∈ cs, v.one = true ∧ NoRef v) (hR : ∀ (j : Nat) (v : V) (c : Value), cs[j]? = some v → arr[base + j]? = some c → R noRen pin v c) (hfr : Fr w w' (· ∈ own)) (hpin : ∀ b x, pin b = some x → w'.heap[b]? = some x) (hb : pin b = none) (hbo : b ∈ own ∨ w.heap.size ≤ b) :
    After w pin own [.mov, .bor, .mov] [c1, c2, c3] (.osl z n' cs) [] e w' := by
  have hle : n' * z ≤ cap * z := Nat.mul_le_mul_right _ hn
  exact ⟨_, pin, [b], [], he, PExt.refl _, hpin, fun b x h => .inl h, hfr, .osl z n' cap cs _ b base arr el fz hrow hun (by omega) hn (fun _ => ⟨rfl, hcap⟩) (by omega) h1 hR, BL.nil, by simp, by simp [hb, hbo]⟩

theorem drop_take_eq {α : Type} (l : List α) (a N k : Nat) : ((l.drop k).take N).drop a = (l.drop (k + a)).take (N - a) := by
  rw [List.drop_take, List.drop_drop]

theorem ins_good {nm : String} {z bytes : Nat} {zc : Value} (L : LI P ρ nm z bytes zc) (hz0 : 0 < z) (hb0 : 0 < bytes) (hbb : bytes ≤ 140737488355328) (hzc : zc.cells.size = z) (hst : strsB = false) (hnm : (nm == "runtime.NumGoroutine") = false) : Good P (ρ.f 22) ⟨[.mov, .bor, .mov], insG z bytes, none⟩ := by
  refine ⟨fun args w => ?_, fun w pin xs vals os r ios hG hB hnd hpn hpp hml => ?_⟩
  · have hn := beq_eq_false_iff_ne.1 hnm
    have hname : (insF ρ nm).name = nm := rfl
    obtain ⟨body, hbody⟩ := Option.isSome_iff_exists.1 (show (insF ρ nm).body.isSome = true from rfl)
    simp [callFunc, L.f22, hname, hn, hbody]
  simp only at hG
  have hsz : ∀ k, 0 < k → k * 1 ≤ k * bytes := fun k _ => Nat.mul_le_mul_left _ hb0
  -- the third
  have third : ∀ {vs : List V} {c3 : Value} {o3 : List Nat}, B pin w (.osl z 1 vs) c3 o3 → vs.length = z → ∃ vb voff vc va vel vfz, c3 = .slice (some ⟨vb, voff, none⟩) 1 vc ∧ o3 = [vb] ∧ w.heap[vb]? = some (.cells va vel vfz) ∧ Unfrozen va vfz ∧ voff + z ≤ va.size ∧ RL noRen pin vs ((va.toList.drop voff).take z) ∧ (∀ v ∈ vs, v.one = true ∧ NoRef v) := by
    intro vs c3 o3 h hl
    cases h with
    | flat _ _ hn hr => cases hn
    | osl _ _ cap _ ad b base arr el fz hrow hu hfit hn hc hlen h1 hh =>
      have h0 : cap ≠ 0 := by omega
      obtain ⟨rfl, hf⟩ := hc h0
      have : 1 * z ≤ cap * z := Nat.mul_le_mul_right _ hn
      exact ⟨b, base, cap, arr, el, fz, rfl, rfl, hrow, hu, by omega, by have := RL.ofRow hfit hh; rw [hl] at this; exact this, h1⟩
  unfold insG at hG
  split at hG
  · rename_i z1 n cs i z2 vs
    split at hG
    case isFalse => cases hG
    rename_i hc
    obtain ⟨rfl, rfl, hcl, hvl, hi0, hin, hbig⟩ := hc
    cases hG
    obtain ⟨c1, vals, o1, os, rfl, rfl, B1, hB⟩ := hB.inv
    obtain ⟨c2, vals, o2, os, rfl, rfl, B2, hB⟩ := hB.inv
    obtain ⟨c3, vals, o3, os, rfl, rfl, B3, hB⟩ := hB.inv
    have hl0 := hB.len
    have ho0 := hB.olen
    have hv0 : vals = [] := List.length_eq_zero_iff.1 (by simpa using hl0.symm)
    have hos0 : os = [] := List.length_eq_zero_iff.1 (by simpa using ho0)
    subst hv0
    subst hos0
    obtain ⟨vb, voff, vc, va, vel, vfz, rfl, rfl, hvrow, hvun, hvfit, hvR, hv1⟩ := third B3 hvl
    have hvone := hvR.oneCells (fun v hv => (hv1 v hv).1)
    obtain rfl : c2 = .int .i64 i := by
      cases B2 with
      | flat _ _ hn hr => cases hr with | int => rfl
    have ho2 : o2 = [] := by cases B2 with | flat _ _ hn hr => rfl
    subst ho2
    obtain ⟨q, rfl⟩ : ∃ q : Nat, i = (q : Int) := ⟨i.toNat, by omega⟩
    rw [show (q : Int).toNat = q by omega]
    have hqn : q ≤ n := by omega
    have hqz : q * z2 ≤ n * z2 := Nat.mul_le_mul_right _ hqn
    have hm1 : (q + 1) * z2 = q * z2 + z2 := by rw [Nat.add_mul, Nat.one_mul]
    have hm2 : (n - q) * z2 = n * z2 - q * z2 := Nat.sub_mul _ _ _
    have hm3 : (n + 1) * z2 = n * z2 + z2 := by rw [Nat.add_mul, Nat.one_mul]
    have hsmall := hsz (n + 1) (by omega)
    have hlen' : (cs.take (q * z2) ++ vs ++ cs.drop (q * z2)).length = (n + 1) * z2 := by
      simp only [List.length_append, List.length_take, List.length_drop, hcl, hvl, hm3]
      omega
    cases B1 with
    | flat _ _ hn hr => cases hn
    | osl _ _ cap _ ad b base arr el fz hrow hu hfit hn hc hlen h1 hh =>
      have hcsR : RL noRen pin cs ((arr.toList.drop base).take (n * z2)) := by have := RL.ofRow hfit hh; rw [hcl] at this; exact this
      have hcone := hcsR.oneCells (fun v hv => (h1 v hv).1)
      have hone : ∀ v ∈ (arr.toList.drop (base + q * z2)).take ((n - q) * z2), v.oneCell' = true := fun v hv => hcone v (by rw [hm2, ← drop_take_eq] at hv; exact List.mem_of_mem_drop hv)
      have hnew1 : ∀ v ∈ cs.take (q * z2) ++ vs ++ cs.drop (q * z2), v.one = true ∧ NoRef v := by
        intro v hv
        rcases List.mem_append.1 hv with hv | hv
        · rcases List.mem_append.1 hv with hv | hv
          · exact h1 v (List.mem_of_mem_take hv)
          · exact hv1 v hv
        · exact h1 v (List.mem_of_mem_drop hv)
      have hall : RL noRen pin (cs.take (q * z2) ++ vs ++ cs.drop (q * z2)) (((arr.toList.drop base).take (n * z2)).take (q * z2) ++ (va.toList.drop voff).take z2 ++ ((arr.toList.drop base).take (n * z2)).drop (q * z2)) := ((hcsR.take _).append hvR).append (hcsR.drop _)
      have hbv : vb ≠ b := by
        rintro rfl
        simp at hnd
      have hpb : pin b = none := hpn b (by simp)
      have hblt := lt_of_heap hrow
      have hvlt := lt_of_heap hvrow
      have hjlt : ∀ {j : Nat} {v : V}, (cs.take (q * z2) ++ vs ++ cs.drop (q * z2))[j]? = some v → j < n * z2 + z2 := by
        intro j v hj
        rcases Nat.lt_or_ge j (cs.take (q * z2) ++ vs ++ cs.drop (q * z2)).length with h' | h'
        · omega
        · rw [List.getElem?_eq_none h'] at hj; cases hj
      by_cases hroom : n + 1 ≤ cap
      · obtain ⟨rfl, hf⟩ := hc (by omega)
        have hm4 : (n + 1) * z2 ≤ cap * z2 := Nat.mul_le_mul_right _ hroom
        by_cases hlt : q < n
        · refine (ins_shift L hz0 w hrow hu hvrow hvun hst (m := 1) (by omega) hbv hlt (by omega) hroom hf (by omega) hone (by rw [Nat.one_mul]; exact hvone)).mono fun e w' ⟨he, hw⟩ => ?_
          have hrd : w.drew.heap[b]? = some (.cells arr el fz) := hrow
          have hbd : b < w.drew.heap.size := hblt
          subst hw
          rw [hm1, hm2, Nat.one_mul]
          refine after_ins he (putRow_same (by rw [putRow_size]; exact hbd)) (by unfold Unfrozen at *; rw [setL_size, setL_size]; exact hu) hroom (by rw [setL_size, setL_size]; exact hf) hlen' hnew1 (fun j v c hj hcj => ?_) ?_ (fun k x hk => ?_) hpb (.inl (by simp))
          · rw [seg_shift arr va base (q * z2) (n * z2) z2 voff hqz (by omega) hvfit j (hjlt hj)] at hcj
            exact hall.at_ j v c hj hcj
          · have f1 : Fr w w.drew (· ∈ ([[b], [], [vb]] : List (List Nat)).flatten) := Fr.new rfl rfl rfl (Nat.le_refl _) (fun _ _ => rfl)
            have f2 := f1.put hrd (arr' := setL arr (base + (q * z2 + z2)) ((arr.toList.drop (base + q * z2)).take (n * z2 - q * z2))) (setL_size _ _ _) (.inl (by simp))
            exact f2.put (putRow_same hbd) (by rw [setL_size]) (.inl (by simp))
          · have hne : k ≠ b := by rintro rfl; rw [hpb] at hk; cases hk
            rw [putRow_other hne, putRow_other hne]
            exact hpp k x hk
        · obtain rfl : q = n := by omega
          refine (ins_end_room L hz0 w hrow hu hvrow hvun hst (m := 1) (by omega) (by omega) hroom hf (by omega) (by rw [Nat.one_mul]; exact hvone)).mono fun e w' ⟨he, hw⟩ => ?_
          subst hw
          rw [Nat.one_mul]
          refine after_ins he (putRow_same hblt) (by unfold Unfrozen at *; rw [setL_size]; exact hu) hroom (by rw [setL_size]; exact hf) hlen' hnew1 (fun j v c hj hcj => ?_) ?_ (fun k x hk => ?_) hpb (.inl (by simp))
          · rw [seg_end arr va base (q * z2) z2 voff (by omega) hvfit j (hjlt hj)] at hcj
            refine hall.at_ j v c hj ?_
            have l3 : ((arr.toList.drop base).take (q * z2)).length = q * z2 := by simp; omega
            rw [← hcj, List.take_of_length_le (l := (arr.toList.drop base).take (q * z2)) (by omega), List.drop_of_length_le (l := (arr.toList.drop base).take (q * z2)) (by omega), List.append_nil]
          · exact (Fr.refl w _).put hrow (setL_size _ _ _) (.inl (by simp))
          · have hne : k ≠ b := by rintro rfl; rw [hpb] at hk; cases hk
            rw [putRow_other hne]
            exact hpp k x hk
      · have hpN : pin w.heap.size = none := by
          cases hp : pin w.heap.size with
          | none => rfl
          | some x =>
            have := lt_of_heap (hpp _ _ hp)
            omega
        have hge := grownCap_ge w (n + 1) cap (ρ.t 9)
        have hm5 : (n + 1) * z2 ≤ grownCap w (n + 1) cap (ρ.t 9) * z2 := Nat.mul_le_mul_right _ hge
        by_cases hlt : q < n
        · obtain ⟨rfl, hf⟩ := hc (by omega)
          have hm6 : n * z2 ≤ cap * z2 := Nat.mul_le_mul_right _ hn
          refine (ins_grow L hz0 w hrow hu hvrow hvun hst (m := 1) (by omega) hlt hb0 hbig hn (by omega) (by omega) (by omega) hone (by rw [Nat.one_mul]; exact hvone) hzc).mono fun e w' ⟨he, R', hR', hw⟩ => ?_
          subst hw
          rw [hm1, hm2, Nat.one_mul]
          have hRs : R'.size = grownCap w (n + 1) cap (ρ.t 9) * z2 := by
            rw [hR']
            have e1 : (n + 1 - q) * z2 = (n + 1) * z2 - q * z2 := Nat.sub_mul _ _ _
            have e2 : (grownCap w (n + 1) cap (ρ.t 9) - (n + 1)) * z2 = grownCap w (n + 1) cap (ρ.t 9) * z2 - (n + 1) * z2 := Nat.sub_mul _ _ _
            simp only [Array.size_append, size_zeroCells, hzc, e1, e2]
            simp
            omega
          have hNl : w.heap.size < (w.alloc (.cells R' (ρ.t 9))).drew.heap.size := by show _ < (w.heap.push _).size; simp
          have hN : (w.alloc (.cells R' (ρ.t 9))).drew.heap[w.heap.size]? = some (.cells R' (ρ.t 9) (0, 0)) := by show (w.heap.push _)[w.heap.size]? = _; simp
          have hold : ∀ k, k < w.heap.size → (w.alloc (.cells R' (ρ.t 9))).drew.heap[k]? = w.heap[k]? := fun k hk => by show (w.heap.push _)[k]? = _; rw [Array.getElem?_push, if_neg (by omega)]
          refine after_ins he (putRow_same (by show _ < (putRow _ _ _).heap.size; rw [putRow_size]; exact hNl)) (unfrozen00 _) hge (by rw [setL_size, setL_size, hRs]; omega) hlen' hnew1 (fun j v c hj hcj => ?_) ?_ (fun k x hk => ?_) hpN (.inr (Nat.le_refl _))
          · rw [Nat.zero_add, seg_grow arr va R' base (q * z2) (n * z2) z2 voff hqz (by omega) hvfit (by omega) (fun j hj => by
              rw [hR', Array.append_assoc, Array.getElem?_append_left (by simp; omega)]
              simp) j (hjlt hj)] at hcj
            exact hall.at_ j v c hj hcj
          · have f1 : Fr w (w.alloc (.cells R' (ρ.t 9))).drew (· ∈ ([[b], [], [vb]] : List (List Nat)).flatten) := Fr.new rfl rfl rfl (by show _ ≤ (w.heap.push _).size; simp) hold
            have f2 := f1.put hN (arr' := setL R' (q * z2) ((va.toList.drop voff).take z2)) (setL_size _ _ _) (.inr (Nat.le_refl _))
            have f3 : Fr w (putRow (w.alloc (.cells R' (ρ.t 9))).drew w.heap.size (.cells (setL R' (q * z2) ((va.toList.drop voff).take z2)) (ρ.t 9) (0, 0))).drew (· ∈ ([[b], [], [vb]] : List (List Nat)).flatten) := f2.trans (Fr.new (S := fun _ => False) rfl rfl rfl (Nat.le_refl _) (fun _ _ => rfl)) (fun _ _ h => h.elim)
            exact f3.put (putRow_same hNl) (by rw [setL_size]) (.inr (Nat.le_refl _))
          · have hk2 := hpp k x hk
            have hlt2 := lt_of_heap hk2
            show (putRow _ _ _).heap[k]? = _
            rw [putRow_other (by omega)]
            show (putRow _ _ _).heap[k]? = _
            rw [putRow_other (by omega), hold k hlt2]
            exact hk2
        · obtain rfl : q = n := by omega
          obtain rfl : q = cap := by omega
          have ho : (Builtin.firstCells z2 q (.slice (some ad) q q)).run P w.drew = .ok ((arr.toList.drop base).take (q * z2)).toArray w.drew := by
            by_cases h0 : q = 0
            · subst h0
              have := run_loadCells_list (P := P) (w := w.drew) ad [] (fun j v hj => by simp at hj)
              simpa [Builtin.firstCells] using this
            · obtain ⟨rfl, hf⟩ := hc h0
              have hrd : w.drew.heap[b]? = some (.cells arr el fz) := hrow
              exact run_loadCells_row hrd hf
          refine (ins_end_grow L hz0 w hrow hu hvrow hvun hst (m := 1) (p := some ad) (by omega) (fun h => by cases h) hb0 hbig (by omega) (by omega) ho (by omega)).mono fun e w' ⟨he, hw⟩ => ?_
          subst hw
          rw [Nat.one_mul]
          have hN : ∀ X, (w.drew.alloc (.cells X (ρ.t 9))).heap[w.heap.size]? = some (.cells X (ρ.t 9) (0, 0)) := fun X => by show (w.heap.push _)[w.heap.size]? = _; simp
          have hold : ∀ X k, k < w.heap.size → (w.drew.alloc (.cells X (ρ.t 9))).heap[k]? = w.heap[k]? := fun X k hk => by show (w.heap.push _)[k]? = _; rw [Array.getElem?_push, if_neg (by omega)]
          have l3 : ((arr.toList.drop base).take (q * z2)).length = q * z2 := by simp; omega
          have l1 : ((va.toList.drop voff).take z2).length = z2 := by simp; omega
          refine after_ins he (hN _) (unfrozen00 _) hge ?_ hlen' hnew1 (fun j v c hj hcj => ?_) (Fr.new rfl rfl rfl (by show _ ≤ (w.heap.push _).size; simp) (hold _)) (fun k x hk => ?_) hpN (.inr (Nat.le_refl _))
          · have e2 : (grownCap w (q + 1) q (ρ.t 9) - (q + 1)) * z2 = grownCap w (q + 1) q (ρ.t 9) * z2 - (q + 1) * z2 := Nat.sub_mul _ _ _
            simp only [Array.size_append, size_zeroCells, hzc, e2, List.size_toArray, l3, l1]
            omega
          · refine hall.at_ j v c hj ?_
            rw [Nat.zero_add, Array.getElem?_append_left (by simp only [Array.size_append, List.size_toArray, l3, l1]; exact hjlt hj)] at hcj
            rw [List.take_of_length_le (l := (arr.toList.drop base).take (q * z2)) (by omega), List.drop_of_length_le (l := (arr.toList.drop base).take (q * z2)) (by omega), List.append_nil, ← hcj]
            simp
          · have hk2 := hpp k x hk
            rw [hold _ k (lt_of_heap hk2)]
            exact hk2
  · rename_i k i z2 vs
    split at hG
    case isFalse => cases hG
    rename_i hc
    obtain ⟨hk, rfl, hvl, rfl⟩ := hc
    cases hG
    obtain ⟨c1, vals, o1, os, rfl, rfl, B1, hB⟩ := hB.inv
    obtain ⟨c2, vals, o2, os, rfl, rfl, B2, hB⟩ := hB.inv
    obtain ⟨c3, vals, o3, os, rfl, rfl, B3, hB⟩ := hB.inv
    have hl0 := hB.len
    have ho0 := hB.olen
    have hv0 : vals = [] := List.length_eq_zero_iff.1 (by simpa using hl0.symm)
    have hos0 : os = [] := List.length_eq_zero_iff.1 (by simpa using ho0)
    subst hv0
    subst hos0
    obtain ⟨vb, voff, vc, va, vel, vfz, rfl, rfl, hvrow, hvun, hvfit, hvR, hv1⟩ := third B3 hvl
    have hvone := hvR.oneCells (fun v hv => (hv1 v hv).1)
    obtain rfl : c2 = .int .i64 0 := by
      cases B2 with
      | flat _ _ hn hr => cases hr with | int => rfl
    have ho2 : o2 = [] := by cases B2 with | flat _ _ hn hr => rfl
    subst ho2
    have hp : ∃ p, c1 = .slice p 0 0 ∧ o1 = [] := by
      cases B1 with
      | flat _ _ hn hr => cases hr with
        | slnil => exact ⟨_, rfl, rfl⟩
        | slzero a => exact ⟨_, rfl, rfl⟩
        | slro => exact absurd rfl hk
    obtain ⟨p, rfl, rfl⟩ := hp
    have hpN : pin w.heap.size = none := by
      cases hp : pin w.heap.size with
      | none => rfl
      | some x =>
        have := lt_of_heap (hpp _ _ hp)
        omega
    have hge := grownCap_ge w (0 + 1) 0 (ρ.t 9)
    have hm5 : (0 + 1) * z2 ≤ grownCap w (0 + 1) 0 (ρ.t 9) * z2 := Nat.mul_le_mul_right _ hge
    have ho : (Builtin.firstCells z2 0 (.slice p 0 0)).run P w.drew = .ok #[] w.drew := by
      cases p with
      | none => simp [Builtin.firstCells]
      | some ad =>
        have := run_loadCells_list (P := P) (w := w.drew) ad [] (fun j v hj => by simp at hj)
        simpa [Builtin.firstCells] using this
    refine (ins_end_grow L hz0 w hvrow hvun hvrow hvun hst (n := 0) (c := 0) (m := 1) (p := p) (by omega) (fun h => rfl) hb0 (by omega) (by omega) (by omega) ho (by omega)).mono fun e w' ⟨he, hw⟩ => ?_
    subst hw
    rw [Nat.one_mul, Array.empty_append]
    have hN : ∀ X, (w.drew.alloc (.cells X (ρ.t 9))).heap[w.heap.size]? = some (.cells X (ρ.t 9) (0, 0)) := fun X => by show (w.heap.push _)[w.heap.size]? = _; simp
    have hold : ∀ X k, k < w.heap.size → (w.drew.alloc (.cells X (ρ.t 9))).heap[k]? = w.heap[k]? := fun X k hk => by show (w.heap.push _)[k]? = _; rw [Array.getElem?_push, if_neg (by omega)]
    have l1 : ((va.toList.drop voff).take z2).length = z2 := by simp; omega
    refine after_ins he (hN _) (unfrozen00 _) hge ?_ (by omega) hv1 (fun j v c hj hcj => ?_) (Fr.new rfl rfl rfl (by show _ ≤ (w.heap.push _).size; simp) (hold _)) (fun k x hk => ?_) hpN (.inr (Nat.le_refl _))
    · have e2 : (grownCap w (0 + 1) 0 (ρ.t 9) - (0 + 1)) * z2 = grownCap w (0 + 1) 0 (ρ.t 9) * z2 - (0 + 1) * z2 := Nat.sub_mul _ _ _
      simp only [Array.size_append, size_zeroCells, hzc, e2, List.size_toArray, l1]
      omega
    · refine hvR.at_ j v c hj ?_
      have hjl : j < z2 := by
        rw [← hvl]
        rcases Nat.lt_or_ge j vs.length with h' | h'
        · exact h'
        · rw [List.getElem?_eq_none h'] at hj; cases hj
      rw [Nat.zero_add, Array.getElem?_append_left (by simp only [List.size_toArray, l1]; omega)] at hcj
      rw [← hcj]
      simp
    · have hk2 := hpp k x hk
      rw [hold _ k (lt_of_heap hk2)]
      exact hk2
  · cases hG
end Go.Vm
