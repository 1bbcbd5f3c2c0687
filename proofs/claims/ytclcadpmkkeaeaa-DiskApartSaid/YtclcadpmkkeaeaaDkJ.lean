/- (seval) The disk and the document's: a step; plain facts. -/
import Derived.Test.YtclcadpmkkeaeaaDkF
import Derived.Test.YtclcadpmkkeaeaaDkH
set_option linter.unusedSectionVars false
set_option linter.unusedSimpArgs false
set_option linter.unusedVariables false
set_option maxHeartbeats 40000000
set_option maxRecDepth 10000
namespace Go.Vm
open Go.Vm.Ytclcadpmkkeaeaa
theorem code_now {nm : Tx → Bool} {l : List DE} (h : Srt DE.n l) (ho : OkE l) (lim : Int) (c : Ch) : codeK nm (fnd DF.n (nowL l) c.n).isSome (fS (fnd DF.n (nowL l) c.n)) (sizeF (nowL l)) lim c = codeL nm l lim c := by
  obtain ⟨h1, h2⟩ := face_now h ho c.n
  unfold codeL
  rw [h1, h2, used_now ho]
theorem move_ne {nm : Tx → Bool} {A : Bool} {S : Tx} {u : Nat} {lim : Int} {c : Ch} (hk : c.k = 2) (h : codeK nm A S u lim c = 0) : c.n ≠ c.t := by
  intro he
  unfold codeK at h
  rw [hk] at h
  simp only at h
  split at h
  · cases h
  · split at h
    · cases h
    · split at h <;> cases h
theorem face_some {l : List DE} {x : Tx} (h : faceA l x = true) : (fnd DE.n l x).isSome = true := by
  unfold faceA at h
  cases hf : fnd DE.n l x with
  | none => rw [hf] at h; cases h
  | some e => rfl
theorem chg_now {nm : Tx → Bool} {l : List DE} (h : Srt DE.n l) (ho : OkE l) {lim : Int} {c : Ch} (he : codeL nm l lim c = 0) : nowL (chgL l c) = chgK (nowL l) c := by
  obtain ⟨h1, h2⟩ := face_now h ho c.n
  have hne := fun hk => move_ne (c := c) hk he
  obtain ⟨kk, n, t, x, m⟩ := c
  simp only at h1 h2 hne
  rcases kk with _ | _ | _ | _ | kk
  · show nowL (layL l n true (faceS l n ++ x) 1) = withF (nowL l) ⟨n, fS (fnd DF.n (nowL l) n) ++ x, true⟩
    rw [h2]
    exact now_lay h _ _ _
  · exact now_lay h _ _ _
  · show nowL (layL (layL l t true (faceS l n) 2) n false [] 2) = withF (woF (nowL l) n) ⟨t, fS (fnd DF.n (nowL l) n), false⟩
    rw [h2, now_lay_no (srt_lay h _ _ _ _), now_lay h]
    exact wo_with (srt_now h) (hne rfl)
  · exact now_lay_no h _ _ _
  · show nowL (layL l n true ((faceS l n).take m.toNat) 2) = withF (nowL l) ⟨n, (fS (fnd DF.n (nowL l) n)).take m.toNat, false⟩
    rw [h2]
    exact now_lay h _ _ _
theorem chg_sure {l : List DE} (h : Srt DE.n l) (c : Ch) : sureL (chgL l c) = sureL l := by
  unfold chgL
  split
  · exact sure_lay h _ _ _ _
  · exact sure_lay h _ _ _ _
  · rw [sure_lay (srt_lay h _ _ _ _), sure_lay h]
  · exact sure_lay h _ _ _ _
  · exact sure_lay h _ _ _ _
theorem chg_srt {l : List DE} (h : Srt DE.n l) (c : Ch) : Srt DE.n (chgL l c) := by
  unfold chgL
  split
  · exact srt_lay h _ _ _ _
  · exact srt_lay h _ _ _ _
  · exact srt_lay (srt_lay h _ _ _ _) _ _ _ _
  · exact srt_lay h _ _ _ _
  · exact srt_lay h _ _ _ _
theorem chg_ok {l : List DE} (h : OkE l) (c : Ch) : OkE (chgL l c) := by
  unfold chgL
  split
  · exact ok_lay h (fun h => by cases h)
  · exact ok_lay h (fun h => by cases h)
  · exact ok_lay (ok_lay h (fun h => by cases h)) (fun _ => rfl)
  · exact ok_lay h (fun _ => rfl)
  · exact ok_lay h (fun h => by cases h)
theorem chg_len (l : List DE) (c : Ch) : (chgL l c).length ≤ l.length + 2 := by
  unfold chgL
  split
  · have := len_lay l c.n true (faceS l c.n ++ c.s) 1; omega
  · have := len_lay l c.n true c.s 1; omega
  · have := len_lay l c.t true (faceS l c.n) 2
    have := len_lay (layL l c.t true (faceS l c.n) 2) c.n false [] 2
    omega
  · have := len_lay l c.n false [] 2; omega
  · have := len_lay l c.n true ((faceS l c.n).take c.m.toNat) 2; omega
theorem wo_size_le {l : List DF} (h : Srt DF.n l) (x : Tx) : sizeF (woF l x) ≤ sizeF l := by
  have := size_wo h x
  omega
theorem chg_size {nm : Tx → Bool} {l : List DE} (h : Srt DE.n l) (ho : OkE l) {lim : Int} {c : Ch} (he : codeL nm l lim c = 0) : usedL (chgL l c) ≤ usedL l + c.s.length ∧ (0 ≤ lim → (usedL l : Int) ≤ lim → (usedL (chgL l c) : Int) ≤ lim) := by
  have hn := srt_now h
  rw [used_now (chg_ok ho c), chg_now h ho he, used_now ho]
  have hc := (code_now h ho lim c (nm := nm)).trans he
  unfold chgK
  have hw := size_wo hn c.n
  have hw2 := size_wo (srt_wo hn c.n) c.t
  unfold codeK fullB at hc
  generalize hS : fS (fnd DF.n (nowL l) c.n) = S at *
  generalize hN : nowL l = N at *
  split
  · rename_i hk
    rw [hk] at hc
    simp only at hc
    rw [size_with]
    simp only [List.length_append]
    refine ⟨by omega, fun h1 h2 => ?_⟩
    by_cases h3 : (0 : Int) < c.s.length
    · by_cases h4 : lim - (sizeF N : Int) < (c.s.length : Int)
      · simp only [h1, h3, h4, decide_true, Bool.and_self, if_true] at hc
        split at hc <;> cases hc
      · omega
    · omega
  · rename_i hk
    rw [hk] at hc
    simp only at hc
    rw [size_with]
    simp only
    refine ⟨by omega, fun h1 h2 => ?_⟩
    by_cases h3 : (0 : Int) < (c.s.length : Int) - (S.length : Int)
    · by_cases h4 : lim - (sizeF N : Int) < (c.s.length : Int) - (S.length : Int)
      · simp only [h1, h3, h4, decide_true, Bool.and_self, if_true] at hc
        split at hc <;> cases hc
      · omega
    · omega
  · rw [size_with]
    simp only
    exact ⟨by omega, fun h1 h2 => by omega⟩
  · exact ⟨by omega, fun h1 h2 => by omega⟩
  · rw [size_with]
    simp only [List.length_take]
    exact ⟨by omega, fun h1 h2 => by omega⟩
theorem used_sync (l : List DE) (h : OkE l) : usedL (syncL l) = usedL l := by
  rw [used_now (ok_sync h), used_now h, now_sync]
  unfold sizeF
  rw [List.map_map]
  rfl
end Go.Vm
/- (seval) The disk and the document's, in the machine: are they the same? -/
namespace Go.Vm
def NwL (nv : V) (l : List DE) (k : SK) : Prop := nv = .osl 3 (nowL l).length (rows DF.v (nowL l)) ∧ k = .ro ∨ nv = .sl k (nowL l).length (rows DF.v (nowL l))
end Go.Vm
namespace Go.Vm.Ytclcadpmkkeaeaa
open Go.Proofs
def Pr (k k1 k2 : SK) (l : List DE) (lim : Int) (ch : Nat) : V := .agg [.pt (dkv (.sl k l.length (rows DE.v l)) lim ch false) 0, .sl k1 (nowL l).length (rows DF.v (nowL l)), .sl k2 (sureL l).length (rows DF.v (sureL l)), .int .i64 lim, .sl .nil 0 [], .int .i64 (ch : Int), .bool false]
theorem now_len_le (l : List DE) : (nowL l).length ≤ l.length := by
  unfold nowL
  rw [List.length_map]
  exact List.length_filter_le _ _
theorem sure_len_le (l : List DE) : (sureL l).length ≤ l.length := by
  unfold sureL
  rw [List.length_map]
  exact List.length_filter_le _ _
theorem now_at {l : List DE} (h : Srt DE.n l) (ho : OkE l) {i : Nat} (hi : i < (nowL l).length) : faceA l (gt (nowL l) i).n = true ∧ faceS l (gt (nowL l) i).n = (gt (nowL l) i).s := by
  have hm : gt (nowL l) i ∈ nowL l := by rw [gt_eq hi]; exact List.getElem_mem hi
  have hf := (fnd_some (srt_now h)).2 ⟨hm, rfl⟩
  obtain ⟨h1, h2⟩ := face_now h ho (gt (nowL l) i).n
  rw [hf] at h1 h2
  exact ⟨h1.symm, h2.symm⟩
theorem str_ro {d : Nat} (l : List Tx) : (l.map V.str).any (hasRo (d + 1)) = false := by
  induction l with
  | nil => rfl
  | cons a l ih => rw [List.map_cons, List.any_cons, ih]; simp [hasRo]
/-- All names that are there may be names. -/
def NmE (l : List DE) : Prop := ∀ e ∈ l, nameB e.n = true
theorem nm_now {l : List DE} (h : NmE l) {i : Nat} (hi : i < (nowL l).length) : nameB (gt (nowL l) i).n = true := by
  have hm : gt (nowL l) i ∈ nowL l := by rw [gt_eq hi]; exact List.getElem_mem hi
  obtain ⟨e, h1, _, h2⟩ := mem_now.1 hm
  rw [h2]
  exact h e h1
theorem nm_len {x : Tx} (h : nameB x = true) : x.length ≤ 32 := by
  unfold nameB at h
  simp only [Bool.and_eq_true, decide_eq_true_eq] at h
  exact h.2.2
def eqS (k k1 k2 : SK) (l : List DE) (lim : Int) (ch : Nat) (a3 : V) (B : Blk) (i : Nat) (s : St) : Prop := i ≤ (nowL l).length ∧ s.t 1 = .ptr 128 1 0 ∧ s.σ 128 = ⟨1, .rw, false, [.pt (dkv (.sl k l.length (rows DE.v l)) lim ch false) 0, .sl k1 (nowL l).length (rows DF.v (nowL l)), .sl k2 (sureL l).length (rows DF.v (sureL l)), .int .i64 lim, .sl .nil 0 [], .int .i64 (ch : Int), .bool false]⟩ ∧ s.t 4 = .int .i64 (i : Int) ∧ s.t 3 = a3 ∧ s.σ 640 = B
theorem equal_ok (k k1 k2 : SK) (l : List DE) (lim : Int) (ch : Nat) (hs : Srt DE.n l) (ho : OkE l) (hn : NmE l) (hl : l.length ≤ 900) (hu : usedL l ≤ 100000) (hch : ch ≤ 900) : Gf fns 16 [Pr k k1 k2 l lim ch] = some (.bool true, []) := by
  have d1 := Names_ok k l lim ch false (by omega)
  have d2 := Used_ok k l lim ch false (by omega) (by omega)
  have hsz := used_now ho
  have hnl := now_len_le l
  have hsl := sure_len_le l
  have d3 := Size_ok k1 (nowL l) (by omega) (by omega)
  have d4 := Dead_ok lim ch false (.sl k l.length (rows DE.v l))
  have d5 := Changes_ok (.sl k l.length (rows DE.v l)) lim ch false
  have d6 := DLoose_ok k l lim ch false (by omega)
  have d7 := Loose_ok k1 k2 (nowL l) (sureL l) lim ch (srt_now hs) (by omega) (by omega)
  have d8 : ∀ i, i < (nowL l).length → Gf fns 13 [.pt (dkv (.sl k l.length (rows DE.v l)) lim ch false) 0, .str (gt (nowL l) i).n] = some (.tup [.str (gt (nowL l) i).s, .int .i64 0], []) := by
    intro i hi
    have hnm := nm_now hn hi
    obtain ⟨f1, f2⟩ := now_at hs ho hi
    have h := Read_ok k l lim ch (gt (nowL l) i).n hs (by omega) (by have := nm_len hnm; omega)
    have hc : opC l (gt (nowL l) i).n true = 0 := by unfold opC; simp [hnm, f1]
    rw [hc, if_pos rfl, f2] at h
    exact h
  rw [← hsz] at d3
  rw [loo_eq hs ho] at d7
  have hlc : ((l.filter looE).map DE.n).length = (l.filter looE).length := List.length_map _
  have hls : (((l.filter looE).map DE.n).map V.str).length = (l.filter looE).length := by simp
  rw [hlc] at d7
  have hlo : (l.filter looE).length ≤ l.length := List.length_filter_le _ _
  have hlr : (((l.filter looE).map DE.n).map V.str).any (hasRo 7) = false := str_ro _
  generalize (l.filter looE).length = lc at *
  generalize ((l.filter looE).map DE.n).map V.str = lcs at *
  generalize usedL l = U at *
  clear hlc
  unfold Pr
  simp -implicitDefEqProofs (disch := omega) only [go_sem, seval, dkv, rk] at d2 d3 d4 d5 d6 d7
  refine Gf_start rfl rfl ?_
  rcases d1 with d1 | ⟨hnil, d1⟩
  · have hnn : (((nowL l).map DF.n).map V.str).length = (nowL l).length := by simp
    simp -implicitDefEqProofs (disch := omega) only [go_sem, seval, dkv] at d1
    simp -implicitDefEqProofs (disch := omega) only [go_sem, seval, dkv, d1]
    refine wp_draw_E ?_
    simp -implicitDefEqProofs (disch := omega) only [go_sem, seval, d2, d3, d4, d5, d6, d7, hnn, hls, hlr]
    refine wp_loopS (eqS k k1 k2 l lim ch (.sli 640 1 0 (nowL l).length 1) ⟨1, .rw, true, ((nowL l).map DF.n).map V.str⟩) (fun i => (nowL l).length - i) 0 ⟨by omega, by simp -implicitDefEqProofs (disch := omega) only [go_sem, seval, go_sem], by simp -implicitDefEqProofs (disch := omega) only [go_sem, seval, dkv], by simp -implicitDefEqProofs (disch := omega) only [go_sem, seval, go_sem], by simp -implicitDefEqProofs (disch := omega) only [go_sem, seval, go_sem], by simp -implicitDefEqProofs (disch := omega) only [go_sem, seval, go_sem]⟩ ?_
    rintro i ⟨t, σ⟩ ⟨hi, h1, s1, h4, h3, s3⟩
    simp only at h1 s1 h4 h3 s3
    simp -implicitDefEqProofs (disch := omega) only [go_sem, seval, lp16_0, h3, h4]
    refine condC_dec (fun hc => ?_) (fun hc => ?_)
    · have r := d8 i hc
      have c0 := fcell0 (nowL l) i hc
      have c1 := fcell1 (nowL l) i hc
      obtain ⟨q1, q2⟩ := fto (nowL l) i hc
      have cn : (((nowL l).map DF.n).map V.str)[i]? = some (.str (gt (nowL l) i).n) := by
        rw [List.getElem?_map, List.getElem?_map, List.getElem?_eq_getElem hc, gt_eq hc]
        rfl
      generalize gt (nowL l) i = g at *
      simp -implicitDefEqProofs (disch := omega) only [go_sem, seval, dkv] at r s1
      simp -implicitDefEqProofs (disch := omega) only [go_sem, seval, h1, s1, h3, s3, h4]
      refine wp_draw_E ?_
      simp -implicitDefEqProofs (disch := omega) only [go_sem, seval, h1, s1, h3, s3, h4, hnn, cn, r]
      refine wp_draw_E ?_
      simp -implicitDefEqProofs (disch := omega) only [go_sem, seval, h1, s1, h3, s3, h4, hnn, cn, c0, c1, q1, q2]
      exact ⟨i + 1, by omega, by omega, by simp -implicitDefEqProofs (disch := omega) only [go_sem, seval, h1], by simp -implicitDefEqProofs (disch := omega) only [go_sem, seval, s1, dkv], by simp -implicitDefEqProofs (disch := omega) only [go_sem, seval, go_sem], by simp -implicitDefEqProofs (disch := omega) only [go_sem, seval, h3], by simp -implicitDefEqProofs (disch := omega) only [go_sem, seval, s3]⟩
    · obtain rfl : i = (nowL l).length := by omega
      simp -implicitDefEqProofs (disch := omega) only [go_sem, seval, go_sem]
  · rw [hnil] at d3 d7 ⊢
    simp -implicitDefEqProofs (disch := omega) only [go_sem, seval, dkv, rows_nil, List.length_nil] at d1 d3 d7
    simp -implicitDefEqProofs (disch := omega) only [go_sem, seval, dkv, d1, rows_nil, List.length_nil]
    refine wp_draw_E ?_
    simp -implicitDefEqProofs (disch := omega) only [go_sem, seval, d2, d3, d4, d5, d6, d7, hls, hlr, ↓wp_unroll, lp16_0]
end Go.Vm.Ytclcadpmkkeaeaa
