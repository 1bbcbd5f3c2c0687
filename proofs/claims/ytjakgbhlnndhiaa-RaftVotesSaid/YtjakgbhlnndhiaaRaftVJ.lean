/- (seval) Raft: a replica votes once in a term: the law. -/
import Derived.Test.YtjakgbhlnndhiaaRaftVId
set_option linter.unusedSectionVars false
set_option linter.unusedSimpArgs false
set_option linter.unusedVariables false
set_option maxHeartbeats 8000000
set_option maxRecDepth 10000
namespace Go.Vm.Ytjakgbhlnndhiaa
open Go.Proofs
theorem lastT_take (l : List Ent) (i : Nat) (h : i < l.length) : lastT (l.take (i + 1)) = (gt l i).term := by
  have hne : ¬ l.take (i + 1) = [] := by rw [take_gt h]; simp
  have hlt : (l.take (i + 1)).length = i + 1 := by simp; omega
  unfold lastT
  rw [if_neg hne, hlt, gt_eq (by rw [hlt]; omega), gt_eq h]
  simp
def hdC (T0 vote0 bi bt : Int) (bs : List UInt8) (kb : SK) (bl : List Int) (kl : SK) (l : List Ent) : List V := [.int .i64 T0, .int .i64 vote0, .int .i64 bi, .int .i64 bt, .str bs, .sl kb bl.length (bl.map iV), .sl kl l.length (rows Ent.v l)]
def v0S (km : SK) (ml : List Msg) (T0 vote0 bi bt : Int) (bs : List UInt8) (kb : SK) (bl : List Int) (kl : SK) (l : List Ent) (i : Nat) (s : St) : Prop :=
  i ≤ l.length ∧ s.t 1 = .sl km ml.length (rows Msg.v ml) ∧ s.t 2 = .ptr 192 1 0 ∧ s.σ 192 = ⟨1, .rw, false, hdC T0 vote0 bi bt bs kb bl kl l⟩ ∧ s.t 5 = .int .i64 (lastT (l.take i)) ∧ s.t 6 = .int .i64 (i : Int)
section
variable (km : SK) (ml : List Msg) (T0 vote0 bi bt : Int) (bs : List UInt8) (kb : SK) (bl : List Int) (kl : SK) (l : List Ent)
theorem v0_step (hl : l.length ≤ 20) (Q : Ex → St → Prop) (hQ1 : ∀ s', s'.t 4 = .bool true → Q .ret s') (hQ2 : ∀ s', v0S km ml T0 vote0 bi bt bs kb bl kl l l.length s' → Q (.exit 0) s') (i : Nat) (s : St) (h : v0S km ml T0 vote0 bi bt bs kb bl kl l i s) : wpA (tabW fns) lp4_0 (nextQ (v0S km ml T0 vote0 bi bt bs kb bl kl l) (fun i => l.length - i) i Q) s := by
  have hrl := elen l
  obtain ⟨t, σ⟩ := s
  obtain ⟨hi, h1, h2, s2, h5, h6⟩ := h
  simp only at h1 h2 s2 h5 h6
  simp -implicitDefEqProofs (disch := omega) only [go_sem, seval, hdC] at s2
  by_cases hc : i < l.length
  · have e := ecell l i hc
    have lt := lastT_take l i hc
    simp -implicitDefEqProofs (disch := omega) only [go_sem, seval, lp4_0, h2, s2, h6, hc]
    refine wp_draw_E ?_
    by_cases q1 : (gt l i).term < lastT (l.take i)
    · simp -implicitDefEqProofs (disch := omega) only [go_sem, seval, h2, s2, h5, h6, e, q1, awake_ok]
      exact hQ1 _ (by simp -implicitDefEqProofs (disch := omega) only [go_sem, seval, go_sem])
    · by_cases q2 : T0 < (gt l i).term
      · simp -implicitDefEqProofs (disch := omega) only [go_sem, seval, h2, s2, h5, h6, e, q1, q2, awake_ok]
        exact hQ1 _ (by simp -implicitDefEqProofs (disch := omega) only [go_sem, seval, go_sem])
      · simp -implicitDefEqProofs (disch := omega) only [go_sem, seval, h2, s2, h5, h6, e, q1, q2]
        exact ⟨i + 1, by omega, by omega, by simp -implicitDefEqProofs (disch := omega) only [go_sem, seval, h1], by simp -implicitDefEqProofs (disch := omega) only [go_sem, seval, h2], by simp -implicitDefEqProofs (disch := omega) only [go_sem, seval, s2, hdC], by simp -implicitDefEqProofs (disch := omega) only [go_sem, seval, lt], by simp -implicitDefEqProofs (disch := omega) only [go_sem, seval, go_sem]⟩
  · obtain rfl : i = l.length := by omega
    simp -implicitDefEqProofs (disch := omega) only [go_sem, seval, lp4_0, h2, s2, h6, hc]
    exact hQ2 _ ⟨hi, by simp -implicitDefEqProofs (disch := omega) only [go_sem, seval, h1], by simp -implicitDefEqProofs (disch := omega) only [go_sem, seval, h2], by simp -implicitDefEqProofs (disch := omega) only [go_sem, seval, s2, hdC], by simp -implicitDefEqProofs (disch := omega) only [go_sem, seval, h5], by simp -implicitDefEqProofs (disch := omega) only [go_sem, seval, h6]⟩
end
theorem raftVotes_law (km : SK) (ml : List Msg) (T0 vote0 bi bt : Int) (bs : List UInt8) (kb : SK) (bl : List Int) (kl : SK) (l : List Ent) (hk : kb = .nil ∨ kb = .ro) (hn : kb = .nil → bl = []) (hbl : bl.length ≤ 17592186044416) (ho : ∀ e ∈ l, e.ok) (hml : ml.length ≤ 140737488355328) (hll : l.length ≤ 140737488355328) :
    fnA (tabW fns) [.bor, .bor] ir4 [.agg (hdC T0 vote0 bi bt bs kb bl kl l), .sl km ml.length (rows Msg.v ml)] (fun q => q = (.bool true, [])) := by
  have hrl := elen l
  obtain ⟨l2, hl2, ho2, hcut⟩ : ∃ l2 : List Ent, l2.length ≤ 20 ∧ (∀ e ∈ l2, e.ok) ∧ ((l.length ≤ 20 ∧ l2 = l) ∨ (20 < l.length ∧ l2.length = 20 ∧ (rows Ent.v l).take 80 = rows Ent.v l2)) := by
    rcases Nat.lt_or_ge 20 l.length with h | h
    · exact ⟨l.take 20, by simp; omega, fun e he => ho e (List.mem_of_mem_take he), .inr ⟨h, by simp; omega, rows_take Ent.v_len l 20⟩⟩
    · exact ⟨l, h, ho, .inl ⟨h, rfl⟩⟩
  have hrl2 := elen l2
  refine fnA_start rfl ?_
  rcases hcut with ⟨hc, rfl⟩ | ⟨hc, h20, hcut⟩
  · have hc2 : ¬ 20 < l2.length := by omega
    simp -implicitDefEqProofs (disch := omega) only [go_sem, seval, hdC, hc2]
    refine wp_loopS (v0S km ml T0 vote0 bi bt bs kb bl kl l2) (fun i => l2.length - i) 0 ⟨by omega, by simp -implicitDefEqProofs (disch := omega) only [go_sem, seval, go_sem], by simp -implicitDefEqProofs (disch := omega) only [go_sem, seval, go_sem], by simp -implicitDefEqProofs (disch := omega) only [go_sem, seval, hdC], by simp -implicitDefEqProofs (disch := omega) only [go_sem, seval, lastT, List.take_zero], by simp -implicitDefEqProofs (disch := omega) only [go_sem, seval, go_sem]⟩ (v0_step km ml T0 vote0 bi bt bs kb bl kl l2 hl2 _ ?_ ?_)
    · rintro ⟨t, σ⟩ h4
      simp only at h4
      simp -implicitDefEqProofs (disch := omega) only [go_sem, seval, h4]
    rintro ⟨t, σ⟩ ⟨_, h1, h2, s2, h5, _⟩
    simp only at h1 h2 s2 h5
    rw [List.take_length] at h5
    simp -implicitDefEqProofs (disch := omega) only [go_sem, seval, hdC] at s2
    by_cases q0 : T0 < 0
    · simp -implicitDefEqProofs (disch := omega) only [go_sem, seval, h2, s2, q0, awake_ok]
    by_cases q1 : 1073741824 < T0
    · simp -implicitDefEqProofs (disch := omega) only [go_sem, seval, h2, s2, q0, q1, awake_ok]
    by_cases q2 : bi = 0
    rotate_left
    · simp -implicitDefEqProofs (disch := omega) only [go_sem, seval, h2, s2, q0, q1, q2, awake_ok]
    by_cases q3 : bt = 0
    rotate_left
    · simp -implicitDefEqProofs (disch := omega) only [go_sem, seval, h2, s2, q0, q1, q2, q3, awake_ok]
    by_cases q4 : bs = []
    rotate_left
    · simp -implicitDefEqProofs (disch := omega) only [go_sem, seval, h2, s2, q0, q1, q2, q3, q4, awake_ok]
    by_cases q5 : vote0 < -1
    · simp -implicitDefEqProofs (disch := omega) only [go_sem, seval, h2, s2, q0, q1, q2, q3, q4, q5, awake_ok]
    by_cases q6 : 15 < vote0
    · simp -implicitDefEqProofs (disch := omega) only [go_sem, seval, h2, s2, q0, q1, q2, q3, q4, q5, q6, awake_ok]
    obtain ⟨T, rfl⟩ : ∃ n : Nat, T0 = (n : Int) := ⟨T0.toNat, by omega⟩
    subst q2 q3 q4
    have q0 : ¬ (T : Int) < 0 := by omega
    simp -implicitDefEqProofs (disch := omega) only [go_sem, seval, h2, s2, q0, q1, q5, q6]
    refine contC_ex (new_call (base := 6144) (S := SS) (bl := bl) (l := l2) T (by omega) (vote := vote0) ⟨by omega, by omega⟩ (kb := kb) (kl := kl) hk hn hbl ho2 hl2 (is := []) (by simp -implicitDefEqProofs (disch := omega) only [go_sem, seval, go_sem]) (by simp) (by decide) (by decide)) ?_
    rintro σ1 ⟨hN1, hf1⟩
    obtain ⟨hpS, hno, hpb⟩ := ss_no (p := 6144) (.inl rfl)
    obtain ⟨n1, n2⟩ := hno 192 (by simp)
    obtain ⟨n3, n4⟩ := hno 6720 (by simp)
    have x192 := (hf1 192 n1 n2).trans s2
    generalize (σ 6144).gen + 1 = gp at *
    have no6720 : ∀ j, j = 6144 ∨ j ∈ SS → (j == 6720) = false := fun j hj => beq_no (fun c => by
      subst c
      rcases hj with h | h
      · exact n3 h
      · exact n4 h)
    by_cases hv0 : 0 ≤ vote0
    · simp -implicitDefEqProofs (disch := omega) only [go_sem, seval, awake_ok, h2, x192, hv0, mput]
      refine wp_loopS (vS km ml _ bl l2) (fun i => ml.length - i) 0 ⟨by omega, by simp -implicitDefEqProofs (disch := omega) only [go_sem, seval, h1], by simp -implicitDefEqProofs (disch := omega) only [go_sem, seval, h2], by simp -implicitDefEqProofs (disch := omega) only [go_sem, seval, x192], by simp -implicitDefEqProofs (disch := omega) only [go_sem, seval, h5], by simp -implicitDefEqProofs (disch := omega) only [go_sem, seval, go_sem], (σ1 6720).gen + 1, 6144, gp, T, vote0, 0, tmoT T, [((T : Int), vote0)], by simp -implicitDefEqProofs (disch := omega) only [go_sem, seval, go_sem], by simp -implicitDefEqProofs (disch := omega) only [go_sem, seval, go_sem], .inl rfl, hN1.frame fun j hj => ?_, by omega, by omega, by omega, by simp -implicitDefEqProofs (disch := omega) only [go_sem, seval, encM, List.map_cons, List.map_nil], fun a ha => ?_, ?_⟩ (votes_step km ml (T : Int) vote0 kb kl bl l2 hl2 ho2 hbl hml _ (fun s' => by obtain ⟨t', σ'⟩ := s'; simp -implicitDefEqProofs (disch := omega) only [go_sem, seval, go_sem]))
      · simp -implicitDefEqProofs (disch := omega) only [go_sem, seval, no6720 j hj]
      · have : ¬ a = (T : Int) := by omega
        simp [lk, this]
      · have : ¬ vote0 = -1 := by omega
        simp [lk, this]
    · simp -implicitDefEqProofs (disch := omega) only [go_sem, seval, awake_ok, h2, x192, hv0, mput]
      refine wp_loopS (vS km ml _ bl l2) (fun i => ml.length - i) 0 ⟨by omega, by simp -implicitDefEqProofs (disch := omega) only [go_sem, seval, h1], by simp -implicitDefEqProofs (disch := omega) only [go_sem, seval, h2], by simp -implicitDefEqProofs (disch := omega) only [go_sem, seval, x192], by simp -implicitDefEqProofs (disch := omega) only [go_sem, seval, h5], by simp -implicitDefEqProofs (disch := omega) only [go_sem, seval, go_sem], (σ1 6720).gen + 1, 6144, gp, T, vote0, 0, tmoT T, [], by simp -implicitDefEqProofs (disch := omega) only [go_sem, seval, go_sem], by simp -implicitDefEqProofs (disch := omega) only [go_sem, seval, go_sem], .inl rfl, hN1.frame fun j hj => ?_, by omega, by omega, by omega, by simp -implicitDefEqProofs (disch := omega) only [go_sem, seval, encM, List.map_cons, List.map_nil], fun a ha => ?_, ?_⟩ (votes_step km ml (T : Int) vote0 kb kl bl l2 hl2 ho2 hbl hml _ (fun s' => by obtain ⟨t', σ'⟩ := s'; simp -implicitDefEqProofs (disch := omega) only [go_sem, seval, go_sem]))
      · simp -implicitDefEqProofs (disch := omega) only [go_sem, seval, no6720 j hj]
      · rfl
      · have : vote0 = -1 := by omega
        simp [lk, this]
  · have hc2 := hc
    simp -implicitDefEqProofs (disch := omega) only [go_sem, seval, hdC, hc, hcut]
    refine wp_loopS (v0S km ml T0 vote0 bi bt bs kb bl kl l2) (fun i => l2.length - i) 0 ⟨by omega, by simp -implicitDefEqProofs (disch := omega) only [go_sem, seval, go_sem], by simp -implicitDefEqProofs (disch := omega) only [go_sem, seval, go_sem], by simp -implicitDefEqProofs (disch := omega) only [go_sem, seval, hdC, h20], by simp -implicitDefEqProofs (disch := omega) only [go_sem, seval, lastT, List.take_zero], by simp -implicitDefEqProofs (disch := omega) only [go_sem, seval, go_sem]⟩ (v0_step km ml T0 vote0 bi bt bs kb bl kl l2 hl2 _ ?_ ?_)
    · rintro ⟨t, σ⟩ h4
      simp only at h4
      simp -implicitDefEqProofs (disch := omega) only [go_sem, seval, h4]
    rintro ⟨t, σ⟩ ⟨_, h1, h2, s2, h5, _⟩
    simp only at h1 h2 s2 h5
    rw [List.take_length] at h5
    simp -implicitDefEqProofs (disch := omega) only [go_sem, seval, hdC] at s2
    by_cases q0 : T0 < 0
    · simp -implicitDefEqProofs (disch := omega) only [go_sem, seval, h2, s2, q0, awake_ok]
    by_cases q1 : 1073741824 < T0
    · simp -implicitDefEqProofs (disch := omega) only [go_sem, seval, h2, s2, q0, q1, awake_ok]
    by_cases q2 : bi = 0
    rotate_left
    · simp -implicitDefEqProofs (disch := omega) only [go_sem, seval, h2, s2, q0, q1, q2, awake_ok]
    by_cases q3 : bt = 0
    rotate_left
    · simp -implicitDefEqProofs (disch := omega) only [go_sem, seval, h2, s2, q0, q1, q2, q3, awake_ok]
    by_cases q4 : bs = []
    rotate_left
    · simp -implicitDefEqProofs (disch := omega) only [go_sem, seval, h2, s2, q0, q1, q2, q3, q4, awake_ok]
    by_cases q5 : vote0 < -1
    · simp -implicitDefEqProofs (disch := omega) only [go_sem, seval, h2, s2, q0, q1, q2, q3, q4, q5, awake_ok]
    by_cases q6 : 15 < vote0
    · simp -implicitDefEqProofs (disch := omega) only [go_sem, seval, h2, s2, q0, q1, q2, q3, q4, q5, q6, awake_ok]
    obtain ⟨T, rfl⟩ : ∃ n : Nat, T0 = (n : Int) := ⟨T0.toNat, by omega⟩
    subst q2 q3 q4
    have q0 : ¬ (T : Int) < 0 := by omega
    simp -implicitDefEqProofs (disch := omega) only [go_sem, seval, h2, s2, q0, q1, q5, q6]
    refine contC_ex (new_call (base := 6144) (S := SS) (bl := bl) (l := l2) T (by omega) (vote := vote0) ⟨by omega, by omega⟩ (kb := kb) (kl := kl) hk hn hbl ho2 hl2 (is := []) (by simp -implicitDefEqProofs (disch := omega) only [go_sem, seval, go_sem]) (by simp) (by decide) (by decide)) ?_
    rintro σ1 ⟨hN1, hf1⟩
    obtain ⟨hpS, hno, hpb⟩ := ss_no (p := 6144) (.inl rfl)
    obtain ⟨n1, n2⟩ := hno 192 (by simp)
    obtain ⟨n3, n4⟩ := hno 6720 (by simp)
    have x192 := (hf1 192 n1 n2).trans s2
    generalize (σ 6144).gen + 1 = gp at *
    have no6720 : ∀ j, j = 6144 ∨ j ∈ SS → (j == 6720) = false := fun j hj => beq_no (fun c => by
      subst c
      rcases hj with h | h
      · exact n3 h
      · exact n4 h)
    by_cases hv0 : 0 ≤ vote0
    · simp -implicitDefEqProofs (disch := omega) only [go_sem, seval, awake_ok, h2, x192, hv0, mput]
      refine wp_loopS (vS km ml _ bl l2) (fun i => ml.length - i) 0 ⟨by omega, by simp -implicitDefEqProofs (disch := omega) only [go_sem, seval, h1], by simp -implicitDefEqProofs (disch := omega) only [go_sem, seval, h2], by simp -implicitDefEqProofs (disch := omega) only [go_sem, seval, x192], by simp -implicitDefEqProofs (disch := omega) only [go_sem, seval, h5], by simp -implicitDefEqProofs (disch := omega) only [go_sem, seval, go_sem], (σ1 6720).gen + 1, 6144, gp, T, vote0, 0, tmoT T, [((T : Int), vote0)], by simp -implicitDefEqProofs (disch := omega) only [go_sem, seval, go_sem], by simp -implicitDefEqProofs (disch := omega) only [go_sem, seval, go_sem], .inl rfl, hN1.frame fun j hj => ?_, by omega, by omega, by omega, by simp -implicitDefEqProofs (disch := omega) only [go_sem, seval, encM, List.map_cons, List.map_nil], fun a ha => ?_, ?_⟩ (votes_step km ml (T : Int) vote0 kb kl bl l2 hl2 ho2 hbl hml _ (fun s' => by obtain ⟨t', σ'⟩ := s'; simp -implicitDefEqProofs (disch := omega) only [go_sem, seval, go_sem]))
      · simp -implicitDefEqProofs (disch := omega) only [go_sem, seval, no6720 j hj]
      · have : ¬ a = (T : Int) := by omega
        simp [lk, this]
      · have : ¬ vote0 = -1 := by omega
        simp [lk, this]
    · simp -implicitDefEqProofs (disch := omega) only [go_sem, seval, awake_ok, h2, x192, hv0, mput]
      refine wp_loopS (vS km ml _ bl l2) (fun i => ml.length - i) 0 ⟨by omega, by simp -implicitDefEqProofs (disch := omega) only [go_sem, seval, h1], by simp -implicitDefEqProofs (disch := omega) only [go_sem, seval, h2], by simp -implicitDefEqProofs (disch := omega) only [go_sem, seval, x192], by simp -implicitDefEqProofs (disch := omega) only [go_sem, seval, h5], by simp -implicitDefEqProofs (disch := omega) only [go_sem, seval, go_sem], (σ1 6720).gen + 1, 6144, gp, T, vote0, 0, tmoT T, [], by simp -implicitDefEqProofs (disch := omega) only [go_sem, seval, go_sem], by simp -implicitDefEqProofs (disch := omega) only [go_sem, seval, go_sem], .inl rfl, hN1.frame fun j hj => ?_, by omega, by omega, by omega, by simp -implicitDefEqProofs (disch := omega) only [go_sem, seval, encM, List.map_cons, List.map_nil], fun a ha => ?_, ?_⟩ (votes_step km ml (T : Int) vote0 kb kl bl l2 hl2 ho2 hbl hml _ (fun s' => by obtain ⟨t', σ'⟩ := s'; simp -implicitDefEqProofs (disch := omega) only [go_sem, seval, go_sem]))
      · simp -implicitDefEqProofs (disch := omega) only [go_sem, seval, no6720 j hj]
      · rfl
      · have : vote0 = -1 := by omega
        simp [lk, this]
theorem tHard : tysOf Try.prog 43 = some [3, 3, 3, 3, 9, 25, 36] := by kernel_rfl
theorem tLE : tysOf Try.prog 45 = some [3, 9, 4, 25] := by kernel_rfl
theorem tMsg : tysOf Try.prog 38 = some [3, 3, 3, 3, 3, 3, 3, 4, 36, 3, 9, 4, 25] := by kernel_rfl
theorem uInt : Try.prog.underlying 3 = some (.int .i64) := by kernel_rfl
theorem uBool : Try.prog.underlying 4 = some .bool := by kernel_rfl
theorem uStr : Try.prog.underlying 9 = some .string := by kernel_rfl
theorem uLog : Try.prog.underlying 36 = some (.slice 45) := by kernel_rfl
theorem uInts : Try.prog.underlying 25 = some (.slice 3) := by kernel_rfl
theorem uMsgs : Try.prog.underlying 31 = some (.slice 38) := by kernel_rfl
theorem bInt : Try.prog.bytesOf 3 = 8 := by kernel_rfl
theorem bLE : Try.prog.bytesOf 45 = 56 := by kernel_rfl
theorem bMsg : Try.prog.bytesOf 38 = 144 := by kernel_rfl
theorem fit_ints {d : Nat} {r : List V} (h : Fits Try.prog (d + 2) 25 r) : ∃ (k : SK) (l : List Int), r = [.sl k l.length (l.map iV)] ∧ (k = .nil → l = []) ∧ (k = .nil ∨ k = .ro) ∧ l.length ≤ 17592186044416 := by
  obtain ⟨k, m, rfl, hk, hk2, hb, _⟩ := fits_slice iV (fun _ => True) uInts (fun r hr => by obtain ⟨n, rfl, _⟩ := fits_int uInt hr; exact ⟨n, rfl, trivial⟩) h
  rw [bInt] at hb
  have := reach_lt
  exact ⟨k, m, rfl, hk, hk2, by omega⟩
theorem fit_ent {d : Nat} {r : List V} (h : Fits Try.prog (d + 3) 45 r) : ∃ e : Ent, r = e.v ∧ e.ok := by
  obtain ⟨a1, b1, rfl, h1, a2, b2, rfl, h2, a3, b3, rfl, h3, a4, b4, rfl, h4, rfl⟩ := fits_struct tLE h
  obtain ⟨x1, rfl, _⟩ := fits_int uInt h1
  obtain ⟨x2, rfl, _⟩ := fits_str uStr h2
  obtain ⟨x3, rfl⟩ := fits_bool uBool h3
  obtain ⟨k, m, rfl, hk, hk2, hl⟩ := fit_ints h4
  exact ⟨⟨x1, x2, x3, k, m⟩, rfl, hk2, hk, hl⟩
theorem fit_msg {d : Nat} {vs : List V} (h : Fits Try.prog (d + 2) 38 vs) : ∃ m : Msg, vs = m.v := by
  obtain ⟨a1, b1, rfl, h1, a2, b2, rfl, h2, a3, b3, rfl, h3, a4, b4, rfl, h4, a5, b5, rfl, h5, a6, b6, rfl, h6, a7, b7, rfl, h7, a8, b8, rfl, h8, a9, b9, rfl, h9, a10, b10, rfl, h10, a11, b11, rfl, h11, a12, b12, rfl, h12, a13, b13, rfl, h13, rfl⟩ := fits_struct tMsg h
  obtain ⟨x1, rfl, _⟩ := fits_int uInt h1
  obtain ⟨x2, rfl, _⟩ := fits_int uInt h2
  obtain ⟨x3, rfl, _⟩ := fits_int uInt h3
  obtain ⟨x4, rfl, _⟩ := fits_int uInt h4
  obtain ⟨x5, rfl, _⟩ := fits_int uInt h5
  obtain ⟨x6, rfl, _⟩ := fits_int uInt h6
  obtain ⟨x7, rfl, _⟩ := fits_int uInt h7
  obtain ⟨x8, rfl⟩ := fits_bool uBool h8
  obtain ⟨k9, l9, rfl, _⟩ := fits_slice_rows (fun r : List V => r) (fun _ => True) uLog (fun r _ => ⟨r, rfl, trivial⟩) h9
  obtain ⟨x10, rfl, _⟩ := fits_int uInt h10
  obtain ⟨x11, rfl, _⟩ := fits_str uStr h11
  obtain ⟨x12, rfl⟩ := fits_bool uBool h12
  obtain ⟨k13, l13, rfl, _⟩ := fits_slice_rows (fun r : List V => r) (fun _ => True) uInts (fun r _ => ⟨r, rfl, trivial⟩) h13
  exact ⟨⟨x1, x2, x3, x4, x5, x6, x7, x8, k9, _, _, x10, x11, x12, k13, _, _⟩, rfl⟩
theorem raftVotes_main (xs : List V) (h : FitsA Try.prog 8 [43, 31] xs) : fnA (tabW fns) ([43, 31].map fun _ => Mode.bor) ir4 xs (fun p => p = (.bool true, [])) := by
  have := reach_lt
  obtain ⟨x, ys, rfl, h1, h⟩ := fitsA_s h
  obtain ⟨y, zs, rfl, h2, h⟩ := fitsA_s h
  obtain rfl := fitsA_0 h
  obtain ⟨v1, rfl, g1⟩ := fit_struct (d := 7) tHard h1
  obtain ⟨a1, b1, rfl, f1, a2, b2, rfl, f2, a3, b3, rfl, f3, a4, b4, rfl, f4, a5, b5, rfl, f5, a6, b6, rfl, f6, a7, b7, rfl, f7, rfl⟩ := g1
  obtain ⟨T0, rfl, _⟩ := fits_int uInt f1
  obtain ⟨vote0, rfl, _⟩ := fits_int uInt f2
  obtain ⟨bi, rfl, _⟩ := fits_int uInt f3
  obtain ⟨bt, rfl, _⟩ := fits_int uInt f4
  obtain ⟨bs, rfl, _⟩ := fits_str uStr f5
  obtain ⟨kb, bl, rfl, hn, hk, hbl⟩ := fit_ints f6
  obtain ⟨kl, l, rfl, _, _, hb, ho⟩ := fits_slice_rows Ent.v Ent.ok uLog (fun r hr => fit_ent hr) f7
  rw [bLE] at hb
  obtain ⟨km, ml, rfl, _, _, hm, _⟩ := fit_slice_rows (d := 7) Msg.v (fun _ => True) uMsgs (fun r hr => by obtain ⟨m, rfl⟩ := fit_msg hr; exact ⟨m, rfl, trivial⟩) h2
  rw [bMsg] at hm
  exact raftVotes_law km ml T0 vote0 bi bt bs kb bl kl l hk hn hbl ho (by omega) (by omega)
end Go.Vm.Ytjakgbhlnndhiaa
