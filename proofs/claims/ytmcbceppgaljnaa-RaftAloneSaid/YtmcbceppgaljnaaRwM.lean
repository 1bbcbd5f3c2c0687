/- (seval) Raft: a replica alone: the law. -/
import Derived.Test.YtmcbceppgaljnaaRwL
import Derived.Test.YtmcbceppgaljnaaRaftE
set_option linter.unusedSectionVars false
set_option linter.unusedSimpArgs false
set_option linter.unusedVariables false
set_option maxHeartbeats 8000000
set_option maxRecDepth 10000
namespace Go.Vm
theorem wp_cutR {tbl : Tbl} {a b : IC} {Q : Ex → St → Prop} {s : St} (M : St → Prop) (h1 : wpA tbl a (fun e s' => match e with | .normal => M s' | e => Q e s') s) (h2 : ∀ s', M s' → wpA tbl b Q s') : wpA tbl (.seq a b) Q s := by
  refine wpA_mono (c := a) (fun e s' h => ?_) h1
  cases e with
  | normal => exact h2 s' h
  | exit i => exact h
  | ret => exact h
theorem contC_exv {tbl : Tbl} {r : List IOp} {K : St → Prop} {t : Nat → V} {d : Nat} {o : Option (V × Store)} {P : V × Store → Prop} (h : ∃ v σ', o = some (v, σ') ∧ P (v, σ')) (hk : ∀ v σ', P (v, σ') → regA tbl r K ⟨upd t d v, σ'⟩) : contC tbl r K t d o := by
  obtain ⟨v, σ', h1, h2⟩ := h
  exact contC_of h1 (hk v σ' h2)
end Go.Vm
namespace Go.Vm.Ytmcbceppgaljnaa
open Go.Proofs
def m1S (k : SK) (L : List (List UInt8)) (s : St) : Prop := ∃ P : Pm, P.k = k ∧ P.L = L ∧ s.t 0 = P.a ∧ s.t 3 = .ptr 5244160 P.g 0 ∧ s.t 4 = .bool true ∧ WorldAt P.g P.ga P.gm P.gl P.gh 5247424 P.p s.σ ∧ FolG P.p 5247425 0 s.σ
theorem alone_law (k : SK) (L : List (List UInt8)) (hL : L.length ≤ 100000000000000) : fnA (tabW fns) ([22].map fun _ => Mode.bor) ir3 [.sl k L.length (L.map V.str)] (fun p => p = (.bool true, [])) := by
  have aw := awake_ok
  refine fnA_start rfl ?_
  have e : inV [.sl k L.length (L.map V.str)] = some ([.sl k L.length (L.map V.str)], [], 0) := by simp -implicitDefEqProofs (disch := omega) only [go_sem, seval, go_sem]
  rw [e, startA_some]
  refine wp_cutR (fun s => s.t 0 = .sl k L.length (L.map V.str) ∧ s.σ 1088 = noBlk) ?_ ?_
  · simp -implicitDefEqProofs (disch := omega) only [go_sem, seval, go_sem]
  rintro ⟨t, σ⟩ ⟨t0, u0⟩
  simp only at t0 u0
  refine wp_cutR (m1S k L) ?_ ?_
  · simp -implicitDefEqProofs (maxSteps := 2000000) (disch := omega) only [go_sem, seval, u0]
    have key := begun_ok (σ := upd σ 1088 ⟨1, .rw, true, [.int .i64 0]⟩) (upd_same _ _ _)
    refine contC_exv key ?_
    rintro v σ1 ⟨g, ga, gm, gl, gh, p, gb, gd, rfl, b1, b2, b3, b4, b5, b6⟩
    simp only at b1 b2 b3 b4 b5 b6
    simp -implicitDefEqProofs (maxSteps := 2000000) (disch := omega) only [go_sem, seval, ]
    refine ⟨⟨k, L, g, ga, gm, gl, gh, p⟩, rfl, rfl, by simp -implicitDefEqProofs (maxSteps := 2000000) (disch := omega) only [go_sem, seval, t0, Pm.a], by simp -implicitDefEqProofs (maxSteps := 2000000) (disch := omega) only [go_sem, seval, ], by simp -implicitDefEqProofs (maxSteps := 2000000) (disch := omega) only [go_sem, seval, ], ⟨b1, b2, b3⟩, by simp -implicitDefEqProofs (maxSteps := 2000000) (disch := omega) only [go_sem, seval, b4, b5, b6], by simp -implicitDefEqProofs (maxSteps := 2000000) (disch := omega) only [go_sem, seval, b5], by simp -implicitDefEqProofs (maxSteps := 2000000) (disch := omega) only [go_sem, seval, b6]⟩
  rintro ⟨t, σ⟩ ⟨P, rfl, rfl, t0, t3, t4, hw, hf⟩
  simp only at t0 t3 t4 hw hf
  refine wp_cutR (m2S P) ?_ ?_
  · simp -implicitDefEqProofs (maxSteps := 2000000) (disch := omega) only [go_sem, seval, ]
    refine loop0_ok P _ (fun s hs => by obtain ⟨t, σ⟩ := s; simp -implicitDefEqProofs (maxSteps := 2000000) (disch := omega) only [go_sem, seval, ]; exact hs) _ ⟨by omega, by simp -implicitDefEqProofs (maxSteps := 2000000) (disch := omega) only [go_sem, seval, t0], by simp -implicitDefEqProofs (maxSteps := 2000000) (disch := omega) only [go_sem, seval, t3], by simp -implicitDefEqProofs (maxSteps := 2000000) (disch := omega) only [go_sem, seval, t4], by simp -implicitDefEqProofs (maxSteps := 2000000) (disch := omega) only [go_sem, seval, ], hw, .inl ⟨by omega, _, .inl rfl, hf⟩⟩
  rintro ⟨t, σ⟩ ⟨t0, t3, t4, hw, j, hh, hs⟩
  simp only at t0 t3 t4 hw hs
  refine wp_cutR (fun s => s.t 0 = P.a ∧ s.t 3 = .ptr 5244160 P.g 0 ∧ WorldAt P.g P.ga P.gm P.gl P.gh 5247424 P.p s.σ ∧ LeadG P.p 2176 [(1, [])] j hh s.σ) ?_ ?_
  · obtain ⟨w1, w2, w3⟩ := hw
    have hs0 := hs
    have hw0 : WorldAt P.g P.ga P.gm P.gl P.gh 5247424 P.p σ := ⟨w1, w2, w3⟩
    obtain ⟨s, s0, s1, s2, s3, s4, s5, s6⟩ := hs
    simp -implicitDefEqProofs (maxSteps := 2000000) (disch := omega) only [go_sem, seval, wB] at w1
    simp -implicitDefEqProofs (maxSteps := 2000000) (disch := omega) only [go_sem, seval, na, List.length_cons, List.length_nil] at s
    simp -implicitDefEqProofs (maxSteps := 2000000) (disch := omega) only [go_sem, seval, rows_cons, rows_nil, eA] at s1
    simp -implicitDefEqProofs (maxSteps := 2000000) (disch := omega) only [go_sem, seval, vA] at s3
    simp -implicitDefEqProofs (maxSteps := 2000000) (disch := omega) only [go_sem, seval, ] at s0 s2 s4 s5 s6
    generalize (σ 2176).gen = g0 at s s0
    generalize (σ 2177).gen = g1 at s s1
    generalize (σ 2178).gen = g2 at s s2
    generalize (σ 2179).gen = g3 at s s3
    generalize (σ 2180).gen = g4 at s s4
    generalize (σ 2181).gen = g5 at s s5
    generalize (σ 2182).gen = g6 at s s6
    have r := Role_a 1 0 3 0 1 j hh 13 (.sl .ro 1 (eA (1, []))) (.sl .ro 0 []) (.rmp vA) (.rmp []) (.rmp []) (.rmp [])
    have ld := Leader_a 1 0 3 0 1 j hh 13 (.sl .ro 1 (eA (1, []))) (.sl .ro 0 []) (.rmp vA) (.rmp []) (.rmp []) (.rmp [])
    have tm := Term_a 1 0 3 0 1 j hh 13 (.sl .ro 1 (eA (1, []))) (.sl .ro 0 []) (.rmp vA) (.rmp []) (.rmp []) (.rmp [])
    simp -implicitDefEqProofs (maxSteps := 2000000) (disch := omega) only [go_sem, seval, na, vA, eA] at r ld tm
    simp -implicitDefEqProofs (maxSteps := 2000000) (disch := omega) only [go_sem, seval, t3, t4, aw, w1, w2, s, s0, s1, s2, s3, s4, s5, s6, r, ld, callr9, tm]
    exact ⟨by simp -implicitDefEqProofs (maxSteps := 2000000) (disch := omega) only [go_sem, seval, t0], hw0, hs0⟩
  rintro ⟨t, σ⟩ ⟨t0, t3, hw, hs⟩
  simp only at t0 t3 hw hs
  refine wp_cutR (m4S P) ?_ ?_
  · simp -implicitDefEqProofs (maxSteps := 2000000) (disch := omega) only [go_sem, seval, ]
    refine loop1_ok P hL _ (fun s hs => by obtain ⟨t, σ⟩ := s; simp -implicitDefEqProofs (maxSteps := 2000000) (disch := omega) only [go_sem, seval, ]; exact hs) _ ⟨by omega, by omega, by simp -implicitDefEqProofs (maxSteps := 2000000) (disch := omega) only [go_sem, seval, t0], by simp -implicitDefEqProofs (maxSteps := 2000000) (disch := omega) only [go_sem, seval, t3], by simp -implicitDefEqProofs (maxSteps := 2000000) (disch := omega) only [go_sem, seval, ], hw, _, .inl rfl, j, hh, hs⟩
  rintro ⟨t, σ⟩ ⟨t0, t3, hw, b, hb, j, hh, hs⟩
  simp only at t0 t3 hw hs
  refine wp_cutR (fun s => s.t 0 = P.a ∧ s.t 3 = .ptr 5244160 P.g 0 ∧ s.t 10 = .int .i64 (min P.L.length 40 : Nat) ∧ s.σ = σ) ?_ ?_
  · have t0' := t0
    simp -implicitDefEqProofs (maxSteps := 2000000) (disch := omega) only [go_sem, seval, Pm.a] at t0
    simp -implicitDefEqProofs (maxSteps := 2000000) (disch := omega) only [go_sem, seval, t0, t3, Pm.a]
  rintro ⟨t, σ'⟩ ⟨t0, t3, t10, rfl⟩
  simp only at t0 t3 t10 hw hs
  have hll : (entA P.L (min P.L.length 40)).length = min P.L.length 40 + 1 := entA_len _ _ (by omega)
  refine wp_cutR (fun s => ∃ p, tk2S { P with p := p } (entA P.L (min P.L.length 40)) 0 { s with t := upd s.t 11 (.int .i64 0) }) ?_ ?_
  · simp -implicitDefEqProofs (maxSteps := 2000000) (disch := omega) only [go_sem, seval, t3]
    refine contC_exv (one_ok (by omega) (by omega) hw hs.at_ hb) ?_
    rintro v σ1 ⟨p, gb, ge, rfl, ⟨w1, w2, w3⟩, n0, n1, n2⟩
    simp only at w1 w2 w3 n0 n1 n2
    have hw1 : WorldAt P.g P.ga P.gm P.gl P.gh 13648320 p σ1 := ⟨w1, w2, w3⟩
    have hf : FolH p 13648321 (entA P.L (min P.L.length 40)) 0 σ1 := ⟨by simp -implicitDefEqProofs (maxSteps := 2000000) (disch := omega) only [go_sem, seval, n0, n1, n2], by simp -implicitDefEqProofs (maxSteps := 2000000) (disch := omega) only [go_sem, seval, n1], by simp -implicitDefEqProofs (maxSteps := 2000000) (disch := omega) only [go_sem, seval, n2]⟩
    generalize entA P.L (min P.L.length 40) = l at *
    have hn := eAn l
    have r7 := eA_ro 6 l
    have r6 := eA_ro 5 l
    have r5 := eA_ro 4 l
    have c := Commit_a 1 0 1 (-1) 0 0 0 13 (.sl .ro l.length (rows eA l)) (.sl .nil 0 []) .nilm .nilm .nilm .nilm
    simp -implicitDefEqProofs (maxSteps := 2000000) (disch := omega) only [go_sem, seval, na] at c n0
    simp -implicitDefEqProofs (maxSteps := 2000000) (disch := omega) only [go_sem, seval, wB] at w1
    simp -implicitDefEqProofs (maxSteps := 2000000) (disch := omega) only [go_sem, seval, t3, w1, w2, n0, n1, n2, hn, c, r7, r6, r5]
    exact ⟨p, by omega, by simp -implicitDefEqProofs (maxSteps := 2000000) (disch := omega) only [go_sem, seval, t0, Pm.a], by simp -implicitDefEqProofs (maxSteps := 2000000) (disch := omega) only [go_sem, seval, t3], by simp -implicitDefEqProofs (maxSteps := 2000000) (disch := omega) only [go_sem, seval, t10], by simp -implicitDefEqProofs (maxSteps := 2000000) (disch := omega) only [go_sem, seval, ], hw1, .inl ⟨by omega, _, .inl rfl, hf⟩⟩
  rintro ⟨t, σ⟩ ⟨p, hp⟩
  have hgt := fun i (h : i < min P.L.length 40) => entA_gt P.L (min P.L.length 40) i h (by omega)
  generalize entA P.L (min P.L.length 40) = l at *
  refine wp_cutR (m6S { P with p := p } l) ?_ ?_
  · simp -implicitDefEqProofs (maxSteps := 2000000) (disch := omega) only [go_sem, seval, ]
    refine loop2_ok { P with p := p } l (by omega) _ (fun s hs => by obtain ⟨t, σ⟩ := s; simp -implicitDefEqProofs (maxSteps := 2000000) (disch := omega) only [go_sem, seval, ]; exact hs) _ hp
  rintro ⟨t, σ⟩ ⟨t0, t3, t10, hw, j, hh, hs⟩
  simp only at t0 t3 t10 hw hs
  have hl2 : (l ++ [((2 : Int), ([] : List UInt8))]).length = min P.L.length 40 + 2 := by simp; omega
  generalize l ++ [((2 : Int), ([] : List UInt8))] = l2 at *
  refine wp_cutR (fun s => ∃ i, enS { P with p := p } l2 i s) ?_ ?_
  · simp -implicitDefEqProofs (maxSteps := 2000000) (disch := omega) only [go_sem, seval, ]
    refine loop3_ok { P with p := p } hL l2 hl2 hgt _ (fun s hs => by obtain ⟨t, σ⟩ := s; simp -implicitDefEqProofs (maxSteps := 2000000) (disch := omega) only [go_sem, seval, ]; exact hs) _ ⟨by omega, by simp -implicitDefEqProofs (maxSteps := 2000000) (disch := omega) only [go_sem, seval, t0], by simp -implicitDefEqProofs (maxSteps := 2000000) (disch := omega) only [go_sem, seval, t3], by simp -implicitDefEqProofs (maxSteps := 2000000) (disch := omega) only [go_sem, seval, t10], by simp -implicitDefEqProofs (maxSteps := 2000000) (disch := omega) only [go_sem, seval, ], hw, j, hh, hs⟩
  rintro ⟨t, σ⟩ ⟨i, hi, t0, t3, t10, _, ⟨w1, w2, w3⟩, j, hh, s, s0, s1, s3, s4, s5, s6⟩
  simp only at t0 t3 t10 w1 w2 w3 s s0 s1 s3 s4 s5 s6
  have hn := eAn l2
  have r7 := eA_ro 6 l2
  have r6 := eA_ro 5 l2
  have r5 := eA_ro 4 l2
  rw [hl2] at hn
  have hm40 : min P.L.length 40 ≤ 40 := by omega
  generalize min P.L.length 40 = m at *
  have c := Commit_a 2 0 3 0 ((m + 2 : Nat) : Int) j hh 16 (.sl .ro (m + 2) (rows eA l2)) (.sl .nil 0 []) (.rmp vA) (.rmp []) (.rmp []) (.rmp [])
  have tm := Term_a 2 0 3 0 ((m + 2 : Nat) : Int) j hh 16 (.sl .ro (m + 2) (rows eA l2)) (.sl .nil 0 []) (.rmp vA) (.rmp []) (.rmp []) (.rmp [])
  simp -implicitDefEqProofs (maxSteps := 2000000) (disch := omega) only [go_sem, seval, na, vA] at c tm
  simp -implicitDefEqProofs (maxSteps := 2000000) (disch := omega) only [go_sem, seval, na, hl2] at s
  simp -implicitDefEqProofs (maxSteps := 2000000) (disch := omega) only [go_sem, seval, vA] at s3
  simp -implicitDefEqProofs (maxSteps := 2000000) (disch := omega) only [go_sem, seval, wB] at w1
  generalize (σ 9408).gen = g0 at s s0
  generalize (σ 9409).gen = g1 at s s1
  generalize (σ 9410).gen = g2 at s s3
  generalize (σ 9411).gen = g3 at s s4
  generalize (σ 9412).gen = g4 at s s5
  generalize (σ 9413).gen = g5 at s s6
  simp -implicitDefEqProofs (maxSteps := 2000000) (disch := omega) only [go_sem, seval, t3, t10, w1, w2, s, s0, s1, s3, s4, s5, s6, hn, c, callr9, tm, r7, r6, r5]
theorem uStr : Try.prog.underlying 9 = some .string := by kernel_rfl
theorem uStrs : Try.prog.underlying 22 = some (.slice 9) := by kernel_rfl
theorem bStr : Try.prog.bytesOf 9 = 16 := by kernel_rfl
theorem raftAlone_main (xs : List V) (h : FitsA Try.prog 8 [22] xs) : fnA (tabW fns) ([22].map fun _ => Mode.bor) ir3 xs (fun p => p = (.bool true, [])) := by
  obtain ⟨x, ys, rfl, h1, h⟩ := fitsA_s h
  obtain rfl := fitsA_0 h
  have := fit_slice (d := 7) V.str (fun s => s.length ≤ reachBytes) uStrs (fun r hr => fits_str uStr hr) h1
  rw [bStr] at this
  obtain ⟨k, l, rfl, _, _, hb, _⟩ := this
  have hre := reach_lt
  exact alone_law k l (by omega)
end Go.Vm.Ytmcbceppgaljnaa
