/- (seval) Clients: which calls may be, the law. -/
import Derived.Test.YtahbkkleholmaaaClG
set_option linter.unusedSectionVars false
set_option linter.unusedSimpArgs false
set_option linter.unusedVariables false
set_option maxHeartbeats 4000000
set_option maxRecDepth 10000
namespace Go.Vm.Ytahbkkleholmaaa
open Go.Proofs
theorem checks_cut (x : Cx) (hx : x.ok) (ko : SK) (hk : ko = .nil ∨ ko = .ro) (hkn : ko = .nil → x.ops = []) (n r : Int) (hl : 40 < x.mem.length) :
    fnA (tabW fns) [.bor, .bor, .bor] ir3 [.agg (x.v ko .ro), .int .i64 n, .int .i64 r] (fun q => q = (.bool true, [])) := by
  obtain ⟨k, ops, key, h, mem⟩ := x
  have hx2 : Cx.ok ⟨k, ops, key, h, mem.take 40⟩ := by
    obtain ⟨h1, h2, h3, h4⟩ := hx
    exact ⟨h1, h2, h3, by simp only [List.length_take] at *; omega⟩
  simp only at hl hkn
  have a := NewN_c n r
  have b := NewC_c n r ⟨k, ops, key, h, mem.take 40⟩ hx2 ko .ro hk
  have c := Check_c ⟨k, ops, key, h, mem.take 40⟩ hx2 ko .ro hk
  have d := may_c ⟨k, ops, key, h, mem.take 40⟩ hx2 ko .ro hk hkn
  have ht : (mem.take 40).length = 40 := by rw [List.length_take]; omega
  unfold inB at a b
  simp only [Cx.v, ht] at b c d
  generalize hm2 : mem.take 40 = m2 at *
  cases hm : mayC ⟨k, ops, key, h, m2⟩
  · rw [hm] at b c d
    cases hq : (hasRo 7 (V.sl ko ops.length (rows Opn.v ops)) || hasRo 7 (V.sl .ro 40 (m2.map iI)))
    · have hq6 : (hasRo 6 (V.sl ko ops.length (rows Opn.v ops)) || hasRo 6 (V.sl .ro 40 (m2.map iI))) = false := by rw [← hq]; cases ko <;> rfl
      have hq5 : (hasRo 5 (V.sl ko ops.length (rows Opn.v ops)) || hasRo 5 (V.sl .ro 40 (m2.map iI))) = false := by rw [← hq]; cases ko <;> rfl
      refine fnA_start rfl ?_
      by_cases a1 : 0 ≤ n
      ·
        by_cases a2 : n < 8
        ·
          by_cases a3 : 1 ≤ r
          ·
            by_cases a4 : r ≤ 16
            ·
              simp -implicitDefEqProofs (disch := omega) only [go_sem, seval, Cx.v, a1, a2, a3, a4, madeC] at a b c d
              simp -implicitDefEqProofs (disch := omega) only [go_sem, seval, Cx.v, hl, hm2, a1, a2, a3, a4, b, hq, hq6, hq5]
              simp -implicitDefEqProofs (disch := omega) only [go_sem, seval, a, hq, hq6, hq5]
              refine wp_draw_E ?_
              simp -implicitDefEqProofs (disch := omega) only [go_sem, seval, awake_ok, c, d, hq, hq6, hq5]
            ·
              simp -implicitDefEqProofs (disch := omega) only [go_sem, seval, Cx.v, a1, a2, a3, a4, madeC] at a b c d
              simp -implicitDefEqProofs (disch := omega) only [go_sem, seval, Cx.v, hl, hm2, a1, a2, a3, a4, b, hq, hq6, hq5]
              simp -implicitDefEqProofs (disch := omega) only [go_sem, seval, a, hq, hq6, hq5]
              refine wp_draw_E ?_
              simp -implicitDefEqProofs (disch := omega) only [go_sem, seval, awake_ok, c, d, hq, hq6, hq5]
          ·
            simp -implicitDefEqProofs (disch := omega) only [go_sem, seval, Cx.v, a1, a2, a3, madeC] at a b c d
            simp -implicitDefEqProofs (disch := omega) only [go_sem, seval, Cx.v, hl, hm2, a1, a2, a3, b, hq, hq6, hq5]
            simp -implicitDefEqProofs (disch := omega) only [go_sem, seval, a, hq, hq6, hq5]
            refine wp_draw_E ?_
            simp -implicitDefEqProofs (disch := omega) only [go_sem, seval, awake_ok, c, d, hq, hq6, hq5]
        ·
          simp -implicitDefEqProofs (disch := omega) only [go_sem, seval, Cx.v, a1, a2, madeC] at a b c d
          simp -implicitDefEqProofs (disch := omega) only [go_sem, seval, Cx.v, hl, hm2, a1, a2, b, hq, hq6, hq5]
          simp -implicitDefEqProofs (disch := omega) only [go_sem, seval, a, hq, hq6, hq5]
          refine wp_draw_E ?_
          simp -implicitDefEqProofs (disch := omega) only [go_sem, seval, awake_ok, c, d, hq, hq6, hq5]
      ·
        simp -implicitDefEqProofs (disch := omega) only [go_sem, seval, Cx.v, a1, madeC] at a b c d
        simp -implicitDefEqProofs (disch := omega) only [go_sem, seval, Cx.v, hl, hm2, a1, b, hq, hq6, hq5]
        simp -implicitDefEqProofs (disch := omega) only [go_sem, seval, a, hq, hq6, hq5]
        refine wp_draw_E ?_
        simp -implicitDefEqProofs (disch := omega) only [go_sem, seval, awake_ok, c, d, hq, hq6, hq5]
    · have hq6 : (hasRo 6 (V.sl ko ops.length (rows Opn.v ops)) || hasRo 6 (V.sl .ro 40 (m2.map iI))) = true := by rw [← hq]; cases ko <;> rfl
      have hq5 : (hasRo 5 (V.sl ko ops.length (rows Opn.v ops)) || hasRo 5 (V.sl .ro 40 (m2.map iI))) = true := by rw [← hq]; cases ko <;> rfl
      refine fnA_start rfl ?_
      by_cases a1 : 0 ≤ n
      ·
        by_cases a2 : n < 8
        ·
          by_cases a3 : 1 ≤ r
          ·
            by_cases a4 : r ≤ 16
            ·
              simp -implicitDefEqProofs (disch := omega) only [go_sem, seval, Cx.v, a1, a2, a3, a4, madeC] at a b c d
              simp -implicitDefEqProofs (disch := omega) only [go_sem, seval, Cx.v, hl, hm2, a1, a2, a3, a4, b, hq, hq6, hq5]
              simp -implicitDefEqProofs (disch := omega) only [go_sem, seval, a, hq, hq6, hq5]
              refine wp_draw_E ?_
              simp -implicitDefEqProofs (disch := omega) only [go_sem, seval, awake_ok, c, d, hq, hq6, hq5]
            ·
              simp -implicitDefEqProofs (disch := omega) only [go_sem, seval, Cx.v, a1, a2, a3, a4, madeC] at a b c d
              simp -implicitDefEqProofs (disch := omega) only [go_sem, seval, Cx.v, hl, hm2, a1, a2, a3, a4, b, hq, hq6, hq5]
              simp -implicitDefEqProofs (disch := omega) only [go_sem, seval, a, hq, hq6, hq5]
              refine wp_draw_E ?_
              simp -implicitDefEqProofs (disch := omega) only [go_sem, seval, awake_ok, c, d, hq, hq6, hq5]
          ·
            simp -implicitDefEqProofs (disch := omega) only [go_sem, seval, Cx.v, a1, a2, a3, madeC] at a b c d
            simp -implicitDefEqProofs (disch := omega) only [go_sem, seval, Cx.v, hl, hm2, a1, a2, a3, b, hq, hq6, hq5]
            simp -implicitDefEqProofs (disch := omega) only [go_sem, seval, a, hq, hq6, hq5]
            refine wp_draw_E ?_
            simp -implicitDefEqProofs (disch := omega) only [go_sem, seval, awake_ok, c, d, hq, hq6, hq5]
        ·
          simp -implicitDefEqProofs (disch := omega) only [go_sem, seval, Cx.v, a1, a2, madeC] at a b c d
          simp -implicitDefEqProofs (disch := omega) only [go_sem, seval, Cx.v, hl, hm2, a1, a2, b, hq, hq6, hq5]
          simp -implicitDefEqProofs (disch := omega) only [go_sem, seval, a, hq, hq6, hq5]
          refine wp_draw_E ?_
          simp -implicitDefEqProofs (disch := omega) only [go_sem, seval, awake_ok, c, d, hq, hq6, hq5]
      ·
        simp -implicitDefEqProofs (disch := omega) only [go_sem, seval, Cx.v, a1, madeC] at a b c d
        simp -implicitDefEqProofs (disch := omega) only [go_sem, seval, Cx.v, hl, hm2, a1, b, hq, hq6, hq5]
        simp -implicitDefEqProofs (disch := omega) only [go_sem, seval, a, hq, hq6, hq5]
        refine wp_draw_E ?_
        simp -implicitDefEqProofs (disch := omega) only [go_sem, seval, awake_ok, c, d, hq, hq6, hq5]
  · rw [hm] at b c d
    cases hq : (hasRo 7 (V.sl ko ops.length (rows Opn.v ops)) || hasRo 7 (V.sl .ro 40 (m2.map iI)))
    · have hq6 : (hasRo 6 (V.sl ko ops.length (rows Opn.v ops)) || hasRo 6 (V.sl .ro 40 (m2.map iI))) = false := by rw [← hq]; cases ko <;> rfl
      have hq5 : (hasRo 5 (V.sl ko ops.length (rows Opn.v ops)) || hasRo 5 (V.sl .ro 40 (m2.map iI))) = false := by rw [← hq]; cases ko <;> rfl
      refine fnA_start rfl ?_
      by_cases a1 : 0 ≤ n
      ·
        by_cases a2 : n < 8
        ·
          by_cases a3 : 1 ≤ r
          ·
            by_cases a4 : r ≤ 16
            ·
              simp -implicitDefEqProofs (disch := omega) only [go_sem, seval, Cx.v, a1, a2, a3, a4, madeC] at a b c d
              simp -implicitDefEqProofs (disch := omega) only [go_sem, seval, Cx.v, hl, hm2, a1, a2, a3, a4, b, hq, hq6, hq5]
              simp -implicitDefEqProofs (disch := omega) only [go_sem, seval, a, hq, hq6, hq5]
              refine wp_draw_E ?_
              simp -implicitDefEqProofs (disch := omega) only [go_sem, seval, awake_ok, c, d, hq, hq6, hq5]
            ·
              simp -implicitDefEqProofs (disch := omega) only [go_sem, seval, Cx.v, a1, a2, a3, a4, madeC] at a b c d
              simp -implicitDefEqProofs (disch := omega) only [go_sem, seval, Cx.v, hl, hm2, a1, a2, a3, a4, b, hq, hq6, hq5]
              simp -implicitDefEqProofs (disch := omega) only [go_sem, seval, a, hq, hq6, hq5]
              refine wp_draw_E ?_
              simp -implicitDefEqProofs (disch := omega) only [go_sem, seval, awake_ok, c, d, hq, hq6, hq5]
          ·
            simp -implicitDefEqProofs (disch := omega) only [go_sem, seval, Cx.v, a1, a2, a3, madeC] at a b c d
            simp -implicitDefEqProofs (disch := omega) only [go_sem, seval, Cx.v, hl, hm2, a1, a2, a3, b, hq, hq6, hq5]
            simp -implicitDefEqProofs (disch := omega) only [go_sem, seval, a, hq, hq6, hq5]
            refine wp_draw_E ?_
            simp -implicitDefEqProofs (disch := omega) only [go_sem, seval, awake_ok, c, d, hq, hq6, hq5]
        ·
          simp -implicitDefEqProofs (disch := omega) only [go_sem, seval, Cx.v, a1, a2, madeC] at a b c d
          simp -implicitDefEqProofs (disch := omega) only [go_sem, seval, Cx.v, hl, hm2, a1, a2, b, hq, hq6, hq5]
          simp -implicitDefEqProofs (disch := omega) only [go_sem, seval, a, hq, hq6, hq5]
          refine wp_draw_E ?_
          simp -implicitDefEqProofs (disch := omega) only [go_sem, seval, awake_ok, c, d, hq, hq6, hq5]
      ·
        simp -implicitDefEqProofs (disch := omega) only [go_sem, seval, Cx.v, a1, madeC] at a b c d
        simp -implicitDefEqProofs (disch := omega) only [go_sem, seval, Cx.v, hl, hm2, a1, b, hq, hq6, hq5]
        simp -implicitDefEqProofs (disch := omega) only [go_sem, seval, a, hq, hq6, hq5]
        refine wp_draw_E ?_
        simp -implicitDefEqProofs (disch := omega) only [go_sem, seval, awake_ok, c, d, hq, hq6, hq5]
    · have hq6 : (hasRo 6 (V.sl ko ops.length (rows Opn.v ops)) || hasRo 6 (V.sl .ro 40 (m2.map iI))) = true := by rw [← hq]; cases ko <;> rfl
      have hq5 : (hasRo 5 (V.sl ko ops.length (rows Opn.v ops)) || hasRo 5 (V.sl .ro 40 (m2.map iI))) = true := by rw [← hq]; cases ko <;> rfl
      refine fnA_start rfl ?_
      by_cases a1 : 0 ≤ n
      ·
        by_cases a2 : n < 8
        ·
          by_cases a3 : 1 ≤ r
          ·
            by_cases a4 : r ≤ 16
            ·
              simp -implicitDefEqProofs (disch := omega) only [go_sem, seval, Cx.v, a1, a2, a3, a4, madeC] at a b c d
              simp -implicitDefEqProofs (disch := omega) only [go_sem, seval, Cx.v, hl, hm2, a1, a2, a3, a4, b, hq, hq6, hq5]
              simp -implicitDefEqProofs (disch := omega) only [go_sem, seval, a, hq, hq6, hq5]
              refine wp_draw_E ?_
              simp -implicitDefEqProofs (disch := omega) only [go_sem, seval, awake_ok, c, d, hq, hq6, hq5]
            ·
              simp -implicitDefEqProofs (disch := omega) only [go_sem, seval, Cx.v, a1, a2, a3, a4, madeC] at a b c d
              simp -implicitDefEqProofs (disch := omega) only [go_sem, seval, Cx.v, hl, hm2, a1, a2, a3, a4, b, hq, hq6, hq5]
              simp -implicitDefEqProofs (disch := omega) only [go_sem, seval, a, hq, hq6, hq5]
              refine wp_draw_E ?_
              simp -implicitDefEqProofs (disch := omega) only [go_sem, seval, awake_ok, c, d, hq, hq6, hq5]
          ·
            simp -implicitDefEqProofs (disch := omega) only [go_sem, seval, Cx.v, a1, a2, a3, madeC] at a b c d
            simp -implicitDefEqProofs (disch := omega) only [go_sem, seval, Cx.v, hl, hm2, a1, a2, a3, b, hq, hq6, hq5]
            simp -implicitDefEqProofs (disch := omega) only [go_sem, seval, a, hq, hq6, hq5]
            refine wp_draw_E ?_
            simp -implicitDefEqProofs (disch := omega) only [go_sem, seval, awake_ok, c, d, hq, hq6, hq5]
        ·
          simp -implicitDefEqProofs (disch := omega) only [go_sem, seval, Cx.v, a1, a2, madeC] at a b c d
          simp -implicitDefEqProofs (disch := omega) only [go_sem, seval, Cx.v, hl, hm2, a1, a2, b, hq, hq6, hq5]
          simp -implicitDefEqProofs (disch := omega) only [go_sem, seval, a, hq, hq6, hq5]
          refine wp_draw_E ?_
          simp -implicitDefEqProofs (disch := omega) only [go_sem, seval, awake_ok, c, d, hq, hq6, hq5]
      ·
        simp -implicitDefEqProofs (disch := omega) only [go_sem, seval, Cx.v, a1, madeC] at a b c d
        simp -implicitDefEqProofs (disch := omega) only [go_sem, seval, Cx.v, hl, hm2, a1, b, hq, hq6, hq5]
        simp -implicitDefEqProofs (disch := omega) only [go_sem, seval, a, hq, hq6, hq5]
        refine wp_draw_E ?_
        simp -implicitDefEqProofs (disch := omega) only [go_sem, seval, awake_ok, c, d, hq, hq6, hq5]
theorem tOp : tysOf Try.prog 50 = some [3, 9, 9] := by kernel_rfl
theorem uOps : Try.prog.underlying 22 = some (.slice 50) := by kernel_rfl
theorem bOp : Try.prog.bytesOf 50 = 40 := by kernel_rfl
theorem uInts : Try.prog.underlying 24 = some (.slice 3) := by kernel_rfl
theorem bInt : Try.prog.bytesOf 3 = 8 := by kernel_rfl
theorem tCall : tysOf Try.prog 26 = some [3, 22, 9, 23, 24] := by kernel_rfl
theorem fit_op {d : Nat} {r : List V} (h : Fits Try.prog (d + 2) 50 r) : ∃ o : Opn, r = o.v ∧ smallO o := by
  have := reach_lt
  obtain ⟨a1, b1, rfl, h1, a2, b2, rfl, h2, a3, b3, rfl, h3, rfl⟩ := fits_struct tOp h
  obtain ⟨k, rfl, _⟩ := fits_int uInt h1
  obtain ⟨x, rfl, hx⟩ := fits_str uStr h2
  obtain ⟨y, rfl, hy⟩ := fits_str uStr h3
  exact ⟨⟨k, x, y⟩, rfl, by simp only; omega, by simp only; omega⟩
theorem fitL_call {d : Nat} {vs : List V} (h : FitsL Try.prog (d + 3) [3, 22, 9, 23, 24] vs) : ∃ (x : Cx) (ko km : SK), vs = x.v ko km ∧ x.ok ∧ (ko = .nil ∨ ko = .ro) ∧ (ko = .nil → x.ops = []) ∧ (km = .nil ∨ km = .ro) ∧ (km = .nil → x.mem = []) := by
  have := reach_lt
  obtain ⟨a1, b1, rfl, h1, a2, b2, rfl, h2, a3, b3, rfl, h3, a4, b4, rfl, h4, a5, b5, rfl, h5, rfl⟩ := h
  obtain ⟨k, rfl, hk⟩ := fits_int uInt h1
  obtain ⟨ko, ops, rfl, o1, o2, o3, o4⟩ := fits_slice_rows Opn.v smallO uOps (fun r hr => fit_op hr) h2
  obtain ⟨key, rfl, hkey⟩ := fits_str uStr h3
  obtain ⟨hh, rfl, _⟩ := fits_int uU64 h4
  obtain ⟨km, mem, rfl, m1, m2, m3, _⟩ := fits_slice iI (fun _ => True) uInts (fun r hr => by obtain ⟨n, rfl, _⟩ := fits_int uInt hr; exact ⟨n, rfl, trivial⟩) h5
  rw [bOp] at o3
  rw [bInt] at m3
  exact ⟨⟨k, ops, key, hh, mem⟩, ko, km, rfl, ⟨by simp only; omega, o4, by simp only; omega, by simp only; omega⟩, o2, o1, m2, m1⟩
theorem clientChecks_main (xs : List V) (h : FitsA Try.prog 8 [26, 3, 3] xs) : fnA (tabW fns) ([26, 3, 3].map fun _ => Mode.bor) ir3 xs (fun p => p = (.bool true, [])) := by
  obtain ⟨x, ys, rfl, h1, h⟩ := fitsA_s h
  obtain ⟨y, zs, rfl, h2, h⟩ := fitsA_s h
  obtain ⟨z, ws, rfl, h3, h⟩ := fitsA_s h
  obtain rfl := fitsA_0 h
  obtain ⟨v1, rfl, g1⟩ := fit_struct (d := 7) tCall h1
  obtain ⟨n, rfl, hn⟩ := fit_int (d := 7) uInt h2
  obtain ⟨r, rfl, hr⟩ := fit_int (d := 7) uInt h3
  obtain ⟨x, ko, km, rfl, hx, hk, hkn, hk2, hkn2⟩ := fitL_call g1
  rcases Nat.lt_or_ge 40 x.mem.length with hl | hl
  · obtain rfl : km = .ro := by
      rcases hk2 with e | e
      · rw [hkn2 e] at hl
        simp at hl
      · exact e
    exact checks_cut x hx ko hk hkn n r hl
  · exact checks_run x hx ko km hk hkn hk2 hkn2 n r hl
end Go.Vm.Ytahbkkleholmaaa
