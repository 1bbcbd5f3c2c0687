/- (seval) The disk and the document's, in the machine: a change. -/
import Derived.Test.YtclcadpmkkeaeaaDkGA
import Derived.Test.YtclcadpmkkeaeaaDkGM
import Derived.Test.YtclcadpmkkeaeaaDkGR
import Derived.Test.YtclcadpmkkeaeaaDkH
import Derived.Test.YtclcadpmkkeaeaaDkJ
set_option linter.unusedSectionVars false
set_option linter.unusedSimpArgs false
set_option linter.unusedVariables false
set_option maxHeartbeats 20000000
set_option maxRecDepth 10000
namespace Go.Vm.Ytclcadpmkkeaeaa
open Go.Proofs
def fewT (s : Tx) : Tx := if 50 < s.length then s.take 50 else s
theorem few_len (s : Tx) : (fewT s).length ≤ 50 := by
  unfold fewT
  split
  · simp; omega
  · omega
theorem few_ok (s : Tx) : Gf fns 31 [.str s] = some (.str (fewT s), []) := by
  unfold fewT
  refine Gf_start rfl rfl ?_
  by_cases h : 50 < s.length
  · simp -implicitDefEqProofs (disch := omega) only [go_sem, seval, h]
  · simp -implicitDefEqProofs (disch := omega) only [go_sem, seval, h]
structure Act where
  k : Int
  n : Tx
  t : Tx
  s : Tx
  m : Int
  f1 : Int
  f2 : Int
  f3 : Int
  deriving Inhabited
def Act.v (a : Act) : List V := [.int .i64 a.k, .str a.n, .str a.t, .str a.s, .int .i64 a.m, .int .i64 a.f1, .int .i64 a.f2, .int .i64 a.f3]
def Act.ch (a : Act) : Ch := ⟨a.k.toNat, a.n, a.t, if a.k < 2 then fewT a.s else [], a.m⟩
def nxtL (l : List DE) (lim : Int) (c : Ch) : List DE := if codeL nameB l lim c = 0 then chgL l c else l
def nxtC (l : List DE) (lim : Int) (ch : Nat) (c : Ch) : Nat := if codeL nameB l lim c = 0 then ch + 1 else ch
def nxtV (lv : V) (l : List DE) (lim : Int) (c : Ch) : V := if codeL nameB l lim c = 0 then .osl 6 (chgL l c).length (rows DE.v (chgL l c)) else lv
theorem stepV_eq (lv : V) (l : List DE) (lim : Int) (ch : Nat) (c : Ch) : stepV lv l lim ch c = (.int .i64 (codeL nameB l lim c), [.opt (dkv (nxtV lv l lim c) lim (nxtC l lim ch c) false)]) := by
  unfold stepV nxtV nxtC
  by_cases h : codeL nameB l lim c = 0
  · simp [h]
  · simp [h]
theorem nxt_ow {lv : V} {l : List DE} (ho : OwL lv l) (lim : Int) (c : Ch) : OwL (nxtV lv l lim c) (nxtL l lim c) := by
  unfold nxtV nxtL
  split
  · exact .inl rfl
  · exact ho
theorem change_ok {lv : V} {l : List DE} (ho : OwL lv l) (lim : Int) (ch : Nat) (hs : Srt DE.n l) (hl : l.length ≤ 900) (hu : usedL l ≤ 100000) (hch : ch ≤ 900) (hlim : -1 ≤ lim ∧ lim ≤ 1000) (a : Act) (hk : 0 ≤ a.k ∧ a.k ≤ 4) (hn : a.n.length ≤ 140737488355328) (ht : a.t.length ≤ 140737488355328) :
    Gf fns 26 [.opt (dkv lv lim ch false), .agg a.v] = some (.int .i64 (codeL nameB l lim a.ch), [.opt (dkv (nxtV lv l lim a.ch) lim (nxtC l lim ch a.ch) false)]) := by
  have fw := few_ok a.s
  have fl := few_len a.s
  have hel := elen l
  have hel2 := elen (nxtL l lim a.ch)
  have ho2 := nxt_ow ho lim a.ch
  obtain ⟨k, n, t, s, m, f1, f2, f3⟩ := a
  simp only [Act.ch] at *
  have hkk : k = 0 ∨ k = 1 ∨ k = 2 ∨ k = 3 ∨ k = 4 := by omega
  rcases hkk with rfl | rfl | rfl | rfl | rfl
  · have h := Append_ok ho lim ch hs hl hu hch hlim n (fewT s) hn fl t m
    rw [stepV_eq] at h
    rw [show (⟨(0 : Int).toNat, n, t, if (0 : Int) < 2 then fewT s else [], m⟩ : Ch) = ⟨0, n, t, fewT s, m⟩ from rfl] at *
    generalize codeL nameB l lim ⟨0, n, t, fewT s, m⟩ = q at *
    generalize nxtV lv l lim ⟨0, n, t, fewT s, m⟩ = lv2 at *
    generalize nxtC l lim ch ⟨0, n, t, fewT s, m⟩ = ch2 at *
    generalize nxtL l lim ⟨0, n, t, fewT s, m⟩ = l2 at *
    rcases ho with rfl | ⟨rfl, rfl⟩ <;> rcases ho2 with rfl | ⟨rfl, rfl⟩
    all_goals
      simp -implicitDefEqProofs (disch := omega) only [go_sem, seval, dkv] at h
      refine Gf_start rfl rfl ?_
      simp -implicitDefEqProofs (disch := omega) only [go_sem, seval, dkv, Act.v, hel, ero]
      refine wp_draw_E ?_
      simp -implicitDefEqProofs (disch := omega) only [go_sem, seval, fw, hel, ero, callV_T at37, h, hel2]
  · have h := Write_ok ho lim ch hs hl hu hch hlim n (fewT s) hn fl t m
    rw [stepV_eq] at h
    rw [show (⟨(1 : Int).toNat, n, t, if (1 : Int) < 2 then fewT s else [], m⟩ : Ch) = ⟨1, n, t, fewT s, m⟩ from rfl] at *
    generalize codeL nameB l lim ⟨1, n, t, fewT s, m⟩ = q at *
    generalize nxtV lv l lim ⟨1, n, t, fewT s, m⟩ = lv2 at *
    generalize nxtC l lim ch ⟨1, n, t, fewT s, m⟩ = ch2 at *
    generalize nxtL l lim ⟨1, n, t, fewT s, m⟩ = l2 at *
    rcases ho with rfl | ⟨rfl, rfl⟩ <;> rcases ho2 with rfl | ⟨rfl, rfl⟩
    all_goals
      simp -implicitDefEqProofs (disch := omega) only [go_sem, seval, dkv] at h
      refine Gf_start rfl rfl ?_
      simp -implicitDefEqProofs (disch := omega) only [go_sem, seval, dkv, Act.v, hel, ero]
      refine wp_draw_E ?_
      simp -implicitDefEqProofs (disch := omega) only [go_sem, seval, fw, hel, ero, callV_T at21, h, hel2]
  · have h := Move_ok ho lim ch hs hl hu hch n t hn ht [] m
    rw [stepV_eq] at h
    rw [show (⟨(2 : Int).toNat, n, t, if (2 : Int) < 2 then fewT s else [], m⟩ : Ch) = ⟨2, n, t, [], m⟩ from rfl] at *
    generalize codeL nameB l lim ⟨2, n, t, [], m⟩ = q at *
    generalize nxtV lv l lim ⟨2, n, t, [], m⟩ = lv2 at *
    generalize nxtC l lim ch ⟨2, n, t, [], m⟩ = ch2 at *
    generalize nxtL l lim ⟨2, n, t, [], m⟩ = l2 at *
    rcases ho with rfl | ⟨rfl, rfl⟩ <;> rcases ho2 with rfl | ⟨rfl, rfl⟩
    all_goals
      simp -implicitDefEqProofs (disch := omega) only [go_sem, seval, dkv] at h
      refine Gf_start rfl rfl ?_
      simp -implicitDefEqProofs (disch := omega) only [go_sem, seval, dkv, Act.v, hel, ero]
      simp -implicitDefEqProofs (disch := omega) only [go_sem, seval, callr42, h, hel, hel2, ero]
  · have h := Remove_ok ho lim ch hs hl hch n hn [] t m
    rw [stepV_eq] at h
    rw [show (⟨(3 : Int).toNat, n, t, if (3 : Int) < 2 then fewT s else [], m⟩ : Ch) = ⟨3, n, t, [], m⟩ from rfl] at *
    generalize codeL nameB l lim ⟨3, n, t, [], m⟩ = q at *
    generalize nxtV lv l lim ⟨3, n, t, [], m⟩ = lv2 at *
    generalize nxtC l lim ch ⟨3, n, t, [], m⟩ = ch2 at *
    generalize nxtL l lim ⟨3, n, t, [], m⟩ = l2 at *
    rcases ho with rfl | ⟨rfl, rfl⟩ <;> rcases ho2 with rfl | ⟨rfl, rfl⟩
    all_goals
      simp -implicitDefEqProofs (disch := omega) only [go_sem, seval, dkv] at h
      refine Gf_start rfl rfl ?_
      simp -implicitDefEqProofs (disch := omega) only [go_sem, seval, dkv, Act.v, hel, ero]
      simp -implicitDefEqProofs (disch := omega) only [go_sem, seval, callr43, h, hel, hel2, ero]
  · have h := Truncate_ok ho lim ch hs hl hu hch n hn [] t m
    rw [stepV_eq] at h
    rw [show (⟨(4 : Int).toNat, n, t, if (4 : Int) < 2 then fewT s else [], m⟩ : Ch) = ⟨4, n, t, [], m⟩ from rfl] at *
    generalize codeL nameB l lim ⟨4, n, t, [], m⟩ = q at *
    generalize nxtV lv l lim ⟨4, n, t, [], m⟩ = lv2 at *
    generalize nxtC l lim ch ⟨4, n, t, [], m⟩ = ch2 at *
    generalize nxtL l lim ⟨4, n, t, [], m⟩ = l2 at *
    rcases ho with rfl | ⟨rfl, rfl⟩ <;> rcases ho2 with rfl | ⟨rfl, rfl⟩
    all_goals
      simp -implicitDefEqProofs (disch := omega) only [go_sem, seval, dkv] at h
      refine Gf_start rfl rfl ?_
      simp -implicitDefEqProofs (disch := omega) only [go_sem, seval, dkv, Act.v, hel, ero]
      simp -implicitDefEqProofs (disch := omega) only [go_sem, seval, callr44, h, hel, hel2, ero]
end Go.Vm.Ytclcadpmkkeaeaa
