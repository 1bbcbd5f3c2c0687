/- (seval) Messages of replicas as bytes, in the machine: a message is put as the document says, and taken again. -/
import Derived.Test.YtnmcmcgbhlgniaaRbC
set_option linter.unusedSectionVars false
set_option linter.unusedSimpArgs false
set_option linter.unusedVariables false
set_option maxHeartbeats 8000000
set_option maxRecDepth 10000
namespace Go.Vm.Ytnmcmcgbhlgniaa
open Go.Proofs
theorem msB_ne (m : Ms) : ¬ msB m = [] := by
  intro h
  have : (msB m).length = 0 := by rw [h]; rfl
  unfold msB at this
  simp only [List.length_append, boolB, List.length_singleton] at this
  omega
theorem msB_le {m : Ms} (h : m.okM) : (msB m).length ≤ 20000000 := by
  obtain ⟨h1, h2, h3, h4, h5⟩ := h
  have hel := ensB_len m.es h3
  have h8 := nB_len m 8
  have e8 : (m.nums.flatMap cntB).length = (nB m 8).length := rfl
  have hm : (if m.mem = [] then ([] : List UInt8) else membB m.mem).length ≤ 100 := by
    split
    · simp
    · rename_i hne
      have := memb_len (h5 hne)
      rw [membB_len]; omega
  unfold msB textB
  simp only [List.length_append, boolB, List.length_singleton, numB_len]
  omega
def preB (m : Ms) : List UInt8 := nB m 8 ++ (boolB m.y ++ boolB m.d ++ numB (UInt64.ofNat m.es.length) 4)
def th0 (m : Ms) (ek : SK) (l : List (En × SK)) (mk : SK) (i : Nat) (s : St) : Prop := i ≤ 8 ∧ s.t 1 = .ptr 128 1 0 ∧ s.σ 128 = ⟨1, .rw, false, m.vk ek l mk⟩ ∧ s.t 3 = .ptr 832 1 0 ∧ s.σ 832 = ⟨1, .rw, false, [.sli 1024 1 0 (msB m).length 1]⟩ ∧ s.σ 1024 = ⟨1, .rw, true, (msB m).map u8⟩ ∧ s.t 4 = .str (nB m i) ∧ s.t 32 = .sli 2112 1 0 8 1 ∧ s.σ 2112 = ⟨1, .rw, true, m.nums.map iI⟩ ∧ s.t 33 = .int .i64 8 ∧ s.t 34 = .int .i64 (i : Int)
def th2 (m : Ms) (ek : SK) (l : List (En × SK)) (mk : SK) (i : Nat) (s : St) : Prop := i ≤ l.length ∧ s.t 1 = .ptr 128 1 0 ∧ s.σ 128 = ⟨1, .rw, false, m.vk ek l mk⟩ ∧ s.t 3 = .ptr 832 1 0 ∧ s.σ 832 = ⟨1, .rw, false, [.sli 1024 1 0 (msB m).length 1]⟩ ∧ s.σ 1024 = ⟨1, .rw, true, (msB m).map u8⟩ ∧ s.t 4 = .str (preB m ++ ensB (m.es.take i)) ∧ s.t 7 = .int .i64 (i : Int)
theorem th_step (m : Ms) (h : m.okM) (ek : SK) (l : List (En × SK)) (mk : SK) (hml : m.es = l.map (·.1)) (Q : Ex → St → Prop) (hQ : ∀ s, th2 m ek l mk l.length s → Q (.exit 2) s) (i : Nat) (s : St) (hs : th2 m ek l mk i s) : wpA (tabW fns) lp7_1 (nextQ (th2 m ek l mk) (fun i => l.length - i) i Q) s := by
  obtain ⟨h1, h2, h3, h4, h5⟩ := h
  have hll : m.es.length = l.length := by rw [hml, List.length_map]
  have hpl := plen l
  obtain ⟨t, σ⟩ := s
  obtain ⟨hi, t1, u1, t3, u12, u15, t4, t7⟩ := hs
  simp only at hi t1 u1 t3 u12 u15 t4 t7
  by_cases hc : i < l.length
  · have hr := prow l i hc
    have hei : gt m.es i = (gt l i).1 := by
      rw [gt_eq (by omega), gt_eq hc]
      simp only [hml, List.getElem_map]
    have hok := h3 (gt m.es i) (by rw [gt_eq (show i < m.es.length by omega)]; exact List.getElem_mem (by omega))
    have hel := ensB_len (m.es.take i) fun e he => h3 e (List.mem_of_mem_take he)
    have hlt : (m.es.take i).length = i := by simp; omega
    rw [hlt] at hel
    rw [hei] at hok
    have hpb : (preB m).length ≤ 100 := by
      have := nB_len m 8
      simp only [preB, List.length_append, boolB, List.length_singleton, numB_len]; omega
    have esn : preB m ++ ensB (m.es.take (i + 1)) = preB m ++ ensB (m.es.take i) ++ enB (gt l i).1 := by rw [take_gt (show i < m.es.length by omega), ensB_snoc, hei, List.append_assoc]
    generalize gt l i = p at *
    obtain ⟨e, k⟩ := p
    simp only at hok hei esn
    have en := entry_ok k e hok
    have pe := PutE_g [] (by simp) k e hok
    have al := All_ok (enB e) (by have := enB_len_le hok; omega)
    have nw := NewWriter_ok
    have nr := NewReader_ok (enB e)
    have tk := TakeE_g ⟨enB e, 0, 0⟩ ⟨by simp, by have := enB_len_le hok; simp only; omega⟩
    rw [show (⟨enB e, 0, 0⟩ : Rd) = ⟨enB e, ([] : List UInt8).length, 0⟩ from rfl, takeEn_back (P := []) (R := []) hok (by simp)] at tk
    have hne := enB_ne e
    have hlen := enB_len_le hok
    have hul : ((enB e).map u8).length = (enB e).length := List.length_map _
    rw [List.nil_append] at pe
    have sd := fun k' => said_ok k' e.norm (okE_norm hok)
    rw [enB_norm] at sd
    simp -implicitDefEqProofs (disch := omega) only [go_sem, seval, wrV, hne, En.vk] at pe al
    simp -implicitDefEqProofs (disch := omega) only [go_sem, seval, wrV] at nw
    simp -implicitDefEqProofs (disch := omega) only [go_sem, seval, En.vk] at en
    simp -implicitDefEqProofs (disch := omega) only [go_sem, seval, Rd.v] at nr
    simp -implicitDefEqProofs (disch := omega) only [go_sem, seval, pk, En.vk] at hr
    simp -implicitDefEqProofs (disch := omega) only [go_sem, seval, Ms.vk] at u1
    have pbl : (preB m ++ ensB (m.es.take i)).length ≤ 20000000 := by rw [List.length_append]; omega
    generalize preB m ++ ensB (m.es.take i) = PB at *
    have key : ∀ (X : List V) (mm : V), True := fun _ _ => trivial
    by_cases hcf : e.conf = true
    · have hmb := hok.2.2.1 hcf
      have hmn := memb_ne' hmb
      have hnorm : e.norm = ⟨e.term, [], true, e.mem⟩ := by unfold En.norm; rw [if_pos hcf]
      rw [hnorm] at tk sd
      have sd := sd .ro
      have r7 := iI_ro 6 e.mem
      have r6 := iI_ro 5 e.mem
      have r5 := iI_ro 4 e.mem
      have hmm : (e.mem.map iI).length = e.mem.length := List.length_map _
      simp -implicitDefEqProofs (disch := omega) only [go_sem, seval, Rd.v, memO, hmn, List.length_nil] at tk
      simp -implicitDefEqProofs (disch := omega) only [go_sem, seval, En.vk] at sd
      simp -implicitDefEqProofs (disch := omega) only [go_sem, seval, lp7_1, t1, u1, t7, hc]
      simp -implicitDefEqProofs (disch := omega) only [go_sem, seval, t1, u1, t4, t7, hr, en, nw, callr23, pe]
      refine wp_draw_E ?_
      simp -implicitDefEqProofs (disch := omega) only [go_sem, seval, t1, u1, t7, hr, en, al, nr, callV_T at25, tk, sd, ite_self, r7, r6, r5]
      exact ⟨i + 1, by omega, by omega, by simp -implicitDefEqProofs (disch := omega) only [go_sem, seval, t1], by simp -implicitDefEqProofs (disch := omega) only [go_sem, seval, u1, Ms.vk], by simp -implicitDefEqProofs (disch := omega) only [go_sem, seval, t3], by simp -implicitDefEqProofs (disch := omega) only [go_sem, seval, u12], by simp -implicitDefEqProofs (disch := omega) only [go_sem, seval, u15], by simp -implicitDefEqProofs (disch := omega) only [go_sem, seval, esn], by simp -implicitDefEqProofs (disch := omega) only [go_sem, seval, go_sem]⟩
    · have hnorm : e.norm = ⟨e.term, e.s, false, []⟩ := by unfold En.norm; rw [if_neg hcf]
      rw [hnorm] at tk sd
      have sd := sd .nil
      simp -implicitDefEqProofs (disch := omega) only [go_sem, seval, Rd.v, memO, List.length_nil] at tk
      simp -implicitDefEqProofs (disch := omega) only [go_sem, seval, En.vk, List.length_nil, List.map_nil] at sd
      simp -implicitDefEqProofs (disch := omega) only [go_sem, seval, lp7_1, t1, u1, t7, hc]
      simp -implicitDefEqProofs (disch := omega) only [go_sem, seval, t1, u1, t4, t7, hr, en, nw, callr23, pe]
      refine wp_draw_E ?_
      simp -implicitDefEqProofs (disch := omega) only [go_sem, seval, t1, u1, t7, hr, en, al, nr, callV_T at25, tk, sd, ite_self]
      exact ⟨i + 1, by omega, by omega, by simp -implicitDefEqProofs (disch := omega) only [go_sem, seval, t1], by simp -implicitDefEqProofs (disch := omega) only [go_sem, seval, u1, Ms.vk], by simp -implicitDefEqProofs (disch := omega) only [go_sem, seval, t3], by simp -implicitDefEqProofs (disch := omega) only [go_sem, seval, u12], by simp -implicitDefEqProofs (disch := omega) only [go_sem, seval, u15], by simp -implicitDefEqProofs (disch := omega) only [go_sem, seval, esn], by simp -implicitDefEqProofs (disch := omega) only [go_sem, seval, go_sem]⟩
  · obtain rfl : i = l.length := by omega
    have fin : ∀ s' : St, s'.t 1 = t 1 → s'.t 3 = t 3 → s'.t 4 = t 4 → s'.t 7 = t 7 → s'.σ = σ → Q (.exit 2) s' := fun s' e1 e3 e4 e7 eσ => hQ s' ⟨hi, e1.trans t1, by rw [eσ]; exact u1, e3.trans t3, by rw [eσ]; exact u12, by rw [eσ]; exact u15, e4.trans t4, e7.trans t7⟩
    simp -implicitDefEqProofs (disch := omega) only [go_sem, seval, Ms.vk] at u1
    simp -implicitDefEqProofs (disch := omega) only [go_sem, seval, lp7_1, t1, u1, t7, hc]
    exact fin _ (by simp -implicitDefEqProofs (disch := omega) only [go_sem, seval, go_sem]) (by simp -implicitDefEqProofs (disch := omega) only [go_sem, seval, go_sem]) (by simp -implicitDefEqProofs (disch := omega) only [go_sem, seval, go_sem]) (by simp -implicitDefEqProofs (disch := omega) only [go_sem, seval, go_sem]) rfl
end Go.Vm.Ytnmcmcgbhlgniaa
/- Messages of replicas as bytes, in the machine: there and back. -/
namespace Go.Vm.Ytnmcmcgbhlgniaa
open Go.Proofs
theorem u8m_ro (d : Nat) (B : List UInt8) : (B.map u8).any (hasRo (d + 1)) = false := by
  rw [List.any_eq_false]
  intro x hx
  obtain ⟨y, _, rfl⟩ := List.mem_map.1 hx
  simp [u8, hasRo]
theorem th0_step (m : Ms) (h : m.okM) (ek : SK) (l : List (En × SK)) (mk : SK) (Q : Ex → St → Prop) (hQ : ∀ s, th0 m ek l mk 8 s → Q (.exit 0) s) (i : Nat) (s : St) (hs : th0 m ek l mk i s) : wpA (tabW fns) lp7_0 (nextQ (th0 m ek l mk) (fun i => 8 - i) i Q) s := by
  obtain ⟨h1, h2, h3, h4, h5⟩ := h
  obtain ⟨t, σ⟩ := s
  obtain ⟨hi, t1, u1, t3, u12, u15, t4, t32, u32, t33, t34⟩ := hs
  simp only at hi t1 u1 t3 u12 u15 t4 t32 u32 t33 t34
  by_cases hc : i < 8
  · have hx := h1 _ (gt_mem8 (show i < m.nums.length from hc))
    have hni := nB_len m i
    have n4 := num4 hx
    have hcl := cntB_len (gt m.nums i)
    have hu : 0 ≤ gt m.nums i ∧ gt m.nums i < 18446744073709551616 := ⟨hx.1, by omega⟩
    have hu1 := hu.1
    have hu2 := hu.2
    have hl8 : (m.nums.map iI).length = 8 := rfl
    have hcell : (m.nums.map iI)[i]? = some (.int .i64 (gt m.nums i)) := by
      rw [List.getElem?_map, List.getElem?_eq_getElem (show i < m.nums.length from hc), gt_eq (show i < m.nums.length from hc)]
      rfl
    have esn : nB m (i + 1) = nB m i ++ cntB (gt m.nums i) := by rw [nB, take_gt (show i < m.nums.length from hc), List.flatMap_append, List.flatMap_singleton]; rfl
    have hnl : ∃ nl, m.nums.map iI = nl := ⟨_, rfl⟩
    obtain ⟨nl, hnl⟩ := hnl
    rw [hnl] at hl8 hcell u32
    simp -implicitDefEqProofs (disch := omega) only [go_sem, seval, lp7_0, t33, t34, hc, t32, u32, hcell, t4, n4]
    exact ⟨i + 1, by omega, by omega, by simp -implicitDefEqProofs (disch := omega) only [go_sem, seval, t1], by simp -implicitDefEqProofs (disch := omega) only [go_sem, seval, u1], by simp -implicitDefEqProofs (disch := omega) only [go_sem, seval, t3], by simp -implicitDefEqProofs (disch := omega) only [go_sem, seval, u12], by simp -implicitDefEqProofs (disch := omega) only [go_sem, seval, u15], by simp -implicitDefEqProofs (disch := omega) only [go_sem, seval, esn], by simp -implicitDefEqProofs (disch := omega) only [go_sem, seval, t32], by rw [hnl]; simp -implicitDefEqProofs (disch := omega) only [go_sem, seval, u32], by simp -implicitDefEqProofs (disch := omega) only [go_sem, seval, t33], by simp -implicitDefEqProofs (disch := omega) only [go_sem, seval, go_sem]⟩
  · obtain rfl : i = 8 := by omega
    have fin : ∀ s' : St, s'.t 1 = t 1 → s'.t 3 = t 3 → s'.t 4 = t 4 → s'.t 32 = t 32 → s'.t 33 = t 33 → s'.t 34 = t 34 → s'.σ = σ → Q (.exit 0) s' := fun s' e1 e3 e4 e32 e33 e34 eσ => hQ s' ⟨hi, e1.trans t1, by rw [eσ]; exact u1, e3.trans t3, by rw [eσ]; exact u12, by rw [eσ]; exact u15, e4.trans t4, e32.trans t32, by rw [eσ]; exact u32, e33.trans t33, e34.trans t34⟩
    simp -implicitDefEqProofs (disch := omega) only [go_sem, seval, lp7_0, t33, t34]
    exact fin _ (by simp -implicitDefEqProofs (disch := omega) only [go_sem, seval, go_sem]) (by simp -implicitDefEqProofs (disch := omega) only [go_sem, seval, go_sem]) (by simp -implicitDefEqProofs (disch := omega) only [go_sem, seval, go_sem]) (by simp -implicitDefEqProofs (disch := omega) only [go_sem, seval, go_sem]) (by simp -implicitDefEqProofs (disch := omega) only [go_sem, seval, go_sem]) (by simp -implicitDefEqProofs (disch := omega) only [go_sem, seval, go_sem]) rfl
theorem there_ok (m : Ms) (h : m.okM) (ek : SK) (l : List (En × SK)) (mk : SK) (hml : m.es = l.map (·.1)) : Gf fns 7 [.agg (m.vk ek l mk)] = some (.bool true, []) := by
  have hh := h
  obtain ⟨h1, h2, h3, h4, h5⟩ := h
  have hll : m.es.length = l.length := by rw [hml, List.length_map]
  have hpl := plen l
  have hel := ensB_len m.es h3
  have hpb : (preB m).length ≤ 100 := by
    have := nB_len m 8
    simp only [preB, List.length_append, boolB, List.length_singleton, numB_len]; omega
  have nb8 := nB_len m 8
  have hne := msB_ne m
  have hle := msB_le hh
  have p1 := Put_g [] (by simp) m hh ek l mk hml
  rw [List.nil_append] at p1
  have p2 := fun ek' mk' => Put_g [] (by simp) m.norm (okM_norm hh) ek' ((m.es.map En.norm).map evk) mk' (by simp [Ms.norm, evk, Function.comp_def])
  rw [msB_norm, List.nil_append] at p2
  have nw := NewWriter_ok
  have al := All_ok (msB m) (by omega)
  have nr := NewReader_ok (msB m)
  have rok : (Rd.mk (msB m) 0 0).ok := ⟨by simp, by simp only; omega⟩
  have tk := Take_g ⟨msB m, 0, 0⟩ rok
  rw [takeMs_back (R := []) hh (by simp)] at tk
  have re := REnd_ok ⟨msB m, (msB m).length, 0⟩ ⟨by simp, by simp only; omega⟩
  rw [show (Rd.mk (msB m) (msB m).length 0).end' = ⟨msB m, (msB m).length, 0⟩ by simp [Rd.end']] at re
  have yy := yes_ok m.y
  have yd := yes_ok m.d
  have ym := yes_ok (decide (0 < m.mem.length))
  have nl4 := num4 (n := (l.length : Int)) ⟨by omega, by omega⟩
  have tx := RefText_ok m.pc (by omega)
  have hcl : (cntB (l.length : Int)).length = 4 := cntB_len _
  have hn4 := numB_len 4 (UInt64.ofNat m.pc.length)
  have hby : (boolB m.y).length = 1 := rfl
  have hbd : (boolB m.d).length = 1 := rfl
  have hbm : (boolB (decide (0 < m.mem.length))).length = 1 := rfl
  have hul : ((msB m).map u8).length = (msB m).length := List.length_map _
  have ur7 := u8m_ro 6 (msB m)
  have ur6 := u8m_ro 5 (msB m)
  have ur5 := u8m_ro 4 (msB m)
  simp -implicitDefEqProofs (disch := omega) only [go_sem, seval, wrV, hne, Ms.vk] at p1
  simp -implicitDefEqProofs (disch := omega) only [go_sem, seval, wrV, hne] at al nw
  simp -implicitDefEqProofs (disch := omega) only [go_sem, seval, Rd.v] at nr re
  refine Gf_start rfl rfl ?_
  simp -implicitDefEqProofs (disch := omega) only [go_sem, seval, Ms.vk, nw, callr12, p1, ur7, ur6, ur5, ite_self]
  refine wp_loopS (th0 m ek l mk) (fun i => 8 - i) 0 ⟨by omega, by simp -implicitDefEqProofs (disch := omega) only [go_sem, seval, go_sem], by simp -implicitDefEqProofs (disch := omega) only [go_sem, seval, Ms.vk], by simp -implicitDefEqProofs (disch := omega) only [go_sem, seval, go_sem], by simp -implicitDefEqProofs (disch := omega) only [go_sem, seval, go_sem], by simp -implicitDefEqProofs (disch := omega) only [go_sem, seval, go_sem], by simp -implicitDefEqProofs (disch := omega) only [go_sem, seval, nB, List.take_zero, List.flatMap_nil], by simp -implicitDefEqProofs (disch := omega) only [go_sem, seval, go_sem], by simp -implicitDefEqProofs (disch := omega) only [go_sem, seval, Ms.nums, iI, List.map_cons, List.map_nil], by simp -implicitDefEqProofs (disch := omega) only [go_sem, seval, go_sem], by simp -implicitDefEqProofs (disch := omega) only [go_sem, seval, go_sem]⟩ (th0_step m hh ek l mk _ ?_)
  rintro ⟨t, σ⟩ ⟨_, t1, u1, t3, u12, u15, t4, _, _, _, _⟩
  simp only at t1 u1 t3 u12 u15 t4
  have u1' := u1
  simp -implicitDefEqProofs (disch := omega) only [go_sem, seval, Ms.vk] at u1'
  simp -implicitDefEqProofs (disch := omega) only [go_sem, seval, go_sem]
  refine wp_draw_E ?_
  simp -implicitDefEqProofs (disch := omega) only [go_sem, seval, t1, u1', t4, yy, yd, nl4]
  refine wp_loopS (th2 m ek l mk) (fun i => l.length - i) 0 ⟨by omega, by simp -implicitDefEqProofs (disch := omega) only [go_sem, seval, t1], by simp -implicitDefEqProofs (disch := omega) only [go_sem, seval, u1], by simp -implicitDefEqProofs (disch := omega) only [go_sem, seval, t3], by simp -implicitDefEqProofs (disch := omega) only [go_sem, seval, u12], by simp -implicitDefEqProofs (disch := omega) only [go_sem, seval, u15], ?_, by simp -implicitDefEqProofs (disch := omega) only [go_sem, seval, go_sem]⟩ (th_step m hh ek l mk hml _ ?_)
  · have e : preB m ++ ensB (m.es.take 0) = nB m 8 ++ (boolB m.y ++ boolB m.d ++ cntB (l.length : Int)) := by
      rw [preB, hll, cntB, Int.toNat_natCast]; simp [ensB]
    rw [e]
    simp -implicitDefEqProofs (disch := omega) only [go_sem, seval, go_sem]
  clear t1 u1 t3 u12 u15 t4 u1'
  rintro ⟨t, σ⟩ ⟨_, t1, u1, t3, u12, u15, t4, _⟩
  simp only at t1 u1 t3 u12 u15 t4
  rw [take_all (show m.es.length ≤ l.length by omega)] at t4
  simp -implicitDefEqProofs (disch := omega) only [go_sem, seval, Ms.vk] at u1
  have pbl : (preB m ++ ensB m.es).length ≤ 20000000 := by rw [List.length_append]; omega
  have hpm : preB m = m.nums.flatMap cntB ++ (boolB m.y ++ boolB m.d ++ numB (UInt64.ofNat m.es.length) 4) := rfl
  simp -implicitDefEqProofs (disch := omega) only [go_sem, seval, go_sem]
  refine wp_draw_E ?_
  simp -implicitDefEqProofs (disch := omega) only [go_sem, seval, t1, u1, t4, tx, ym]
  by_cases hm : m.mem = []
  · have hz : ¬ 0 < m.mem.length := by simp [hm]
    have ee : preB m ++ (ensB m.es ++ (numB (UInt64.ofNat m.pc.length) 4 ++ (m.pc ++ boolB false))) = msB m := by
      rw [hpm]
      simp only [msB, textB, hm, List.append_assoc, if_true, List.append_nil, not_true, decide_false]
    by_cases hes : m.es = []
    · have p2 := p2 .nil .nil
      simp -implicitDefEqProofs (disch := omega) only [go_sem, seval, wrV, hne, Ms.vk, Ms.norm, hm, hes, List.map_nil, List.length_nil, rows_nil] at p2
      simp -implicitDefEqProofs (disch := omega) only [go_sem, seval, Rd.v, outM, Ms.norm, entO, memO, hm, hes, List.map_nil] at tk
      simp -implicitDefEqProofs (disch := omega) only [go_sem, seval, t1, u1, hz, ee, nr, callr9, tk, ite_self]
      simp -implicitDefEqProofs (disch := omega) only [go_sem, seval, nw, callr12, p2, ur7, ur6, ur5, ite_self]
      simp -implicitDefEqProofs (disch := omega) only [go_sem, seval, t3, u12, u15, al, callr28, re]
    · have p2 := p2 .ro .nil
      have hes2 : ¬ m.es.map En.norm = [] := by simpa using hes
      have hel4 := elen4 (m.es.map En.norm)
      simp -implicitDefEqProofs (disch := omega) only [go_sem, seval, wrV, hne, Ms.vk, Ms.norm, hm, List.map_nil, List.length_nil] at p2
      simp -implicitDefEqProofs (disch := omega) only [go_sem, seval, Rd.v, outM, Ms.norm, entO, memO, hm, hes2] at tk
      rw [List.length_map] at hel4
      rw [show rows pk ((m.es.map En.norm).map evk) = erows (m.es.map En.norm) from rfl] at p2
      generalize erows (m.es.map En.norm) = er at *
      simp -implicitDefEqProofs (disch := omega) only [go_sem, seval, t1, u1, hz, ee, nr, callr9, tk, ite_self]
      simp -implicitDefEqProofs (disch := omega) only [go_sem, seval, nw, callr12, p2, ur7, ur6, ur5, ite_self]
      simp -implicitDefEqProofs (disch := omega) only [go_sem, seval, t3, u12, u15, al, callr28, re]
  · have hz : 0 < m.mem.length := List.length_pos_iff.2 hm
    have hmb := h5 hm
    have hr := (memb_range hmb).1
    have hm16 := memb_len hmb
    have mb := MembersBytes_ok mk m.mem (fun x hx => by have := hr x hx; omega) (by omega)
    have hbl := membB_len m.mem
    have hbt : (boolB true).length = 1 := rfl
    have hmm : (m.mem.map iI).length = m.mem.length := List.length_map _
    have ee : preB m ++ (ensB m.es ++ (numB (UInt64.ofNat m.pc.length) 4 ++ (m.pc ++ (boolB true ++ membB m.mem)))) = msB m := by
      rw [hpm]
      simp only [msB, textB, hm, List.append_assoc, if_false, not_false_eq_true, decide_true]
    by_cases hes : m.es = []
    · have p2 := p2 .nil .ro
      simp -implicitDefEqProofs (disch := omega) only [go_sem, seval, wrV, hne, Ms.vk, Ms.norm, hes, List.map_nil, List.length_nil, rows_nil] at p2
      simp -implicitDefEqProofs (disch := omega) only [go_sem, seval, Rd.v, outM, Ms.norm, entO, memO, hm, hes, List.map_nil] at tk
      simp -implicitDefEqProofs (disch := omega) only [go_sem, seval, t1, u1, hz, mb, ee, nr, callr9, tk, ite_self]
      simp -implicitDefEqProofs (disch := omega) only [go_sem, seval, nw, callr12, p2, ur7, ur6, ur5, ite_self]
      simp -implicitDefEqProofs (disch := omega) only [go_sem, seval, t3, u12, u15, al, callr28, re]
    · have p2 := p2 .ro .ro
      have hes2 : ¬ m.es.map En.norm = [] := by simpa using hes
      have hel4 := elen4 (m.es.map En.norm)
      simp -implicitDefEqProofs (disch := omega) only [go_sem, seval, wrV, hne, Ms.vk, Ms.norm] at p2
      simp -implicitDefEqProofs (disch := omega) only [go_sem, seval, Rd.v, outM, Ms.norm, entO, memO, hm, hes2] at tk
      rw [List.length_map] at hel4
      rw [show rows pk ((m.es.map En.norm).map evk) = erows (m.es.map En.norm) from rfl] at p2
      generalize erows (m.es.map En.norm) = er at *
      simp -implicitDefEqProofs (disch := omega) only [go_sem, seval, t1, u1, hz, mb, ee, nr, callr9, tk, ite_self]
      simp -implicitDefEqProofs (disch := omega) only [go_sem, seval, nw, callr12, p2, ur7, ur6, ur5, ite_self]
      simp -implicitDefEqProofs (disch := omega) only [go_sem, seval, t3, u12, u15, al, callr28, re]
end Go.Vm.Ytnmcmcgbhlgniaa
