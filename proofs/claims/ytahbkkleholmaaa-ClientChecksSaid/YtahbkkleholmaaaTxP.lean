/- Transactions: plain facts. -/
import Derived.Test.YtahbkkleholmaaaWireT
set_option linter.unusedSectionVars false
set_option linter.unusedSimpArgs false
set_option linter.unusedVariables false
namespace Go.Vm
structure Opn where
  kind : Int
  key : List UInt8
  val : List UInt8
  deriving DecidableEq, Inhabited
structure Tn where
  c : UInt64
  n : UInt64
  ops : List Opn
  deriving DecidableEq
def Opn.v (o : Opn) : List V := [.int .i64 o.kind, .str o.key, .str o.val]
theorem Opn.v_len (o : Opn) : o.v.length = 3 := rfl
def Tn.v (t : Tn) (s : V) : List V := [.int .u64 (t.c.toNat : Int), .int .u64 (t.n.toNat : Int), s]
def Tn.os (k : SK) (t : Tn) : V := .sl k t.ops.length (rows Opn.v t.ops)
/-- A slice of one's own, or none. -/
def ownRows (l : List Opn) : V := if l = [] then .sl .nil 0 [] else .osl 3 l.length (rows Opn.v l)
def okOp (o : Opn) : Bool := decide (o.key.length ≠ 0) && (decide (o.key.length ≤ 32) && (decide (o.val.length ≤ 64) && (decide (o.kind = 1 ∨ o.kind = 3) || (decide (o.kind = 2 ∨ o.kind = 4) && decide (o.val = [])))))
def okTx (t : Tn) : Bool := decide (¬ t.n = 0) && (decide (1 ≤ t.ops.length) && (decide (t.ops.length ≤ 8) && t.ops.all okOp))
def opB (o : Opn) : List UInt8 := numB (UInt64.ofNat o.kind.toNat) 1 ++ (numB (UInt64.ofNat o.key.length) 4 ++ o.key) ++ (numB (UInt64.ofNat o.val.length) 4 ++ o.val)
def opsB (l : List Opn) : List UInt8 := l.flatMap opB
def txB (t : Tn) : List UInt8 := numB t.c 8 ++ numB t.n 8 ++ numB (UInt64.ofNat t.ops.length) 4 ++ opsB t.ops
theorem okOp_of {o : Opn} (h : okOp o = true) : o.key.length ≠ 0 ∧ o.key.length ≤ 32 ∧ o.val.length ≤ 64 ∧ 1 ≤ o.kind ∧ o.kind ≤ 4 := by
  unfold okOp at h
  simp only [Bool.and_eq_true, Bool.or_eq_true, decide_eq_true_eq] at h
  obtain ⟨h1, h2, h3, h4⟩ := h
  refine ⟨h1, h2, h3, ?_, ?_⟩ <;> rcases h4 with (h | h) | ⟨h | h, _⟩ <;> omega
theorem okTx_of {t : Tn} (h : okTx t = true) : ¬ t.n = 0 ∧ 1 ≤ t.ops.length ∧ t.ops.length ≤ 8 ∧ ∀ o ∈ t.ops, okOp o = true := by
  unfold okTx at h
  simpa only [Bool.and_eq_true, decide_eq_true_eq, List.all_eq_true] using h
theorem opB_len (o : Opn) : (opB o).length = 9 + o.key.length + o.val.length := by
  unfold opB
  simp only [List.length_append, numB_len]
  omega
theorem opsB_snoc (l : List Opn) (o : Opn) : opsB (l ++ [o]) = opsB l ++ opB o := by simp [opsB]
theorem opsB_len : ∀ (l : List Opn), (∀ o ∈ l, okOp o = true) → (opsB l).length ≤ 105 * l.length
  | [], _ => by simp [opsB]
  | o :: l, h => by
    have := opsB_len l fun x hx => h x (List.mem_cons_of_mem _ hx)
    have ho := okOp_of (h o (by simp))
    have e : opsB (o :: l) = opB o ++ opsB l := by simp [opsB]
    rw [e, List.length_append, opB_len, List.length_cons]
    omega
theorem txB_len {t : Tn} (h : okTx t = true) : (txB t).length ≤ 860 := by
  obtain ⟨_, _, h8, ho⟩ := okTx_of h
  have := opsB_len t.ops ho
  unfold txB
  simp only [List.length_append, numB_len]
  omega
/-- Operations off a reader. -/
def takeOps : Nat → Rd → List Opn → Rd × List Opn
  | 0, r, acc => (r, acc)
  | n + 1, r, acc => if r.err = 0 then
      let a := r.number 1
      let b := a.1.text 32
      let c := b.1.text 64
      takeOps n c.1 (acc ++ [⟨(a.2.toNat : Int), b.2, c.2⟩])
    else (r, acc)
/-- A transaction off a reader, as it stands there. -/
def rawTx (r : Rd) : Rd × Tn :=
  let a := r.number 8
  let b := a.1.number 8
  let c := b.1.count 8
  let o := takeOps c.2 c.1 []
  (o.1, ⟨a.2, b.2, o.2⟩)
def chkTx (q : Rd × Tn) : Rd := if q.1.err = 0 then (if okTx q.2 = true then q.1 else { q.1 with err := 40 }) else q.1
def zeroT : Tn := ⟨0, 0, []⟩
def takeT (r : Rd) : Rd × Tn := (chkTx (rawTx r), if (chkTx (rawTx r)).err = 0 then (rawTx r).2 else zeroT)
theorem takeOps_ok : ∀ (n : Nat) (r : Rd) (acc : List Opn), r.ok → (takeOps n r acc).1.ok ∧ (takeOps n r acc).1.s = r.s
  | 0, r, acc, h => ⟨h, rfl⟩
  | n + 1, r, acc, h => by
    unfold takeOps
    split
    · have h1 := Rd.number_ok h 1
      have h2 := Rd.text_ok h1.1 32
      have h3 := Rd.text_ok h2.1 64
      have := takeOps_ok n (((r.number 1).1.text 32).1.text 64).1 (acc ++ [⟨((r.number 1).2.toNat : Int), ((r.number 1).1.text 32).2, (((r.number 1).1.text 32).1.text 64).2⟩]) h3.1
      exact ⟨this.1, by rw [← h1.2, ← h2.2, ← h3.2]; exact this.2⟩
    · exact ⟨h, rfl⟩
theorem rawTx_ok {r : Rd} (h : r.ok) : (rawTx r).1.ok ∧ (rawTx r).1.s = r.s := by
  have h1 := Rd.number_ok h 8
  have h2 := Rd.number_ok h1.1 8
  have h3 := Rd.count_ok h2.1 8
  have h4 := takeOps_ok (((r.number 8).1.number 8).1.count 8).2 _ [] h3.1
  exact ⟨h4.1, by rw [← h1.2, ← h2.2, ← h3.2]; exact h4.2⟩
theorem chkTx_ok {q : Rd × Tn} (h : q.1.ok) : (chkTx q).ok ∧ (chkTx q).s = q.1.s := by
  unfold chkTx
  repeat' split
  · exact ⟨h, rfl⟩
  · exact ⟨h, rfl⟩
  · exact ⟨h, rfl⟩
theorem takeT_ok {r : Rd} (h : r.ok) : (takeT r).1.ok ∧ (takeT r).1.s = r.s := by
  have h1 := rawTx_ok h
  have h2 := chkTx_ok h1.1
  exact ⟨h2.1, by rw [← h1.2]; exact h2.2⟩
theorem takeOps_len : ∀ (n : Nat) (r : Rd) (acc : List Opn), (takeOps n r acc).2.length ≤ acc.length + n
  | 0, r, acc => by simp [takeOps]
  | n + 1, r, acc => by
    unfold takeOps
    split
    · have := takeOps_len n (((r.number 1).1.text 32).1.text 64).1 (acc ++ [⟨((r.number 1).2.toNat : Int), ((r.number 1).1.text 32).2, (((r.number 1).1.text 32).1.text 64).2⟩])
      rw [List.length_append, List.length_singleton] at this
      simp only
      omega
    · simp only; omega
theorem Took.refl (r : Rd) (h : r.ok) : Took r r [] := fun he => ⟨he, rfl, by simp, h.1, by simp⟩
/-- Just the operations' bytes were read. -/
theorem took_ops : ∀ (n : Nat) (r : Rd) (acc : List Opn), r.ok → ∃ l, (takeOps n r acc).2 = acc ++ l ∧ Took r (takeOps n r acc).1 (opsB l) ∧ ((takeOps n r acc).1.err = 0 → l.length = n)
  | 0, r, acc, h => ⟨[], by simp [takeOps], by rw [show opsB [] = [] from rfl]; exact Took.refl r h, fun _ => rfl⟩
  | n + 1, r, acc, h => by
    unfold takeOps
    split
    · rename_i h0
      have h1 := Rd.number_ok h 1
      have h2 := Rd.text_ok h1.1 32
      have h3 := Rd.text_ok h2.1 64
      have t1 := took_number r 1 (by omega)
      have t2 := took_text (r.number 1).1 32
      have t3 := took_text ((r.number 1).1.text 32).1 64
      obtain ⟨l, e, t, hl⟩ := took_ops n (((r.number 1).1.text 32).1.text 64).1 (acc ++ [⟨((r.number 1).2.toNat : Int), ((r.number 1).1.text 32).2, (((r.number 1).1.text 32).1.text 64).2⟩]) h3.1
      refine ⟨⟨((r.number 1).2.toNat : Int), ((r.number 1).1.text 32).2, (((r.number 1).1.text 32).1.text 64).2⟩ :: l, by rw [e, List.append_assoc]; rfl, ?_, fun he => by rw [List.length_cons, hl he]⟩
      have := (((t1.trans t2).trans t3).trans t)
      refine this.of fun _ => ?_
      show _ = opB _ ++ opsB l
      unfold opB
      simp only [Int.toNat_natCast, UInt64.ofNat_toNat]
      rfl
    · rename_i h0
      exact ⟨[], by simp, fun he => absurd he h0, fun he => absurd he h0⟩
theorem took_raw {r : Rd} (h : r.ok) (h8 : (rawTx r).2.ops.length ≤ 9) : Took r (rawTx r).1 (txB (rawTx r).2) := by
  have h1 := Rd.number_ok h 8
  have h2 := Rd.number_ok h1.1 8
  have h3 := Rd.count_ok h2.1 8
  have t1 := took_number r 8 (by omega)
  have t2 := took_number (r.number 8).1 8 (by omega)
  have t3 := took_count ((r.number 8).1.number 8).1 8
  obtain ⟨l, e, t, hl⟩ := took_ops (((r.number 8).1.number 8).1.count 8).2 (((r.number 8).1.number 8).1.count 8).1 [] h3.1
  refine (((t1.trans t2).trans t3).trans t).of fun he => ?_
  have e2 : (rawTx r).2.ops = l := by show (takeOps _ _ _).2 = l; rw [e]; rfl
  unfold txB
  rw [e2, hl he]
  rfl
/-- What is read well is just what was told. -/
theorem take_all_is {s : List UInt8} (hs : s.length ≤ 140737488355328) (h : (chkTx (rawTx ⟨s, 0, 0⟩)).end'.err = 0) : okTx (rawTx ⟨s, 0, 0⟩).2 = true ∧ txB (rawTx ⟨s, 0, 0⟩).2 = s ∧ (chkTx (rawTx ⟨s, 0, 0⟩)).err = 0 := by
  have hr : (Rd.mk s 0 0).ok := ⟨by simp, hs⟩
  have ok1 := rawTx_ok hr
  have ok2 := chkTx_ok ok1.1
  generalize hc : chkTx (rawTx ⟨s, 0, 0⟩) = c at *
  have hc0 : c.err = 0 ∧ ¬ c.at' < c.s.length := by
    unfold Rd.end' Rd.fail at h
    by_cases h1 : c.at' < c.s.length
    · rw [if_pos h1] at h
      by_cases h2 : c.err = 0
      · rw [if_pos h2] at h; simp at h
      · rw [if_neg h2] at h; exact absurd h h2
    · rw [if_neg h1] at h; exact ⟨h, h1⟩
  have hq : (rawTx ⟨s, 0, 0⟩).1.err = 0 ∧ okTx (rawTx ⟨s, 0, 0⟩).2 = true ∧ c = (rawTx ⟨s, 0, 0⟩).1 := by
    unfold chkTx at hc
    by_cases h1 : (rawTx ⟨s, 0, 0⟩).1.err = 0
    · rw [if_pos h1] at hc
      by_cases h2 : okTx (rawTx ⟨s, 0, 0⟩).2 = true
      · rw [if_pos h2] at hc; exact ⟨h1, h2, hc.symm⟩
      · rw [if_neg h2] at hc; rw [← hc] at hc0; simp at hc0
    · rw [if_neg h1] at hc; rw [← hc] at hc0; exact absurd hc0.1 h1
  obtain ⟨q1, q2, q3⟩ := hq
  obtain ⟨_, _, a8, _⟩ := okTx_of q2
  obtain ⟨_, b2, b3, b4, b5⟩ := took_raw hr (by omega) q1
  refine ⟨q2, ?_, hc0.1⟩
  have hend := hc0.2
  rw [q3] at hend
  rw [List.take_of_length_le (by omega), b2] at b5
  simpa using b5.symm
theorem takeOps_back : ∀ (l : List Opn) (S P R : List UInt8) (acc : List Opn), (∀ o ∈ l, okOp o = true) → S = P ++ (opsB l ++ R) → takeOps l.length ⟨S, P.length, 0⟩ acc = (⟨S, P.length + (opsB l).length, 0⟩, acc ++ l)
  | [], S, P, R, acc, _, _ => by simp [takeOps, opsB]
  | o :: l, S, P, R, acc, ho, hS => by
    have hk := okOp_of (ho o (by simp))
    have e : opsB (o :: l) = opB o ++ opsB l := by simp [opsB]
    have hS1 : S = P ++ (numB (UInt64.ofNat o.kind.toNat) 1 ++ ((numB (UInt64.ofNat o.key.length) 4 ++ o.key) ++ ((numB (UInt64.ofNat o.val.length) 4 ++ o.val) ++ (opsB l ++ R)))) := by rw [hS, e, opB]; simp only [List.append_assoc]
    have hS2 : S = (P ++ numB (UInt64.ofNat o.kind.toNat) 1) ++ ((numB (UInt64.ofNat o.key.length) 4 ++ o.key) ++ ((numB (UInt64.ofNat o.val.length) 4 ++ o.val) ++ (opsB l ++ R))) := by rw [hS1]; simp only [List.append_assoc]
    have hS3 : S = (P ++ numB (UInt64.ofNat o.kind.toNat) 1 ++ (numB (UInt64.ofNat o.key.length) 4 ++ o.key)) ++ ((numB (UInt64.ofNat o.val.length) 4 ++ o.val) ++ (opsB l ++ R)) := by rw [hS2]; simp only [List.append_assoc]
    have hS4 : S = (P ++ opB o) ++ (opsB l ++ R) := by rw [hS, e]; simp only [List.append_assoc]
    have a1 := ta_number (n := 1) hS1 (by rw [numB_len]; rfl) (by omega)
    have a2 := ta_text (most := 32) hS2 (by omega) (by omega)
    have a3 := ta_text (most := 64) hS3 (by omega) (by omega)
    have ek : (UInt64.ofNat o.kind.toNat).toNat = o.kind.toNat := UInt64.toNat_ofNat_of_lt' (by show o.kind.toNat < 18446744073709551616; omega)
    rw [numB_len, nb_back 1 _ (by rw [ek]; omega)] at a1
    simp only [List.length_append, numB_len] at a2 a3
    rw [List.length_cons, takeOps, if_pos rfl]
    simp only [a1, a2, a3]
    have ih := takeOps_back l S (P ++ opB o) R (acc ++ [o]) (fun x hx => ho x (List.mem_cons_of_mem _ hx)) hS4
    rw [List.length_append, opB_len] at ih
    have eo : (⟨((UInt64.ofNat o.kind.toNat).toNat : Int), o.key, o.val⟩ : Opn) = o := by
      cases o; simp only at *; rw [ek]; congr 1; omega
    rw [eo, e, List.length_append, opB_len]
    have e1 : P.length + 1 + (4 + o.key.length) + (4 + o.val.length) = P.length + (9 + o.key.length + o.val.length) := by omega
    rw [e1, ih]
    simp only [List.append_assoc, Nat.add_assoc]
    rfl
theorem rawTx_back {t : Tn} (h : okTx t = true) (R : List UInt8) : rawTx ⟨txB t ++ R, 0, 0⟩ = (⟨txB t ++ R, (txB t).length, 0⟩, t) := by
  obtain ⟨h0, h1, h8, ho⟩ := okTx_of h
  have e1 : txB t ++ R = [] ++ (numB t.c 8 ++ (numB t.n 8 ++ (numB (UInt64.ofNat t.ops.length) 4 ++ (opsB t.ops ++ R)))) := by unfold txB; simp only [List.append_assoc, List.nil_append]
  have e2 : txB t ++ R = (numB t.c 8) ++ (numB t.n 8 ++ (numB (UInt64.ofNat t.ops.length) 4 ++ (opsB t.ops ++ R))) := by rw [e1]; simp only [List.append_assoc, List.nil_append]
  have e3 : txB t ++ R = (numB t.c 8 ++ numB t.n 8) ++ (numB (UInt64.ofNat t.ops.length) 4 ++ (opsB t.ops ++ R)) := by rw [e1]; simp only [List.append_assoc, List.nil_append]
  have e4 : txB t ++ R = (numB t.c 8 ++ numB t.n 8 ++ numB (UInt64.ofNat t.ops.length) 4) ++ (opsB t.ops ++ R) := by rw [e1]; simp only [List.append_assoc, List.nil_append]
  have a1 := ta_number (n := 8) e1 (by rw [numB_len]; rfl) (by omega)
  have a2 := ta_number (n := 8) e2 (by rw [numB_len]; rfl) (by omega)
  have a3 := ta_count (most := 8) e3 (by omega) (by omega)
  have a4 := takeOps_back t.ops _ _ R [] ho e4
  have l1 := lt_u64 t.c
  have l2 := lt_u64 t.n
  rw [numB_len, nb_back 8 _ (by omega)] at a1
  rw [numB_len, numB_len, nb_back 8 _ (by omega)] at a2
  simp only [List.length_append, numB_len] at a3 a4
  have hl : (txB t).length = 8 + 8 + 4 + (opsB t.ops).length := by unfold txB; simp only [List.length_append, numB_len]
  unfold rawTx
  rw [List.length_nil] at a1
  simp only [a1, a2, a3, a4, hl, Nat.zero_add, List.nil_append]
theorem bytesT_inj {a b : Tn} (ha : okTx a = true) (hb : okTx b = true) : (txB a = txB b) = (a = b) := by
  refine propext ⟨fun h => ?_, fun h => by rw [h]⟩
  have e1 := rawTx_back ha []
  have e2 := rawTx_back hb []
  rw [h] at e1
  rw [e1] at e2
  exact (Prod.mk.inj e2).2
theorem takeT_back {t : Tn} (h : okTx t = true) (R : List UInt8) : takeT ⟨txB t ++ R, 0, 0⟩ = (⟨txB t ++ R, (txB t).length, 0⟩, t) := by
  have e := rawTx_back h R
  have c : chkTx (rawTx ⟨txB t ++ R, 0, 0⟩) = ⟨txB t ++ R, (txB t).length, 0⟩ := by
    unfold chkTx
    rw [e]
    simp only [if_pos, h]
  unfold takeT
  rw [c, e]
  simp
end Go.Vm
