/- Messages of replicas as bytes: plain facts. -/
import Derived.Test.YtnmcmcgbhlgniaaWireT
import Derived.Test.YtnmcmcgbhlgniaaHeadP
set_option linter.unusedSectionVars false
set_option linter.unusedSimpArgs false
set_option linter.unusedVariables false
set_option maxRecDepth 4000
namespace Go.Vm
theorem Tk.refl (r : Rd) (h : r.ok) : Took r r [] := fun he => ⟨he, rfl, by simp, h.1, by simp⟩
theorem ta_cnt {S P R : List UInt8} {c : Nat} {most : Int} (hS : S = P ++ (numB (UInt64.ofNat c) 4 ++ R)) (hc : c < 4294967296) (hm : (c : Int) ≤ most) : (Rd.mk S P.length 0).count most = (⟨S, P.length + 4, 0⟩, c) := by
  have e : (UInt64.ofNat c).toNat = c := UInt64.toNat_ofNat_of_lt' (by show c < 18446744073709551616; omega)
  unfold Rd.count
  rw [ta_number (n := 4) hS (by rw [numB_len]; rfl) (by omega), numB_len, nb_back 4 _ (by rw [e]; omega)]
  simp only
  rw [if_neg (by simp), e, if_neg (by omega)]
theorem ta_txt {S P R s : List UInt8} {most : Int} (hS : S = P ++ ((numB (UInt64.ofNat s.length) 4 ++ s) ++ R)) (hs : s.length < 4294967296) (hm : (s.length : Int) ≤ most) : (Rd.mk S P.length 0).text most = (⟨S, P.length + (4 + s.length), 0⟩, s) := by
  have h1 : S = P ++ (numB (UInt64.ofNat s.length) 4 ++ (s ++ R)) := by rw [hS]; simp only [List.append_assoc]
  have h2 : S = (P ++ numB (UInt64.ofNat s.length) 4) ++ (s ++ R) := by rw [hS]; simp only [List.append_assoc]
  have hb := ta_bytes (n := (s.length : Int)) h2 rfl
  rw [List.length_append, numB_len] at hb
  unfold Rd.text
  rw [ta_cnt h1 hs hm]
  simp only
  rw [hb]
  simp only
  rw [if_neg (by simp), Nat.add_assoc]
def boolB (b : Bool) : List UInt8 := [if b = true then 1 else 0]
def textB (s : List UInt8) : List UInt8 := numB (UInt64.ofNat s.length) 4 ++ s
def cntB (n : Int) : List UInt8 := numB (UInt64.ofNat n.toNat) 4
theorem cntB_len (n : Int) : (cntB n).length = 4 := numB_len 4 _
theorem ta_cntB {S P R : List UInt8} {n : Int} (hS : S = P ++ (cntB n ++ R)) (h0 : 0 ≤ n) (hn : n ≤ 2147483647) : (Rd.mk S P.length 0).count 2147483647 = (⟨S, P.length + 4, 0⟩, n.toNat) := ta_cnt hS (by omega) (by omega)
theorem u64_one {n : UInt64} (h : ¬ UInt64.ofNat 1 < n) : n = UInt64.ofNat 0 ∨ n = UInt64.ofNat 1 := by
  have h1 : ¬ (UInt64.ofNat 1).toNat < n.toNat := h
  have h2 : (UInt64.ofNat 1).toNat = 1 := rfl
  rcases Nat.lt_or_ge n.toNat 1 with h3 | h3
  · exact .inl (UInt64.toNat_inj.1 (by rw [show (UInt64.ofNat 0).toNat = 0 from rfl]; omega))
  · exact .inr (UInt64.toNat_inj.1 (by rw [h2]; omega))
theorem took_bool (r : Rd) : Took r r.bool.1 (boolB r.bool.2) := by
  intro h
  have t := took_number r 1 (by omega)
  unfold Rd.bool at h ⊢
  simp only at h ⊢
  by_cases h1 : (r.number 1).1.err = 0 ∧ UInt64.ofNat 1 < (r.number 1).2
  · rw [if_pos h1] at h; simp at h
  · rw [if_neg h1] at h ⊢
    have h0 : (r.number 1).1.err = 0 := h
    have := t h0
    rcases u64_one (fun c => h1 ⟨h0, c⟩) with e | e
    · rw [e] at this
      have e2 : decide ((r.number 1).1.err = 0 ∧ (r.number 1).2 = UInt64.ofNat 1) = false := by rw [e]; simp
      rw [e2]
      exact this
    · rw [e] at this
      have e2 : decide ((r.number 1).1.err = 0 ∧ (r.number 1).2 = UInt64.ofNat 1) = true := by rw [e]; simp [h0]
      rw [e2]
      exact this
theorem ta_bool {S P R : List UInt8} {b : Bool} (hS : S = P ++ (boolB b ++ R)) : (Rd.mk S P.length 0).bool = (⟨S, P.length + 1, 0⟩, b) := by
  have h := ta_number (n := 1) hS rfl (by omega)
  unfold Rd.bool
  rw [h]
  cases b <;> rfl
/-! Who takes part -/
def takeNs : Nat → Rd → List Int → Rd × List Int
  | 0, r, acc => (r, acc)
  | n + 1, r, acc => if r.err = 0 then takeNs n (r.number 1).1 (acc ++ [((r.number 1).2.toNat : Int)]) else (r, acc)
def rawMem (r : Rd) : Rd × List Int := takeNs (r.number 1).2.toNat (r.number 1).1 []
def takeMem (r : Rd) : Rd × List Int := if (rawMem r).1.err = 0 then (if membersB (rawMem r).2 = true then rawMem r else ({ (rawMem r).1 with err := 6 }, [])) else ((rawMem r).1, [])
theorem takeNs_ok : ∀ (n : Nat) (r : Rd) (acc : List Int), r.ok → (takeNs n r acc).1.ok ∧ (takeNs n r acc).1.s = r.s
  | 0, r, acc, h => ⟨h, rfl⟩
  | n + 1, r, acc, h => by
    unfold takeNs
    split
    · have h1 := Rd.number_ok h 1
      have := takeNs_ok n (r.number 1).1 (acc ++ [((r.number 1).2.toNat : Int)]) h1.1
      exact ⟨this.1, by rw [← h1.2]; exact this.2⟩
    · exact ⟨h, rfl⟩
theorem takeNs_len : ∀ (n : Nat) (r : Rd) (acc : List Int), (takeNs n r acc).2.length ≤ acc.length + n
  | 0, r, acc => by simp [takeNs]
  | n + 1, r, acc => by
    unfold takeNs
    split
    · have := takeNs_len n (r.number 1).1 (acc ++ [((r.number 1).2.toNat : Int)])
      rw [List.length_append, List.length_singleton] at this
      omega
    · simp only; omega
theorem takeMem_ok {r : Rd} (h : r.ok) : (takeMem r).1.ok ∧ (takeMem r).1.s = r.s := by
  have h1 := Rd.number_ok h 1
  have h2 := takeNs_ok (r.number 1).2.toNat (r.number 1).1 [] h1.1
  have h3 : (rawMem r).1.ok ∧ (rawMem r).1.s = r.s := ⟨h2.1, by rw [← h1.2]; exact h2.2⟩
  unfold takeMem
  repeat' split
  · exact h3
  · exact h3
  · exact h3
theorem beV_byte {x : Int} (h : 0 ≤ x ∧ x < 256) : ((beV [byte1 x]).toNat : Int) = x := by
  have e : (UInt64.ofNat x.toNat).toNat = x.toNat := UInt64.toNat_ofNat_of_lt' (by show x.toNat < 18446744073709551616; omega)
  have e2 : numB (UInt64.ofNat x.toNat) 1 = [byte1 x] := by
    show [(UInt64.ofNat x.toNat).toUInt8] = [UInt8.ofNat x.toNat]
    congr 1
    apply UInt8.toNat_inj.1
    rw [UInt64.toNat_toUInt8, e, UInt8.toNat_ofNat_of_lt' (show x.toNat < 256 by omega)]
    omega
  rw [← e2, nb_back 1 _ (by rw [e]; omega), e]
  omega
theorem num_lt (r : Rd) : (r.number 1).2.toNat < 256 := by
  have key : ∀ s : List UInt8, s.length ≤ 1 → (beV s).toNat < 256 := by
    intro s hs
    match s, hs with
    | [], _ => decide
    | [b], _ =>
      have e : beV [b] = b.toUInt64 := by
        show UInt64.ofNat 0 <<< UInt64.ofNat 8 ||| b.toUInt64 = _
        have : UInt64.ofNat 0 <<< UInt64.ofNat 8 = 0 := by decide
        rw [this]; simp
      rw [e, UInt8.toNat_toUInt64]
      exact b.toNat_lt
  unfold Rd.number
  apply key
  unfold Rd.bytes
  repeat' split
  all_goals first
    | (simp; done)
    | (simp only [List.length_take, List.length_drop]; omega)
theorem byte_of (r : Rd) : [byte1 ((r.number 1).2.toNat : Int)] = numB (r.number 1).2 1 := by
  have h := num_lt r
  generalize (r.number 1).2 = n at *
  show [UInt8.ofNat ((n.toNat : Int)).toNat] = [n.toUInt8]
  congr 1
theorem took_ns : ∀ (n : Nat) (r : Rd) (acc : List Int), r.ok → ∃ l, (takeNs n r acc).2 = acc ++ l ∧ Took r (takeNs n r acc).1 (l.map byte1) ∧ ((takeNs n r acc).1.err = 0 → l.length = n)
  | 0, r, acc, h => ⟨[], by simp [takeNs], Tk.refl r h, fun _ => rfl⟩
  | n + 1, r, acc, h => by
    unfold takeNs
    split
    · have h1 := Rd.number_ok h 1
      have t1 := took_number r 1 (by omega)
      obtain ⟨l, e, t, hl⟩ := took_ns n (r.number 1).1 (acc ++ [((r.number 1).2.toNat : Int)]) h1.1
      refine ⟨((r.number 1).2.toNat : Int) :: l, by rw [e, List.append_assoc]; rfl, ?_, fun he => by rw [List.length_cons, hl he]⟩
      refine (t1.trans t).of fun _ => ?_
      rw [List.map_cons, show numB (r.number 1).2 (1 : Int).toNat = numB (r.number 1).2 1 from rfl, ← byte_of]
      rfl
    · rename_i h0
      exact ⟨[], by simp, fun he => absurd he h0, fun he => absurd he h0⟩
theorem took_mem {r : Rd} (h : r.ok) : Took r (takeMem r).1 (membB (takeMem r).2) ∧ ((takeMem r).1.err = 0 → membersB (takeMem r).2 = true) := by
  have h1 := Rd.number_ok h 1
  have t1 := took_number r 1 (by omega)
  obtain ⟨l, e, t, hl⟩ := took_ns (r.number 1).2.toNat (r.number 1).1 [] h1.1
  have e2 : (rawMem r).2 = l := by rw [rawMem, e]; rfl
  unfold takeMem
  by_cases h0 : (rawMem r).1.err = 0
  · rw [if_pos h0]
    by_cases hm : membersB (rawMem r).2 = true
    · rw [if_pos hm]
      refine ⟨(t1.trans t).of fun he => ?_, fun _ => hm⟩
      rw [e2, membB, hl he, show numB (r.number 1).2 (1 : Int).toNat = numB (r.number 1).2 1 from rfl, ← byte_of]
      rfl
    · rw [if_neg hm]
      exact ⟨(fun he => by simp at he), (fun he => by simp at he)⟩
  · rw [if_neg h0]
    exact ⟨fun he => absurd he h0, fun he => absurd he h0⟩
theorem takeNs_back : ∀ (m : List Int) (S P R : List UInt8) (acc : List Int), (∀ x ∈ m, 0 ≤ x ∧ x < 256) → S = P ++ (m.map byte1 ++ R) → takeNs m.length ⟨S, P.length, 0⟩ acc = (⟨S, P.length + m.length, 0⟩, acc ++ m)
  | [], S, P, R, acc, _, _ => by simp [takeNs]
  | x :: m, S, P, R, acc, hm, hS => by
    have hS1 : S = P ++ ([byte1 x] ++ (m.map byte1 ++ R)) := by rw [hS]; simp
    have hS2 : S = (P ++ [byte1 x]) ++ (m.map byte1 ++ R) := by rw [hS]; simp
    have a1 := ta_number (n := 1) hS1 rfl (by omega)
    have ih := takeNs_back m S (P ++ [byte1 x]) R (acc ++ [x]) (fun y hy => hm y (List.mem_cons_of_mem _ hy)) hS2
    rw [List.length_append, List.length_singleton] at ih
    rw [List.length_cons, takeNs, if_pos rfl, a1]
    simp only [List.length_singleton]
    rw [beV_byte (hm x (by simp)), ih]
    simp only [List.append_assoc, Nat.add_assoc, Nat.add_comm 1]
    rfl
theorem membB_len (m : List Int) : (membB m).length = m.length + 1 := by simp [membB]
theorem takeMem_back {m : List Int} {S P R : List UInt8} (hm : membersB m = true) (hS : S = P ++ (membB m ++ R)) : takeMem ⟨S, P.length, 0⟩ = (⟨S, P.length + (membB m).length, 0⟩, m) := by
  have hl := memb_len hm
  have hr := (memb_range hm).1
  have hS1 : S = P ++ ([byte1 (m.length : Int)] ++ (m.map byte1 ++ R)) := by rw [hS]; simp [membB, byte1]
  have hS2 : S = (P ++ [byte1 (m.length : Int)]) ++ (m.map byte1 ++ R) := by rw [hS1]; simp
  have a1 := ta_number (n := 1) hS1 rfl (by omega)
  have a2 := takeNs_back m S (P ++ [byte1 (m.length : Int)]) R [] (fun x hx => by have := hr x hx; omega) hS2
  rw [List.length_append, List.length_singleton] at a2
  have e : (beV [byte1 (m.length : Int)]).toNat = m.length := by
    have := beV_byte (x := (m.length : Int)) (by omega)
    omega
  have hraw : rawMem ⟨S, P.length, 0⟩ = (⟨S, P.length + (membB m).length, 0⟩, m) := by
    unfold rawMem
    rw [a1]
    simp only [List.length_singleton]
    rw [e, a2, membB_len]
    simp only [List.nil_append, Nat.add_assoc, Nat.add_comm 1]
  unfold takeMem
  rw [hraw]
  simp only [if_true, hm]
/-! Entries -/
structure En where
  term : Int
  s : List UInt8
  conf : Bool
  mem : List Int
  deriving Inhabited
def enB (e : En) : List UInt8 := cntB e.term ++ boolB e.conf ++ (if e.conf = true then membB e.mem else textB e.s)
def En.okE (e : En) : Prop := 0 ≤ e.term ∧ e.term ≤ 2147483647 ∧ (e.conf = true → membersB e.mem = true) ∧ e.s.length ≤ 1048576
def En.norm (e : En) : En := if e.conf = true then ⟨e.term, [], true, e.mem⟩ else ⟨e.term, e.s, false, []⟩
def zeroE : En := ⟨0, [], false, []⟩
def rawEn (r : Rd) : Rd × En :=
  if ((r.count 2147483647).1.bool).2 = true then ((takeMem ((r.count 2147483647).1.bool).1).1, ⟨((r.count 2147483647).2 : Int), [], true, (takeMem ((r.count 2147483647).1.bool).1).2⟩)
  else ((((r.count 2147483647).1.bool).1.text 1048576).1, ⟨((r.count 2147483647).2 : Int), (((r.count 2147483647).1.bool).1.text 1048576).2, false, []⟩)
def takeEn (r : Rd) : Rd × En := ((rawEn r).1, if (rawEn r).1.err = 0 then (rawEn r).2 else zeroE)
theorem takeEn_ok {r : Rd} (h : r.ok) : (takeEn r).1.ok ∧ (takeEn r).1.s = r.s := by
  have h1 := Rd.count_ok h 2147483647
  have h2 := Rd.bool_ok h1.1
  have h3 := Rd.text_ok h2.1 1048576
  have h4 := takeMem_ok h2.1
  show (rawEn r).1.ok ∧ (rawEn r).1.s = r.s
  unfold rawEn
  split
  · exact ⟨h4.1, by rw [← h1.2, ← h2.2]; exact h4.2⟩
  · exact ⟨h3.1, by rw [← h1.2, ← h2.2]; exact h3.2⟩
theorem took_en {r : Rd} (h : r.ok) : Took r (takeEn r).1 (enB (takeEn r).2) ∧ ((takeEn r).1.err = 0 → (takeEn r).2.okE ∧ (takeEn r).2.norm = (takeEn r).2) := by
  have h1 := Rd.count_ok h 2147483647
  have h2 := Rd.bool_ok h1.1
  have t1 := took_count r 2147483647
  have t2 := took_bool (r.count 2147483647).1
  have t3 := took_text ((r.count 2147483647).1.bool).1 1048576
  have t4 := took_mem h2.1
  have hc := Go.Vm.Ytnmcmcgbhlgniaa.count_lt r 2147483647
  have ht := text_len (r := ((r.count 2147483647).1.bool).1) (m := 1048576)
  unfold takeEn
  simp only
  by_cases h0 : (rawEn r).1.err = 0
  · rw [if_pos h0]
    unfold rawEn at h0 ⊢
    by_cases hb : ((r.count 2147483647).1.bool).2 = true
    · rw [if_pos hb] at h0 ⊢
      rw [hb] at t2
      refine ⟨((t1.trans t2).trans t4.1).of fun he => ?_, fun he => ⟨⟨by simp only; omega, by simp only; omega, fun _ => t4.2 h0, by simp⟩, rfl⟩⟩
      simp only [enB, cntB, Int.toNat_natCast, if_true]
    · rw [if_neg hb] at h0 ⊢
      have hb2 : ((r.count 2147483647).1.bool).2 = false := by simpa using hb
      rw [hb2] at t2
      refine ⟨((t1.trans t2).trans t3).of fun he => ?_, fun he => ⟨⟨by simp only; omega, by simp only; omega, (fun c => by cases c), by simp only; omega⟩, rfl⟩⟩
      simp only [enB, cntB, textB, Int.toNat_natCast, Bool.false_eq_true, if_false]
  · exact ⟨fun he => absurd he h0, fun he => absurd he h0⟩
theorem enB_len_le {e : En} (h : e.okE) : (enB e).length ≤ 1048590 := by
  obtain ⟨_, _, h3, h4⟩ := h
  unfold enB boolB
  simp only [List.length_append, cntB_len, List.length_singleton]
  split
  · rename_i hc
    have := memb_len (h3 hc)
    rw [membB_len]; omega
  · rw [textB, List.length_append, numB_len]; omega
theorem takeEn_back {e : En} {S P R : List UInt8} (h : e.okE) (hS : S = P ++ (enB e ++ R)) : takeEn ⟨S, P.length, 0⟩ = (⟨S, P.length + (enB e).length, 0⟩, e.norm) := by
  obtain ⟨h1, h2, h3, h4⟩ := h
  have hS1 : S = P ++ (cntB e.term ++ (boolB e.conf ++ ((if e.conf = true then membB e.mem else textB e.s) ++ R))) := by rw [hS, enB]; simp only [List.append_assoc]
  have hS2 : S = (P ++ cntB e.term) ++ (boolB e.conf ++ ((if e.conf = true then membB e.mem else textB e.s) ++ R)) := by rw [hS1]; simp only [List.append_assoc]
  have hS3 : S = (P ++ cntB e.term ++ boolB e.conf) ++ ((if e.conf = true then membB e.mem else textB e.s) ++ R) := by rw [hS1]; simp only [List.append_assoc]
  have a1 := ta_cntB hS1 h1 h2
  have a2 := ta_bool hS2
  rw [List.length_append, cntB_len] at a2
  have et : (e.term.toNat : Int) = e.term := by omega
  have hraw : rawEn ⟨S, P.length, 0⟩ = (⟨S, P.length + (enB e).length, 0⟩, e.norm) := by
    unfold rawEn En.norm
    rw [a1]
    simp only [a2, et]
    cases hc : e.conf
    · rw [hc] at hS3
      simp only [Bool.false_eq_true, if_false, textB] at hS3
      have a3 := ta_txt (most := 1048576) hS3 (by omega) (by omega)
      simp only [List.length_append, cntB_len, boolB, List.length_singleton] at a3
      simp only [Bool.false_eq_true, if_false]
      rw [a3]
      simp only [enB, hc, Bool.false_eq_true, if_false, textB, boolB, List.length_append, cntB_len, List.length_singleton, numB_len, Nat.add_assoc]
    · rw [hc] at hS3
      simp only [if_true] at hS3
      have a3 := takeMem_back (h3 hc) hS3
      simp only [List.length_append, cntB_len, boolB, List.length_singleton] at a3
      simp only [if_true]
      rw [a3]
      simp only [enB, hc, if_true, boolB, List.length_append, cntB_len, List.length_singleton, Nat.add_assoc]
  unfold takeEn
  rw [hraw]
  simp only [if_true]
theorem norm_norm (e : En) : e.norm.norm = e.norm := by
  unfold En.norm
  split <;> rfl
theorem enB_norm (e : En) : enB e.norm = enB e := by
  unfold En.norm
  split
  · rename_i h; simp [enB, h]
  · rename_i h; simp [enB, h]
def ensB (l : List En) : List UInt8 := l.flatMap enB
theorem ensB_snoc (l : List En) (e : En) : ensB (l ++ [e]) = ensB l ++ enB e := by simp [ensB]
def takeEns : Nat → Rd → List En → Rd × List En
  | 0, r, acc => (r, acc)
  | n + 1, r, acc => if r.err = 0 then takeEns n (takeEn r).1 (acc ++ [(takeEn r).2]) else (r, acc)
theorem takeEns_ok : ∀ (n : Nat) (r : Rd) (acc : List En), r.ok → (takeEns n r acc).1.ok ∧ (takeEns n r acc).1.s = r.s
  | 0, r, acc, h => ⟨h, rfl⟩
  | n + 1, r, acc, h => by
    unfold takeEns
    split
    · have h1 := takeEn_ok h
      have := takeEns_ok n (takeEn r).1 (acc ++ [(takeEn r).2]) h1.1
      exact ⟨this.1, by rw [← h1.2]; exact this.2⟩
    · exact ⟨h, rfl⟩
theorem takeEns_len : ∀ (n : Nat) (r : Rd) (acc : List En), (takeEns n r acc).2.length ≤ acc.length + n
  | 0, r, acc => by simp [takeEns]
  | n + 1, r, acc => by
    unfold takeEns
    split
    · have := takeEns_len n (takeEn r).1 (acc ++ [(takeEn r).2])
      rw [List.length_append, List.length_singleton] at this
      omega
    · simp only; omega
theorem took_ens : ∀ (n : Nat) (r : Rd) (acc : List En), r.ok → ∃ l, (takeEns n r acc).2 = acc ++ l ∧ Took r (takeEns n r acc).1 (ensB l) ∧ ((takeEns n r acc).1.err = 0 → l.length = n ∧ ∀ e ∈ l, e.okE ∧ e.norm = e)
  | 0, r, acc, h => ⟨[], by simp [takeEns], Tk.refl r h, fun _ => ⟨rfl, by simp⟩⟩
  | n + 1, r, acc, h => by
    unfold takeEns
    split
    · have h1 := takeEn_ok h
      have t1 := took_en h
      obtain ⟨l, e, t, hl⟩ := took_ens n (takeEn r).1 (acc ++ [(takeEn r).2]) h1.1
      refine ⟨(takeEn r).2 :: l, by rw [e, List.append_assoc]; rfl, (t1.1.trans t).of fun _ => by simp [ensB], fun he => ?_⟩
      obtain ⟨l1, l2⟩ := hl he
      refine ⟨by rw [List.length_cons, l1], fun x hx => ?_⟩
      rcases List.mem_cons.1 hx with rfl | hx
      · exact t1.2 (t he).1
      · exact l2 x hx
    · rename_i h0
      exact ⟨[], by simp, fun he => absurd he h0, fun he => absurd he h0⟩
theorem takeEns_back : ∀ (l : List En) (S P R : List UInt8) (acc : List En), (∀ e ∈ l, e.okE) → S = P ++ (ensB l ++ R) → takeEns l.length ⟨S, P.length, 0⟩ acc = (⟨S, P.length + (ensB l).length, 0⟩, acc ++ l.map En.norm)
  | [], S, P, R, acc, _, _ => by simp [takeEns, ensB]
  | e :: l, S, P, R, acc, ho, hS => by
    have hS1 : S = P ++ (enB e ++ (ensB l ++ R)) := by rw [hS]; simp [ensB]
    have hS2 : S = (P ++ enB e) ++ (ensB l ++ R) := by rw [hS1]; simp only [List.append_assoc]
    have a1 := takeEn_back (ho e (by simp)) hS1
    have ih := takeEns_back l S (P ++ enB e) R (acc ++ [e.norm]) (fun x hx => ho x (List.mem_cons_of_mem _ hx)) hS2
    rw [List.length_append] at ih
    rw [List.length_cons, takeEns, if_pos rfl, a1]
    simp only
    rw [ih]
    simp only [ensB, List.flatMap_cons, List.length_append, List.map_cons, List.append_assoc, Nat.add_assoc]
    rfl
end Go.Vm
/- Messages of replicas as bytes: plain facts, whole messages. -/
namespace Go.Vm
def cn : Nat → Rd → Rd
  | 0, r => r
  | n + 1, r => ((cn n r).count 2147483647).1
def cv (n : Nat) (r : Rd) : Int := (((cn n r).count 2147483647).2 : Int)
theorem cn_ok {r : Rd} (h : r.ok) : ∀ n, (cn n r).ok ∧ (cn n r).s = r.s
  | 0 => ⟨h, rfl⟩
  | n + 1 => by
    have h1 := cn_ok h n
    have h2 := Rd.count_ok h1.1 2147483647
    exact ⟨h2.1, by rw [← h1.2]; exact h2.2⟩
theorem cv_rng (n : Nat) (r : Rd) : 0 ≤ cv n r ∧ cv n r ≤ 2147483647 := by
  have := Go.Vm.Ytnmcmcgbhlgniaa.count_lt (cn n r) 2147483647
  unfold cv
  omega
theorem took_cn {r : Rd} (h : r.ok) : ∀ n, Took r (cn n r) ((List.range n).flatMap fun i => cntB (cv i r))
  | 0 => Tk.refl r h
  | n + 1 => by
    have t1 := took_cn h n
    have t2 := took_count (cn n r) 2147483647
    refine (t1.trans t2).of fun _ => ?_
    rw [List.range_succ, List.flatMap_append, List.flatMap_singleton, cntB, cv, Int.toNat_natCast]
theorem cn_back {l : List Int} {S P R : List UInt8} (hS : S = P ++ (l.flatMap cntB ++ R)) (hl : ∀ x ∈ l, 0 ≤ x ∧ x ≤ 2147483647) : ∀ n, n ≤ l.length → cn n ⟨S, P.length, 0⟩ = ⟨S, P.length + 4 * n, 0⟩ ∧ ∀ i, i < n → cv i ⟨S, P.length, 0⟩ = l.getD i 0
  | 0, _ => ⟨rfl, fun i hi => by omega⟩
  | n + 1, hn => by
    obtain ⟨h1, h2⟩ := cn_back hS hl n (by omega)
    have hx := hl l[n] (List.getElem_mem (by omega))
    have hlen : ∀ k : List Int, (k.flatMap cntB).length = 4 * k.length := by
      intro k
      induction k with
      | nil => rfl
      | cons a k ih => rw [List.flatMap_cons, List.length_append, cntB_len, ih, List.length_cons]; omega
    have hsp : l = l.take n ++ (l[n] :: l.drop (n + 1)) := by rw [List.getElem_cons_drop, List.take_append_drop]
    have hS2 : S = (P ++ (l.take n).flatMap cntB) ++ (cntB l[n] ++ ((l.drop (n + 1)).flatMap cntB ++ R)) := by
      rw [hS]
      conv => lhs; rw [hsp]
      simp only [List.flatMap_append, List.flatMap_cons, List.append_assoc]
    have a := ta_cntB hS2 hx.1 hx.2
    rw [List.length_append, hlen, List.length_take, Nat.min_eq_left (by omega)] at a
    refine ⟨?_, fun i hi => ?_⟩
    · rw [cn, h1, a]
      simp only [Nat.add_assoc]
      rfl
    · rcases Nat.lt_or_ge i n with h | h
      · exact h2 i h
      · obtain rfl : i = n := by omega
        rw [cv, h1, a, List.getD_eq_getElem?_getD, List.getElem?_eq_getElem (by omega)]
        simp only [Option.getD_some]
        omega
structure Ms where
  k : Int
  f : Int
  t : Int
  term : Int
  ix : Int
  lt : Int
  cm : Int
  off : Int
  y : Bool
  d : Bool
  es : List En
  pc : List UInt8
  mem : List Int
def Ms.nums (m : Ms) : List Int := [m.k, m.f, m.t, m.term, m.ix, m.lt, m.cm, m.off]
def msB (m : Ms) : List UInt8 := m.nums.flatMap cntB ++ boolB m.y ++ boolB m.d ++ numB (UInt64.ofNat m.es.length) 4 ++ ensB m.es ++ textB m.pc ++ boolB (decide (¬ m.mem = [])) ++ (if m.mem = [] then [] else membB m.mem)
def Ms.okM (m : Ms) : Prop := (∀ x ∈ m.nums, 0 ≤ x ∧ x ≤ 2147483647) ∧ m.es.length ≤ 16 ∧ (∀ e ∈ m.es, e.okE) ∧ m.pc.length ≤ 200 ∧ (¬ m.mem = [] → membersB m.mem = true)
def Ms.norm (m : Ms) : Ms := { m with es := m.es.map En.norm }
def zeroM : Ms := ⟨0, 0, 0, 0, 0, 0, 0, 0, false, false, [], [], []⟩
def mmOf (q : Rd × Bool) : Rd × List Int := if q.2 = true then takeMem q.1 else (q.1, [])
def q1 (r : Rd) : Rd × Bool := (cn 8 r).bool
def q2 (r : Rd) : Rd × Bool := (q1 r).1.bool
def q3 (r : Rd) : Rd × Nat := (q2 r).1.count 16
def q4 (r : Rd) : Rd × List En := takeEns (q3 r).2 (q3 r).1 []
def q5 (r : Rd) : Rd × List UInt8 := (q4 r).1.text 200
def q6 (r : Rd) : Rd × Bool := (q5 r).1.bool
def q7 (r : Rd) : Rd × List Int := mmOf (q6 r)
def rawMs (r : Rd) : Ms := ⟨cv 0 r, cv 1 r, cv 2 r, cv 3 r, cv 4 r, cv 5 r, cv 6 r, cv 7 r, (q1 r).2, (q2 r).2, (q4 r).2, (q5 r).2, (q7 r).2⟩
def takeMs (r : Rd) : Rd × Ms := ((q7 r).1, if (q7 r).1.err = 0 then rawMs r else zeroM)
theorem q_ok {r : Rd} (h : r.ok) : ((q1 r).1.ok ∧ (q2 r).1.ok ∧ (q3 r).1.ok ∧ (q4 r).1.ok ∧ (q5 r).1.ok ∧ (q6 r).1.ok ∧ (q7 r).1.ok) ∧ (q4 r).1.s = r.s ∧ (q5 r).1.s = r.s ∧ (q6 r).1.s = r.s ∧ (q7 r).1.s = r.s := by
  have h0 := cn_ok h 8
  have h1 := Rd.bool_ok h0.1
  have h2 := Rd.bool_ok h1.1
  have h3 := Rd.count_ok h2.1 16
  have h4 := takeEns_ok (q3 r).2 (q3 r).1 [] h3.1
  have h5 := Rd.text_ok h4.1 200
  have h6 := Rd.bool_ok h5.1
  have e4 : (q4 r).1.s = r.s := by rw [← h0.2, ← h1.2, ← h2.2, ← h3.2]; exact h4.2
  have e5 : (q5 r).1.s = r.s := by rw [← e4]; exact h5.2
  have e6 : (q6 r).1.s = r.s := by rw [← e5]; exact h6.2
  have h7 : (q7 r).1.ok ∧ (q7 r).1.s = r.s := by
    unfold q7 mmOf
    split
    · have := takeMem_ok h6.1
      exact ⟨this.1, by rw [← e6]; exact this.2⟩
    · exact ⟨h6.1, e6⟩
  exact ⟨⟨h1.1, h2.1, h3.1, h4.1, h5.1, h6.1, h7.1⟩, e4, e5, e6, h7.2⟩
theorem takeMs_ok {r : Rd} (h : r.ok) : (takeMs r).1.ok ∧ (takeMs r).1.s = r.s := ⟨(q_ok h).1.2.2.2.2.2.2, (q_ok h).2.2.2.2⟩
theorem memb_ne' {m : List Int} (h : membersB m = true) : ¬ m = [] := by
  intro c
  subst c
  simp [membersB] at h
theorem took_ms {r : Rd} (h : r.ok) : Took r (takeMs r).1 (msB (takeMs r).2) ∧ ((takeMs r).1.err = 0 → (takeMs r).2.okM ∧ (takeMs r).2.norm = (takeMs r).2) := by
  obtain ⟨⟨o1, o2, o3, o4, o5, o6, o7⟩, _⟩ := q_ok h
  have t0 := took_cn h 8
  have t1 := took_bool (cn 8 r)
  have t2 := took_bool (q1 r).1
  have t3 := took_count (q2 r).1 16
  obtain ⟨l, el, t4, hl⟩ := took_ens (q3 r).2 (q3 r).1 [] o3
  have t5 := took_text (q4 r).1 200
  have t6 := took_bool (q5 r).1
  have t7 := took_mem o6
  have hc := Go.Vm.Ytnmcmcgbhlgniaa.count_lt (q2 r).1 16
  have ht := text_len (r := (q4 r).1) (m := 200)
  have hq4 : (q4 r).2 = l := by rw [q4, el]; rfl
  have hpre := (((((t0.trans t1).trans t2).trans t3).trans t4).trans t5).trans t6
  unfold takeMs
  simp only
  by_cases h0 : (q7 r).1.err = 0
  · rw [if_pos h0]
    have hrng : (List.range 8).flatMap (fun i => cntB (cv i r)) = (rawMs r).nums.flatMap cntB := by
      simp [rawMs, Ms.nums, List.range_succ_eq_map]
    have hnum : ∀ x ∈ (rawMs r).nums, 0 ≤ x ∧ x ≤ 2147483647 := by
      intro x hx
      simp only [rawMs, Ms.nums, List.mem_cons, List.not_mem_nil, or_false] at hx
      rcases hx with rfl | rfl | rfl | rfl | rfl | rfl | rfl | rfl <;> exact cv_rng _ r
    cases hb : (q6 r).2
    · have e7 : q7 r = ((q6 r).1, []) := by unfold q7 mmOf; rw [hb]; simp
      have h6 : (q6 r).1.err = 0 := by rw [e7] at h0; exact h0
      have h5 := (t6 h6).1
      have h4 := (t5 h5).1
      obtain ⟨hl1, hl2⟩ := hl h4
      refine ⟨?_, fun _ => ⟨⟨hnum, ?_, ?_, ?_, ?_⟩, ?_⟩⟩
      · rw [e7]
        refine hpre.of fun _ => ?_
        rw [hrng]
        show _ ++ boolB (q1 r).2 ++ boolB (q2 r).2 ++ numB (UInt64.ofNat (q3 r).2) 4 ++ ensB l ++ (numB (UInt64.ofNat (q5 r).2.length) 4 ++ (q5 r).2) ++ boolB (q6 r).2 = _
        rw [hb]
        simp only [msB, textB, rawMs, e7, hq4, hl1, if_true, not_true, decide_false, List.append_nil]
      · show (q4 r).2.length ≤ 16
        rw [hq4, hl1]; show (q3 r).2 ≤ 16; unfold q3; omega
      · show ∀ e ∈ (q4 r).2, e.okE
        rw [hq4]; exact fun e he => (hl2 e he).1
      · show (q5 r).2.length ≤ 200
        unfold q5; omega
      · intro c; exact absurd (by show (q7 r).2 = []; rw [e7]) c
      · show ({ rawMs r with es := (q4 r).2.map En.norm } : Ms) = rawMs r
        rw [hq4, List.map_congr_left (g := id) (fun e he => (hl2 e he).2), List.map_id, ← hq4]
        rfl
    · have e7 : q7 r = takeMem (q6 r).1 := by unfold q7 mmOf; rw [hb]; simp
      have hm0 : (takeMem (q6 r).1).1.err = 0 := by rw [e7] at h0; exact h0
      have hmb := t7.2 hm0
      have hne := memb_ne' hmb
      have h6 := (t7.1 hm0).1
      have h5 := (t6 h6).1
      have h4 := (t5 h5).1
      obtain ⟨hl1, hl2⟩ := hl h4
      refine ⟨?_, fun _ => ⟨⟨hnum, ?_, ?_, ?_, ?_⟩, ?_⟩⟩
      · rw [e7]
        refine (hpre.trans t7.1).of fun _ => ?_
        rw [hrng]
        show _ ++ boolB (q1 r).2 ++ boolB (q2 r).2 ++ numB (UInt64.ofNat (q3 r).2) 4 ++ ensB l ++ (numB (UInt64.ofNat (q5 r).2.length) 4 ++ (q5 r).2) ++ boolB (q6 r).2 ++ _ = _
        rw [hb]
        simp only [msB, textB, rawMs, e7, hq4, hl1, hne, if_false, not_false_eq_true, decide_true]
      · show (q4 r).2.length ≤ 16
        rw [hq4, hl1]; show (q3 r).2 ≤ 16; unfold q3; omega
      · show ∀ e ∈ (q4 r).2, e.okE
        rw [hq4]; exact fun e he => (hl2 e he).1
      · show (q5 r).2.length ≤ 200
        unfold q5; omega
      · intro _; show membersB (q7 r).2 = true; rw [e7]; exact hmb
      · show ({ rawMs r with es := (q4 r).2.map En.norm } : Ms) = rawMs r
        rw [hq4, List.map_congr_left (g := id) (fun e he => (hl2 e he).2), List.map_id, ← hq4]
        rfl
  · exact ⟨fun he => absurd he h0, fun he => absurd he h0⟩
theorem takeMs_back {m : Ms} {S R : List UInt8} (h : m.okM) (hS : S = msB m ++ R) : takeMs ⟨S, 0, 0⟩ = (⟨S, (msB m).length, 0⟩, m.norm) := by
  obtain ⟨h1, h2, h3, h4, h5⟩ := h
  have hlen : (m.nums.flatMap cntB).length = 32 := by simp [Ms.nums, cntB_len]
  have e0 : S = [] ++ (m.nums.flatMap cntB ++ (boolB m.y ++ (boolB m.d ++ (numB (UInt64.ofNat m.es.length) 4 ++ (ensB m.es ++ (textB m.pc ++ (boolB (decide (¬ m.mem = [])) ++ ((if m.mem = [] then [] else membB m.mem) ++ R)))))))) := by rw [hS, msB]; simp only [List.append_assoc, List.nil_append]
  have e1 : S = m.nums.flatMap cntB ++ (boolB m.y ++ (boolB m.d ++ (numB (UInt64.ofNat m.es.length) 4 ++ (ensB m.es ++ (textB m.pc ++ (boolB (decide (¬ m.mem = [])) ++ ((if m.mem = [] then [] else membB m.mem) ++ R))))))) := by rw [e0]; simp only [List.append_assoc, List.nil_append]
  have e2 : S = (m.nums.flatMap cntB ++ boolB m.y) ++ (boolB m.d ++ (numB (UInt64.ofNat m.es.length) 4 ++ (ensB m.es ++ (textB m.pc ++ (boolB (decide (¬ m.mem = [])) ++ ((if m.mem = [] then [] else membB m.mem) ++ R)))))) := by rw [e1]; simp only [List.append_assoc]
  have e3 : S = (m.nums.flatMap cntB ++ boolB m.y ++ boolB m.d) ++ (numB (UInt64.ofNat m.es.length) 4 ++ (ensB m.es ++ (textB m.pc ++ (boolB (decide (¬ m.mem = [])) ++ ((if m.mem = [] then [] else membB m.mem) ++ R))))) := by rw [e1]; simp only [List.append_assoc]
  have e4 : S = (m.nums.flatMap cntB ++ boolB m.y ++ boolB m.d ++ numB (UInt64.ofNat m.es.length) 4) ++ (ensB m.es ++ (textB m.pc ++ (boolB (decide (¬ m.mem = [])) ++ ((if m.mem = [] then [] else membB m.mem) ++ R)))) := by rw [e1]; simp only [List.append_assoc]
  have e5 : S = (m.nums.flatMap cntB ++ boolB m.y ++ boolB m.d ++ numB (UInt64.ofNat m.es.length) 4 ++ ensB m.es) ++ (textB m.pc ++ (boolB (decide (¬ m.mem = [])) ++ ((if m.mem = [] then [] else membB m.mem) ++ R))) := by rw [e1]; simp only [List.append_assoc]
  have e6 : S = (m.nums.flatMap cntB ++ boolB m.y ++ boolB m.d ++ numB (UInt64.ofNat m.es.length) 4 ++ ensB m.es ++ textB m.pc) ++ (boolB (decide (¬ m.mem = [])) ++ ((if m.mem = [] then [] else membB m.mem) ++ R)) := by rw [e1]; simp only [List.append_assoc]
  have e7 : S = (m.nums.flatMap cntB ++ boolB m.y ++ boolB m.d ++ numB (UInt64.ofNat m.es.length) 4 ++ ensB m.es ++ textB m.pc ++ boolB (decide (¬ m.mem = []))) ++ ((if m.mem = [] then [] else membB m.mem) ++ R) := by rw [e1]; simp only [List.append_assoc]
  obtain ⟨c1, c2⟩ := cn_back e0 h1 8 (by simp [Ms.nums])
  rw [List.length_nil] at c1 c2
  have a1 := ta_bool e1
  have a2 := ta_bool e2
  have a3 := ta_cnt (most := 16) e3 (by omega) (by omega)
  have a4 := takeEns_back m.es _ _ _ [] h3 e4
  have a5 := ta_txt (most := 200) e5 (by omega) (by omega)
  have a6 := ta_bool e6
  simp only [List.length_append, hlen, numB_len, boolB, List.length_singleton, textB] at a1 a2 a3 a4 a5 a6
  have b1 : q1 ⟨S, 0, 0⟩ = (⟨S, 33, 0⟩, m.y) := by unfold q1; rw [c1]; exact a1
  have b2 : q2 ⟨S, 0, 0⟩ = (⟨S, 34, 0⟩, m.d) := by unfold q2; rw [b1]; exact a2
  have b3 : q3 ⟨S, 0, 0⟩ = (⟨S, 38, 0⟩, m.es.length) := by unfold q3; rw [b2]; exact a3
  have b4 : q4 ⟨S, 0, 0⟩ = (⟨S, 38 + (ensB m.es).length, 0⟩, m.es.map En.norm) := by unfold q4; rw [b3]; exact a4
  have b5 : q5 ⟨S, 0, 0⟩ = (⟨S, 38 + (ensB m.es).length + (4 + m.pc.length), 0⟩, m.pc) := by unfold q5; rw [b4]; exact a5
  have b6 : q6 ⟨S, 0, 0⟩ = (⟨S, 38 + (ensB m.es).length + (4 + m.pc.length) + 1, 0⟩, decide (¬ m.mem = [])) := by unfold q6; rw [b5]; exact a6
  have hL : (msB m).length = 38 + (ensB m.es).length + (4 + m.pc.length) + 1 + (if m.mem = [] then [] else membB m.mem).length := by
    simp only [msB, List.length_append, hlen, numB_len, boolB, List.length_singleton, textB]
  have b7 : q7 ⟨S, 0, 0⟩ = (⟨S, (msB m).length, 0⟩, m.mem) := by
    unfold q7 mmOf
    rw [b6]
    by_cases hm : m.mem = []
    · simp [hm, hL]
    · rw [if_neg hm] at e7
      have a7 := takeMem_back (h5 hm) e7
      simp only [List.length_append, hlen, numB_len, boolB, List.length_singleton, textB] at a7
      simp only [hm, not_false_eq_true, decide_true, if_true]
      rw [a7, hL, if_neg hm]
  have hr : rawMs ⟨S, 0, 0⟩ = m.norm := by
    have g := fun i hi => c2 i hi
    unfold rawMs Ms.norm
    rw [b1, b2, b4, b5, b7, g 0 (by omega), g 1 (by omega), g 2 (by omega), g 3 (by omega), g 4 (by omega), g 5 (by omega), g 6 (by omega), g 7 (by omega)]
    rfl
  unfold takeMs
  rw [b7, hr]
  simp only [if_true]
theorem msB_norm (m : Ms) : msB m.norm = msB m := by
  have h : ensB (m.es.map En.norm) = ensB m.es := by
    unfold ensB
    rw [List.flatMap_map]
    congr 1
    funext e
    exact enB_norm e
  unfold msB Ms.norm Ms.nums
  simp only [h, List.length_map]
theorem okE_norm {e : En} (h : e.okE) : e.norm.okE := by
  obtain ⟨h1, h2, h3, h4⟩ := h
  unfold En.norm
  split
  · rename_i hc
    exact ⟨h1, h2, fun _ => h3 hc, by simp⟩
  · exact ⟨h1, h2, (fun c => by cases c), h4⟩
theorem okM_norm {m : Ms} (h : m.okM) : m.norm.okM := by
  obtain ⟨h1, h2, h3, h4, h5⟩ := h
  refine ⟨h1, by show (m.es.map _).length ≤ 16; rw [List.length_map]; exact h2, fun e he => ?_, h4, h5⟩
  obtain ⟨x, hx, rfl⟩ := List.mem_map.1 he
  exact okE_norm (h3 x hx)
end Go.Vm
