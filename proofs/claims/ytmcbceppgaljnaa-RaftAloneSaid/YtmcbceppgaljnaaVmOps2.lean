/- Each operation of the machine over values does what the given model's does: reckoning, places, texts. -/
import Derived.Test.YtmcbceppgaljnaaVmOps
set_option linter.unusedSectionVars false
set_option linter.unusedSimpArgs false
set_option linter.unusedVariables false
namespace Go.Vm
variable {P : Program} {w0 w : World} {S0 : Terr} {ρ : Ren} {pin : Pin} {σ : Store} {a : Act} {t : Nat → V}

theorem upds_nil (σ : Store) : upds σ [] = σ := rfl
theorem upds_one (σ : Store) (p : Nat × Blk) : upds σ [p] = upd σ p.1 p.2 := rfl
theorem upds_append (σ : Store) (l m : List (Nat × Blk)) : upds σ (l ++ m) = upds (upds σ l) m := by simp [upds]

/-- A pure operation's answer. -/
theorem done_pure {r : Res} {v : V} {c : Value} {s : Sem Value} (hS : Sim w0 S0 ρ pin σ w) (hr : (some ⟨v, [], []⟩ : Option Res) = some r) (hR : R ρ pin v c) (hrun : s.run P w = .ok c w) :
    Done w0 S0 ρ pin (upds σ r.wr) r.val ((do pure (.value (← s)) : Sem Next).run P w) := by
  cases hr
  exact ⟨ρ, pin, w, c, RExt.refl _, PExt.refl _, hS, hR, .inl (by simp [hrun])⟩
theorem done_read {r : Res} {v : V} {c : Value} {ids : List Nat} {s : Sem Value} (hS : Sim w0 S0 ρ pin σ w) (hr : (some ⟨v, [], ids⟩ : Option Res) = some r) (hR : R ρ pin v c) (hrun : s.run P w = .ok c w) :
    Done w0 S0 ρ pin (upds σ r.wr) r.val ((do pure (.value (← s)) : Sem Next).run P w) := by
  cases hr
  exact ⟨ρ, pin, w, c, RExt.refl _, PExt.refl _, hS, hR, .inl (by simp [hrun])⟩

theorem R.int_inv {k : IntKind} {n : Int} {c : Value} (h : R ρ pin (.int k n) c) : c = .int k n := by cases h; rfl
theorem R.bool_inv {b : Bool} {c : Value} (h : R ρ pin (.bool b) c) : c = .bool b := by cases h; rfl
theorem R.str_inv {l : List UInt8} {c : Value} (h : R ρ pin (.str l) c) : c = .string ⟨l.toArray⟩ := by cases h; rfl
theorem R.nilp_inv {c : Value} (h : R ρ pin .nilp c) : c = .pointer none := by cases h; rfl
theorem R.nilfn_inv {c : Value} (h : R ρ pin .nilfn c) : c = .nilFunc := by cases h; rfl
theorem R.ptr_inv {id g off : Nat} {c : Value} (h : R ρ pin (.ptr id g off) c) : ∃ e, ρ id g = some e ∧ e.mp = false ∧ c = .pointer (some ⟨e.b, e.base + off, none⟩) := by cases h with | ptr _ _ _ e he hm => exact ⟨e, he, hm, rfl⟩
theorem R.pt_inv {cs : List V} {off : Nat} {c : Value} (h : R ρ pin (.pt cs off) c) : ∃ b bs arr el fz, c = .pointer (some ⟨b, bs + off, none⟩) ∧ pin b = some (.cells arr el fz) ∧ bs + cs.length ≤ arr.size ∧
    (∀ v ∈ cs, v.one = true ∧ NoRef v) ∧ (∀ (j : Nat) (v : V) (c : Value), cs[j]? = some v → arr[bs + j]? = some c → R ρ pin v c) := by
  cases h with | pt _ _ b bs arr el fz hp hs h1 hh => exact ⟨b, bs, arr, el, fz, rfl, hp, hs, h1, hh⟩

section pures
variable (hs : Slots ρ pin t a) (hS : Sim w0 S0 ρ pin σ w) {tbl : Tbl} {base : Nat} {r : Res}
include hs hS

theorem op_pick {c x y : Operand} {c' x' y' : Opd} (hc : opd c = some c') (hx : opd x = some x') (hy : opd y = some y') (hr : insV tbl base t σ (.pick c' x' y') = some r) :
    Done w0 S0 ρ pin (upds σ r.wr) r.val ((do pure (.value (if ← asBool (a.eval c) then a.eval x else a.eval y)) : Sem Next).run P w) := by
  have h1 := opd_sound hs hc
  unfold insV at hr
  simp only at hr
  split at hr
  · rename_i hev
    rw [hev] at h1
    rw [h1.bool_inv]
    cases hr
    exact ⟨ρ, pin, w, _, RExt.refl _, PExt.refl _, hS, opd_sound hs hx, .inl (by simp [asBool])⟩
  · rename_i hev
    rw [hev] at h1
    rw [h1.bool_inv]
    cases hr
    exact ⟨ρ, pin, w, _, RExt.refl _, PExt.refl _, hS, opd_sound hs hy, .inl (by simp [asBool])⟩
  · cases hr

theorem op_chk {x : Operand} {y : Opd} (h : opd x = some y) (hr : insV tbl base t σ (.chk y) = some r) {o : Oper} (ho : o.op = .nilCheck x) :
    Done w0 S0 ρ pin (upds σ r.wr) r.val ((execOp a.eval o).run P w) := by
  have h1 := opd_sound hs h
  unfold insV at hr
  simp only at hr
  split at hr
  · rename_i id g off hev
    rw [hev] at h1
    obtain ⟨e, he, hm, hc⟩ := h1.ptr_inv
    cases hr
    rw [hev] at *
    exact ⟨ρ, pin, w, _, RExt.refl _, PExt.refl _, hS, h1, .inl (by simp [execOp, ho, hc])⟩
  · rename_i cs off hev
    rw [hev] at h1
    obtain ⟨b, bs, arr, el, fz, hc, _⟩ := h1.pt_inv
    cases hr
    exact ⟨ρ, pin, w, _, RExt.refl _, PExt.refl _, hS, h1, .inl (by simp [execOp, ho, hc])⟩
  · cases hr

theorem op_fad {s : TypeId} {fs : Array Field} {i : Nat} {f : Field} {n : Nat} {x : Operand} {y : Opd} (hu : P.underlying s = some (.struct fs)) (hf : fs[i]? = some f) (hn : szC P f.type = some n) (h0 : 0 < n) (h : opd x = some y)
    (hr : insV tbl base t σ (.fad f.offset y) = some r) : Done w0 S0 ρ pin (upds σ r.wr) r.val ((do pure (.value (← Instr.fieldAt s (a.eval x) i)) : Sem Next).run P w) := by
  have h1 := opd_sound hs h
  unfold insV at hr
  simp only at hr
  have key : ∀ b o, (Instr.fieldAt s (.pointer (some ⟨b, o, none⟩)) i).run P w = .ok (.pointer (some ⟨b, o + f.offset, none⟩)) w := fun b o => by
    simp [Instr.fieldAt, run_under hu, hf, Instr.sureAddr, fieldPlace, szC_some hn, addr_add, Nat.ne_of_gt h0]
  split at hr
  · rename_i id g off hev
    rw [hev] at h1
    obtain ⟨e, he, hm, hc⟩ := h1.ptr_inv
    rw [hc]
    refine done_pure hS hr (.ptr id g (off + f.offset) e he hm) ?_
    rw [key, Nat.add_assoc]
  · rename_i cs off hev
    rw [hev] at h1
    obtain ⟨b, bs, arr, el, fz, hc, hp, hz, h1', hh⟩ := h1.pt_inv
    rw [hc]
    refine done_pure hS hr (.pt cs (off + f.offset) b bs arr el fz hp hz h1' hh) ?_
    rw [key, Nat.add_assoc]
  · cases hr

omit hs hS in
/-- A part of a struct or an array that is a value. -/
theorem run_part {ty : TypeId} {g : Bool} {n off : Nat} {arr : Array Value} (hg : aggC P ty = some g) (hn : szC P ty = some n) (hg1 : g = true ∨ n = 1) (hl : off + n ≤ arr.size) :
    ∃ c, (part ty arr off).run P w = .ok c w ∧ (g = true → c = .agg ((arr.toList.drop (0 + off)).take n).toArray) ∧ (g = false → arr[0 + off]? = some c) := by
  unfold part
  simp only [Sem.run_bind, aggC_some hg w, Result.andThen_ok, Nat.zero_add]
  cases g with
  | true =>
    refine ⟨.agg (arr.extract off (off + n)), by simp [szC_some hn], fun _ => ?_, by simp⟩
    congr 1
    apply Array.ext'
    simp
  | false =>
    obtain rfl : n = 1 := by simpa using hg1
    refine ⟨arr[off], ?_, by simp, fun _ => Array.getElem?_eq_getElem (by omega)⟩
    simp [Array.getElem?_eq_getElem (by omega : off < arr.size)]
theorem op_fld {s : TypeId} {fs : Array Field} {i : Nat} {f : Field} {g : Bool} {n : Nat} {x : Operand} {y : Opd} (hu : P.underlying s = some (.struct fs)) (hf : fs[i]? = some f) (hg : aggC P f.type = some g) (hn : szC P f.type = some n) (hg1 : g = true ∨ n = 1)
    (h : opd x = some y) (hr : insV tbl base t σ (.fld g f.offset n y) = some r) : Done w0 S0 ρ pin (upds σ r.wr) r.val ((do pure (.value (← Instr.field s (a.eval x) i)) : Sem Next).run P w) := by
  have h1 := opd_sound hs h
  unfold insV at hr
  simp only at hr
  split at hr
  · rename_i cs hev
    rw [hev] at h1
    split at hr
    · rename_i hle
      generalize a.eval x = c0 at h1
      cases h1 with
      | agg _ arr hl h1' hh =>
        obtain ⟨c, k1, k2, k3⟩ := run_part (P := P) (w := w) hg hn hg1 (by omega : f.offset + n ≤ arr.size)
        have hv : (if g = true then some (V.agg ((cs.drop f.offset).take n)) else cs[f.offset]?) = some r.val ∧ r.wr = [] := by
          cases g with
          | true => simp at hr; rw [← hr]; exact ⟨rfl, rfl⟩
          | false => simp [Option.bind_eq_some_iff] at hr; obtain ⟨v, hv, rfl⟩ := hr; exact ⟨by simpa using hv, rfl⟩
        rw [hv.2]
        refine ⟨ρ, pin, w, c, RExt.refl _, PExt.refl _, hS, load_R (base := 0) (by omega) hle h1' (fun j v c a b => hh j v c a (by simpa using b)) hv.1 k2 k3, .inl ?_⟩
        simp [Instr.field, run_under hu, hf, asAgg, k1]
    · cases hr
  · cases hr

theorem op_ixA {s e : TypeId} {m : Nat} {g : Bool} {n : Nat} {x i : Operand} {y j : Opd} (hu : P.underlying s = some (.array m e)) (hg : aggC P e = some g) (hn : szC P e = some n) (hg1 : g = true ∨ n = 1)
    (hx : opd x = some y) (hi : opd i = some j) (hr : insV tbl base t σ (.ixA g m n y j) = some r) : Done w0 S0 ρ pin (upds σ r.wr) r.val ((do pure (.value (← Instr.index s (a.eval x) (a.eval i))) : Sem Next).run P w) := by
  have h1 := opd_sound hs hx
  have h2 := opd_sound hs hi
  unfold insV at hr
  simp only at hr
  split at hr
  · rename_i cs k q hev hev2
    rw [hev] at h1
    rw [hev2] at h2
    rw [h2.int_inv]
    split at hr
    · rename_i hle
      generalize a.eval x = c0 at h1
      cases h1 with
      | agg _ arr hl h1' hh =>
        obtain ⟨c, k1, k2, k3⟩ := run_part (P := P) (w := w) hg hn hg1 (by omega : q.toNat * n + n ≤ arr.size)
        have hv : (if g = true then some (V.agg ((cs.drop (q.toNat * n)).take n)) else cs[q.toNat * n]?) = some r.val ∧ r.wr = [] := by
          cases g with
          | true => simp at hr; rw [← hr]; exact ⟨rfl, rfl⟩
          | false => simp [Option.bind_eq_some_iff] at hr; obtain ⟨v, hv, rfl⟩ := hr; exact ⟨by simpa using hv, rfl⟩
        rw [hv.2]
        refine ⟨ρ, pin, w, c, RExt.refl _, PExt.refl _, hS, load_R (base := 0) (by omega) hle.2.2 h1' (fun j v c a b => hh j v c a (by simpa using b)) hv.1 k2 k3, .inl ?_⟩
        simp [Instr.index, asIntOf, run_under hu, hle.1, hle.2.1, szC_some hn, k1]
    · cases hr
  · cases hr

theorem op_ixS {s : TypeId} {x i : Operand} {y j : Opd} (hu : P.underlying s = some .string) (hx : opd x = some y) (hi : opd i = some j) (hr : insV tbl base t σ (.ixS y j) = some r) :
    Done w0 S0 ρ pin (upds σ r.wr) r.val ((do pure (.value (← Instr.index s (a.eval x) (a.eval i))) : Sem Next).run P w) := by
  have h1 := opd_sound hs hx
  have h2 := opd_sound hs hi
  unfold insV at hr
  simp only at hr
  split at hr
  · rename_i l k q hev hev2
    rw [hev] at h1
    rw [hev2] at h2
    rw [h2.int_inv, h1.str_inv]
    split at hr
    · rename_i h0
      simp only [Option.bind_eq_some_iff] at hr
      obtain ⟨b, hb, hr⟩ := hr
      have hlt : q.toNat < l.length := by
        rcases Nat.lt_or_ge q.toNat l.length with h' | h'
        · exact h'
        · rw [List.getElem?_eq_none h'] at hb; cases hb
      refine done_pure hS hr (.int .u8 (b.toNat : Int)) ?_
      have hb' : (ByteArray.mk l.toArray)[q.toNat]? = some b := by
        rw [List.getElem?_eq_getElem hlt] at hb
        have hsz : q.toNat < (ByteArray.mk l.toArray).size := hlt
        rw [getElem?_pos (ByteArray.mk l.toArray) q.toNat hsz]
        exact congrArg some (Option.some.inj hb)
      simp [Instr.index, asIntOf, run_under hu, h0, hb']
    · cases hr
  · cases hr

theorem op_ext {x : Operand} {y : Opd} {i : Nat} (h : opd x = some y) (hr : insV tbl base t σ (.ext i y) = some r) : Done w0 S0 ρ pin (upds σ r.wr) r.val ((do pure (.value (← Instr.extract (a.eval x) i)) : Sem Next).run P w) := by
  have h1 := opd_sound hs h
  unfold insV at hr
  simp only at hr
  split at hr
  · rename_i vs hev
    rw [hev] at h1
    simp only [Option.bind_eq_some_iff] at hr
    obtain ⟨v, hv, hr⟩ := hr
    generalize a.eval x = c0 at h1
    cases h1 with
    | tup _ arr hl hh =>
      have hlt : i < vs.length := by
        rcases Nat.lt_or_ge i vs.length with h' | h'
        · exact h'
        · rw [List.getElem?_eq_none h'] at hv; cases hv
      have hc : arr[i]? = some arr[i] := Array.getElem?_eq_getElem (by omega)
      refine done_pure hS hr (hh i v _ hv hc) ?_
      simp [Instr.extract, hc]
  · cases hr

theorem op_toInt {sT dT : TypeId} {k0 k : IntKind} {x : Operand} {y : Opd} (hu : P.underlying sT = some (.int k0)) (hd : P.underlying dT = some (.int k)) (h : opd x = some y) (hr : insV tbl base t σ (.toInt k y) = some r) :
    Done w0 S0 ρ pin (upds σ r.wr) r.val ((do pure (.value (← convert sT dT (a.eval x))) : Sem Next).run P w) := by
  have h1 := opd_sound hs h
  unfold insV at hr
  simp only at hr
  split at hr
  · rename_i k' n hev
    rw [hev] at h1
    rw [h1.int_inv]
    refine done_pure hS hr (.int k (k.wrap n)) ?_
    simp [convert, run_under hu, run_under hd, Conv.intToInt]
  · cases hr

theorem op_mm {mx : Bool} {x y : Operand} {x' y' : Opd} (hx : opd x = some x') (hy : opd y = some y') (hr : insV tbl base t σ (.mm mx x' y') = some r) (ts : Array TypeId) (ty : TypeId) :
    Done w0 S0 ρ pin (upds σ r.wr) r.val ((do pure (.value (← (if mx then Builtin.max_ ts ty #[a.eval x, a.eval y] else Builtin.min_ ts ty #[a.eval x, a.eval y]))) : Sem Next).run P w) := by
  have h1 := opd_sound hs hx
  have h2 := opd_sound hs hy
  unfold insV at hr
  simp only at hr
  split at hr
  · rename_i k u k' v hev hev2
    rw [hev] at h1
    rw [hev2] at h2
    rw [h1.int_inv, h2.int_inv]
    split at hr
    · cases mx with
      | true => exact done_pure hS hr (.int k _) (by simp [run_max_int2])
      | false => exact done_pure hS hr (.int k _) (by simp [run_min_int2])
    · cases hr
  · cases hr

theorem op_clo {f : FuncId} {caps : Array Operand} {cs : List Opd} (h : mapO opd caps.toList = some cs) (hr : insV tbl base t σ (.clo f cs) = some r) :
    Done w0 S0 ρ pin (upds σ r.wr) r.val ((do pure (.value (← Instr.makeFunc (.func f) #[] (caps.map a.eval))) : Sem Next).run P w) := by
  have h1 := opds_sound hs h
  unfold insV at hr
  simp only at hr
  refine done_pure hS hr (.fn f _ (caps.map a.eval) (by simpa using h1.len) fun j v c hj hc => h1.at_ j v c hj (by simpa using hc)) ?_
  simp [Instr.makeFunc]

theorem op_iaA {s e : TypeId} {m n : Nat} {x i : Operand} {y j : Opd} (hu : P.underlying s = some (.array m e)) (hn : szC P e = some n) (hx : opd x = some y) (hi : opd i = some j) (hr : insV tbl base t σ (.iaA m n y j) = some r) :
    Done w0 S0 ρ pin (upds σ r.wr) r.val ((do pure (.value (← Instr.indexAt s (a.eval x) (a.eval i))) : Sem Next).run P w) := by
  have h1 := opd_sound hs hx
  have h2 := opd_sound hs hi
  unfold insV at hr
  simp only at hr
  have key : ∀ b o k (q : Int), 0 ≤ q ∧ q < (m : Int) → (Instr.indexAt s (.pointer (some ⟨b, o, none⟩)) (.int k q)).run P w = .ok (.pointer (some ⟨b, o + q.toNat * n, none⟩)) w := fun b o k q hq => by
    simp [Instr.indexAt, asIntOf, run_under hu, Instr.sureAddr, hq.1, hq.2, szC_some hn, addr_add]
  split at hr
  · rename_i id g off k q hev hev2
    rw [hev] at h1
    rw [hev2] at h2
    rw [h2.int_inv]
    obtain ⟨e', he, hm, hc⟩ := h1.ptr_inv
    rw [hc]
    split at hr
    · rename_i hq
      refine done_pure hS hr (.ptr id g (off + q.toNat * n) e' he hm) ?_
      rw [key _ _ _ _ hq, Nat.add_assoc]
    · cases hr
  · rename_i cs off k q hev hev2
    rw [hev] at h1
    rw [hev2] at h2
    rw [h2.int_inv]
    obtain ⟨b, bs, arr, el, fz, hc, hp, hz, h1', hh⟩ := h1.pt_inv
    rw [hc]
    split at hr
    · rename_i hq
      refine done_pure hS hr (.pt cs (off + q.toNat * n) b bs arr el fz hp hz h1' hh) ?_
      rw [key _ _ _ _ hq, Nat.add_assoc]
    · cases hr
  · cases hr

theorem op_iaL {s e : TypeId} {n : Nat} {x i : Operand} {y j : Opd} (hu : P.underlying s = some (.slice e)) (hn : szC P e = some n) (hx : opd x = some y) (hi : opd i = some j) (hr : insV tbl base t σ (.iaL n y j) = some r) :
    Done w0 S0 ρ pin (upds σ r.wr) r.val ((do pure (.value (← Instr.indexAt s (a.eval x) (a.eval i))) : Sem Next).run P w) := by
  have h1 := opd_sound hs hx
  have h2 := opd_sound hs hi
  unfold insV at hr
  simp only at hr
  have key : ∀ (b o len cap : Nat) k (q : Int), 0 ≤ q ∧ q < (len : Int) → (Instr.indexAt s (.slice (some ⟨b, o, none⟩) len cap) (.int k q)).run P w = .ok (.pointer (some ⟨b, o + q.toNat * n, none⟩)) w := fun b o len cap k q hq => by
    simp [Instr.indexAt, asIntOf, run_under hu, hq.1, hq.2, szC_some hn, addr_add]
  split at hr
  · rename_i id g off len es k q hev hev2
    rw [hev] at h1
    rw [hev2] at h2
    rw [h2.int_inv]
    split at hr
    · rename_i hq
      generalize a.eval x = c0 at h1
      cases h1 with
      | sli _ _ _ _ _ cap e' adr he hm hn' hc hl =>
        obtain ⟨rfl, _⟩ := hc (by omega)
        refine done_pure hS hr (.ptr id g (off + q.toNat * n) e' he hm) ?_
        rw [key _ _ _ _ _ _ ⟨hq.1, hq.2.1⟩, Nat.add_assoc]
    · cases hr
  · rename_i sk len cs k q hev hev2
    rw [hev] at h1
    rw [hev2] at h2
    rw [h2.int_inv]
    split at hr
    · rename_i hq
      generalize a.eval x = c0 at h1
      cases h1 with
      | slnil => omega
      | slzero => omega
      | slro _ _ adr cap arr el fz hn' h0 hp h1' hh =>
        have hlen : len ≠ 0 := by omega
        obtain ⟨p1, p2, p3⟩ := hp hlen
        obtain ⟨b, o, sp⟩ := adr
        simp only at p1 p2 p3 hh
        subst p1
        refine done_pure hS hr (.pt cs (q.toNat * n) b o arr el fz p2 p3 h1' hh) ?_
        rw [key _ _ _ _ _ _ hq]
    · cases hr
  · cases hr
end pures
end Go.Vm
