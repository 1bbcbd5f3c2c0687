/- Each operation of the machine over values does what the given model's does: numbers, texts, tests, slicing. -/
import Derived.Test.YtmcbceppgaljnaaVmOps2
import Derived.Laws.Concat
import Derived.Laws.Strings2
set_option linter.unusedSectionVars false
set_option linter.unusedSimpArgs false
set_option linter.unusedVariables false
namespace Go.Vm
variable {P : Program} {w0 w : World} {S0 : Terr} {ρ : Ren} {pin : Pin} {σ : Store} {a : Act} {t : Nat → V}

theorem run_binInt {op : BinOp} {T : TypeId} {k k' : IntKind} {x y : Int} {v : V} (h : binV op (.int k x) (.int k' y) = some v) :
    ∃ c, (binOp op T (.int k x) (.int k' y)).run P w = .ok c w ∧ R ρ pin v c := by
  cases op <;> simp only [binV] at h
  case shl =>
    split at h
    · rename_i h0
      cases h
      exact ⟨_, by simp [binOp, Op.shift, show ¬ y < 0 by omega], .int _ _⟩
    · cases h
  case shr =>
    split at h
    · rename_i h0
      cases h
      exact ⟨_, by simp [binOp, Op.shift, show ¬ y < 0 by omega], .int _ _⟩
    · cases h
  all_goals
    split at h
    · rename_i hk
      subst hk
      simp only [intV] at h
      first
        | (cases h; refine ⟨_, by simp [binOp, Op.intArith, Op.intCmp, intBits_and, intBits_or, intBits_xor, intBits_andNot]; rfl, ?_⟩; first | exact .int _ _ | exact .bool _)
        | (split at h
           · cases h
           · rename_i hb
             cases h
             exact ⟨_, by simp [binOp, Op.intDiv, hb], .int _ _⟩)
    · cases h

theorem run_binStr {op : BinOp} {T : TypeId} {x y : List UInt8} {v : V} (h : binV op (.str x) (.str y) = some v) :
    ∃ c, (binOp op T (.string ⟨x.toArray⟩) (.string ⟨y.toArray⟩)).run P w = .ok c w ∧ R ρ pin v c := by
  simp only [binV] at h
  cases op <;> simp only [strV] at h
  case add =>
    split at h
    · rename_i hl
      cases h
      refine ⟨_, ?_, .str (x ++ y)⟩
      have hz : ¬ ((((ByteArray.mk x.toArray).size + (ByteArray.mk y.toArray).size : Nat) : Int) > IntKind.i64.max) := by
        rw [IntKind.max_i64]
        simp only [ByteArray.size, List.size_toArray]
        omega
      simp only [binOp, Op.stringOp]
      rw [if_neg hz, ByteArray.mk_append_mk]
      rfl
    · cases h
  all_goals first
    | (cases h; refine ⟨_, ?_, .bool _⟩; simp [binOp, Op.stringOp]; done)
    | cases h

/-- No guard at values other than nil interfaces and structs. -/
def plainB : Value → Bool
  | .nilIface | .agg _ => false
  | _ => true
theorem eqGuard_plain {op : BinOp} {T : TypeId} {x y : Operand} {u v : Value} (h : plainB u = true) : (eqGuard op T x y u v) = (pure () : Sem Unit) := by
  cases op <;> first | rfl | (cases u <;> first | rfl | (simp [plainB] at h; done))
theorem run_execBin {op : BinOp} {T U : TypeId} {x y : Operand} {o : Oper} (ho : o.op = .binOp op T x y U) {c : Value} (hp : plainB (a.eval x) = true) (h : (binOp op T (a.eval x) (a.eval y)).run P w = .ok c w) :
    (execOp a.eval o).run P w = .ok (.value c) w := by
  have : execOp a.eval o = ((do pure (.value (← (do eqGuard op T x y (a.eval x) (a.eval y); binOp op T (a.eval x) (a.eval y) : Sem Value))) : Sem Next)) := by simp [execOp, ho]
  rw [this, eqGuard_plain hp, Sem.run_bind, Sem.run_bind]
  simp [h]

theorem run_equal1 {T : TypeId} {x y : Value} {b : Bool} (h : (Op.equalIn (9999 + 1) T x y).run P w = .ok b w) : (Op.equal T x y).run P w = .ok b w := h
theorem run_eqlB {T : TypeId} {x y : Value} {b neg : Bool} (hx : match x with | .int _ _ | .float _ _ | .complex _ _ _ | .string _ => False | _ => True) (h : (Op.equal T x y).run P w = .ok b w) :
    (binOp (if neg then .neq else .eql) T x y).run P w = .ok (.bool (if neg then !b else b)) w := by
  cases neg <;> cases x <;> simp_all [binOp]

section
variable (hs : Slots ρ pin t a) (hS : Sim w0 S0 ρ pin σ w) {tbl : Tbl} {base : Nat} {r : Res}
include hs hS

theorem op_bin {op : BinOp} {T U : TypeId} {x y : Operand} {x' y' : Opd} (hx : opd x = some x') (hy : opd y = some y') (hr : insV tbl base t σ (.bin op x' y') = some r) {o : Oper} (ho : o.op = .binOp op T x y U) :
    Done w0 S0 ρ pin (upds σ r.wr) r.val ((execOp a.eval o).run P w) := by
  have h1 := opd_sound hs hx
  have h2 := opd_sound hs hy
  unfold insV at hr
  simp only [Option.bind_eq_some_iff] at hr
  obtain ⟨v, hv, hr⟩ := hr
  cases hr
  generalize x'.ev t = u at *
  generalize y'.ev t = u' at *
  unfold binV at hv
  split at hv
  · rename_i k n k' n'
    obtain ⟨c, hc, hR⟩ := run_binInt (P := P) (w := w) (ρ := ρ) (pin := pin) (T := T) (show binV op (.int k n) (.int k' n') = some v from hv)
    have e1 := h1.int_inv
    have e2 := h2.int_inv
    exact ⟨ρ, pin, w, c, RExt.refl _, PExt.refl _, hS, hR, .inl (run_execBin ho (by rw [e1]; rfl) (by rw [e1, e2]; exact hc))⟩
  · rename_i l l'
    obtain ⟨c, hc, hR⟩ := run_binStr (P := P) (w := w) (ρ := ρ) (pin := pin) (T := T) (show binV op (.str l) (.str l') = some v from hv)
    have e1 := h1.str_inv
    have e2 := h2.str_inv
    exact ⟨ρ, pin, w, c, RExt.refl _, PExt.refl _, hS, hR, .inl (run_execBin ho (by rw [e1]; rfl) (by rw [e1, e2]; exact hc))⟩
  · cases hv

theorem op_eqn {neg : Bool} {k : EqK} {T U : TypeId} {x y : Operand} {x' y' : Opd} (hx : opd x = some x') (hy : opd y = some y') (hr : insV tbl base t σ (.eqn neg k x' y') = some r)
    {o : Oper} (ho : o.op = .binOp (if neg then .neq else .eql) T x y U) (hT : match k with
      | .bool => P.underlying T = some .bool
      | .ptr => ∃ e, P.underlying T = some (.pointer e)
      | .sl => ∃ e, P.underlying T = some (.slice e)
      | .fn => ∃ p q v, P.underlying T = some (.func p q v)) :
    Done w0 S0 ρ pin (upds σ r.wr) r.val ((execOp a.eval o).run P w) := by
  have h1 := opd_sound hs hx
  have h2 := opd_sound hs hy
  unfold insV at hr
  simp only [Option.bind_eq_some_iff] at hr
  obtain ⟨b, hv, hr⟩ := hr
  cases hr
  generalize x'.ev t = u at *
  generalize y'.ev t = u' at *
  have fin : plainB (a.eval x) = true → (match a.eval x with | .int _ _ | .float _ _ | .complex _ _ _ | .string _ => False | _ => True) → (Op.equal T (a.eval x) (a.eval y)).run P w = .ok b w → Done w0 S0 ρ pin (upds σ []) (.bool (if neg then !b else b)) ((execOp a.eval o).run P w) := fun p1 p2 p3 =>
    ⟨ρ, pin, w, _, RExt.refl _, PExt.refl _, hS, .bool _, .inl (run_execBin ho p1 (run_eqlB p2 p3))⟩
  unfold eqV at hv
  split at hv <;> simp only [Option.some.injEq, reduceCtorEq] at hv
  · -- bool
    subst hv
    have e1 := h1.bool_inv
    have e2 := h2.bool_inv
    refine fin (by rw [e1]; rfl) (by rw [e1]; trivial) (run_equal1 ?_)
    rw [e1, e2, Op.equalIn]
    simp [run_under hT]
  all_goals
    subst hv
  · obtain ⟨e, hT⟩ := hT
    have e1 := h1.nilp_inv
    have e2 := h2.nilp_inv
    refine fin (by rw [e1]; rfl) (by rw [e1]; trivial) (run_equal1 ?_)
    rw [e1, e2, Op.equalIn]
    simp [run_under hT]
  · obtain ⟨e, hT⟩ := hT
    have e1 := h1.nilp_inv
    obtain ⟨_, _, _, e2⟩ := h2.ptr_inv
    refine fin (by rw [e1]; rfl) (by rw [e1]; trivial) (run_equal1 ?_)
    rw [e1, e2, Op.equalIn]
    simp [run_under hT]
  · obtain ⟨e, hT⟩ := hT
    have e1 := h1.nilp_inv
    obtain ⟨_, _, _, _, _, e2, _⟩ := h2.pt_inv
    refine fin (by rw [e1]; rfl) (by rw [e1]; trivial) (run_equal1 ?_)
    rw [e1, e2, Op.equalIn]
    simp [run_under hT]
  · obtain ⟨e, hT⟩ := hT
    obtain ⟨_, _, _, e1⟩ := h1.ptr_inv
    have e2 := h2.nilp_inv
    refine fin (by rw [e1]; rfl) (by rw [e1]; trivial) (run_equal1 ?_)
    rw [e1, e2, Op.equalIn]
    simp [run_under hT]
  · obtain ⟨e, hT⟩ := hT
    obtain ⟨_, _, _, _, _, e1, _⟩ := h1.pt_inv
    have e2 := h2.nilp_inv
    refine fin (by rw [e1]; rfl) (by rw [e1]; trivial) (run_equal1 ?_)
    rw [e1, e2, Op.equalIn]
    simp [run_under hT]
  · obtain ⟨e, hT⟩ := hT
    generalize hc1 : a.eval x = c1 at *
    generalize hc2 : a.eval y = c2 at *
    cases h1
    cases h2 <;> (refine fin rfl trivial (run_equal1 ?_); rw [Op.equalIn]; simp [run_under hT])
  · obtain ⟨e, hT⟩ := hT
    generalize hc1 : a.eval x = c1 at *
    generalize hc2 : a.eval y = c2 at *
    cases h2
    cases h1 <;> (refine fin rfl trivial (run_equal1 ?_); rw [Op.equalIn]; simp [run_under hT])
  · obtain ⟨e, hT⟩ := hT
    generalize hc1 : a.eval x = c1 at *
    generalize hc2 : a.eval y = c2 at *
    cases h1
    cases h2
    refine fin rfl trivial (run_equal1 ?_)
    rw [Op.equalIn]
    simp [run_under hT]
  · obtain ⟨e, hT⟩ := hT
    generalize hc1 : a.eval x = c1 at *
    generalize hc2 : a.eval y = c2 at *
    cases h2
    cases h1
    refine fin rfl trivial (run_equal1 ?_)
    rw [Op.equalIn]
    simp [run_under hT]
  · obtain ⟨_, _, _, hT⟩ := hT
    have e1 := h1.nilfn_inv
    have e2 := h2.nilfn_inv
    refine fin (by rw [e1]; rfl) (by rw [e1]; trivial) (run_equal1 ?_)
    rw [e1, e2, Op.equalIn]
    simp [run_under hT]
  · obtain ⟨_, _, _, hT⟩ := hT
    generalize hc1 : a.eval x = c1 at *
    generalize hc2 : a.eval y = c2 at *
    cases h1
    cases h2
    refine fin rfl trivial (run_equal1 ?_)
    rw [Op.equalIn]
    simp [run_under hT]
  · obtain ⟨_, _, _, hT⟩ := hT
    generalize hc1 : a.eval x = c1 at *
    generalize hc2 : a.eval y = c2 at *
    cases h1
    cases h2
    refine fin rfl trivial (run_equal1 ?_)
    rw [Op.equalIn]
    simp [run_under hT]

theorem op_un {op : UnOp} {x : Operand} {y : Opd} (h : opd x = some y) (hr : insV tbl base t σ (.un op y) = some r) : Done w0 S0 ρ pin (upds σ r.wr) r.val ((do pure (.value (← Op.unary op (a.eval x))) : Sem Next).run P w) := by
  have h1 := opd_sound hs h
  unfold insV at hr
  simp only [Option.bind_eq_some_iff] at hr
  obtain ⟨v, hv, hr⟩ := hr
  generalize y.ev t = u at *
  unfold unV at hv
  split at hv <;> simp only [Option.some.injEq, reduceCtorEq] at hv
  · subst hv
    rw [h1.int_inv]
    exact done_pure hS hr (.int _ _) (by simp [unary_neg, Op.intArith])
  · subst hv
    rw [h1.int_inv]
    exact done_pure hS hr (.int _ _) (by simp [unary_xor, intBits_xor])
  · subst hv
    rw [h1.bool_inv]
    exact done_pure hS hr (.bool _) (by simp [unary_not])

end
end Go.Vm
