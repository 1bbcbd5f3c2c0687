/- All operations of the machine over values that call no function, in one sentence. -/
import Derived.Test.YtmcbceppgaljnaaVmOps8
import Derived.Lib.Bytealg
import Derived.Laws.Externs
set_option linter.unusedSectionVars false
set_option linter.unusedSimpArgs false
set_option linter.unusedVariables false
namespace Go.Vm
variable {P : Program} {w0 w : World} {S0 : Terr} {ρ : Ren} {pin : Pin} {σ : Store} {a : Act} {t : Nat → V}

def Ins.calls : Ins → Bool
  | .call _ _ | .callv _ _ => true
  | _ => false

theorem list1 {α : Type} {x : Array α} {a : α} (h : x.toList = [a]) : x = #[a] := by cases x; simp_all
theorem list2 {α : Type} {x : Array α} {a b : α} (h : x.toList = [a, b]) : x = #[a, b] := by cases x; simp_all

theorem map1 {α β : Type} (f : α → β) (x : α) : (#[x] : Array α).map f = #[f x] := by simp
theorem map2 {α β : Type} (f : α → β) (x y : α) : (#[x, y] : Array α).map f = #[f x, f y] := by simp

theorem ins_sound0 (hs : Slots ρ pin t a) (hS : Sim w0 S0 ρ pin σ w) {tbl : Tbl} {base : Nat} {r : Res} {o : Oper} {i : Ins} (hc : compOp0 P o.op = some i) (hn : i.calls = false) (hr : insV tbl base t σ i = some r) :
    Done w0 S0 ρ pin (upds σ r.wr) r.val ((execOp a.eval o).run P w) := by
  cases hop : o.op with
  | move x =>
    rw [hop] at hc
    simp only [compOp0, Option.map_eq_some_iff] at hc
    obtain ⟨y, hy, rfl⟩ := hc
    cases hr
    have e : (execOp a.eval o) = Pure.pure (Next.value (a.eval x)) := by simp [execOp, hop]
    rw [e]
    exact op_mov hs hS hy
  | assign x =>
    rw [hop] at hc
    simp only [compOp0, Option.map_eq_some_iff] at hc
    obtain ⟨y, hy, rfl⟩ := hc
    cases hr
    have e : (execOp a.eval o) = Pure.pure (Next.value (a.eval x)) := by simp [execOp, hop]
    rw [e]
    exact op_mov hs hS hy
  | pick c x y =>
    rw [hop] at hc
    simp only [compOp0, Option.bind_eq_some_iff, Option.map_eq_some_iff] at hc
    obtain ⟨c', h1, x', h2, y', h3, rfl⟩ := hc
    have e : (execOp a.eval o) = (do pure (.value (if ← asBool (a.eval c) then a.eval x else a.eval y)) : Sem Next) := by simp [execOp, hop]
    rw [e]
    exact op_pick hs hS h1 h2 h3 hr
  | alloc el =>
    rw [hop] at hc
    simp only [compOp0, Option.bind_eq_some_iff] at hc
    obtain ⟨z, h1, hc⟩ := hc
    split at hc
    case isFalse => cases hc
    rename_i hz
    cases hc
    cases hr
    have e : (execOp a.eval o) = (do pure (.value (← Instr.alloc el true (.tuple #[]))) : Sem Next) := by simp [execOp, hop]
    rw [e]
    exact op_new hS base h1 hz
  | box el x =>
    rw [hop] at hc
    simp only [compOp0, Option.bind_eq_some_iff] at hc
    obtain ⟨n, h1, hc⟩ := hc
    split at hc
    case isFalse => cases hc
    rename_i h0
    obtain ⟨y, hy, rfl⟩ := Option.map_eq_some_iff.1 hc
    unfold insV at hr
    simp only at hr
    split at hr
    case isFalse => cases hr
    rename_i hl
    cases hr
    have e : (execOp a.eval o) = (do pure (.value (← Instr.box el (a.eval x))) : Sem Next) := by simp [execOp, hop]
    rw [e]
    exact op_box hs hS base n hy hl h0
  | build T parts =>
    rw [hop] at hc
    simp only [compOp0] at hc
    have e : (execOp a.eval o) = (do pure (.value (← Instr.build T (parts.map fun (i, x) => (i, a.eval x)))) : Sem Next) := by simp [execOp, hop]
    rw [e]
    split at hc
    · rename_i fs hu
      split at hc
      case isFalse => cases hc
      rename_i hall
      simp only [Option.bind_eq_some_iff] at hc
      obtain ⟨z, h1, ps, h2, hc⟩ := hc
      split at hc
      case isFalse => cases hc
      rename_i hz
      cases hc
      exact op_mkS hs hS hu h1 hz h2 (List.all_eq_true.1 hall) hr
    · rename_i n el hu
      simp only [Option.bind_eq_some_iff] at hc
      obtain ⟨z, h1, s, hsz, hc⟩ := hc
      split at hc
      case isFalse => cases hc
      rename_i h0
      simp only [Option.bind_eq_some_iff] at hc
      obtain ⟨ps, h2, hc⟩ := hc
      split at hc
      case isFalse => cases hc
      rename_i hz
      cases hc
      exact op_mkA hs hS hu h1 hz hsz h0 h2 hr
    · cases hc
  | buildSlice T len parts =>
    rw [hop] at hc
    simp only [compOp0] at hc
    have e : (execOp a.eval o) = (do pure (.value (← Instr.buildSlice T len (parts.map fun (i, x) => (i, a.eval x)))) : Sem Next) := by simp [execOp, hop]
    rw [e]
    split at hc
    · rename_i el hu
      simp only [Option.bind_eq_some_iff] at hc
      obtain ⟨s, hsz, z, h1, hc⟩ := hc
      split at hc
      case isFalse => cases hc
      rename_i h0
      obtain ⟨ps, h2, rfl⟩ := Option.map_eq_some_iff.1 hc
      exact op_mksl hs hS hu h1 hsz h0.2.1 h0.2.2 h0.1 h2 hr
    · cases hc
  | load T x =>
    rw [hop] at hc
    simp only [compOp0, Option.bind_eq_some_iff] at hc
    obtain ⟨g, hg, n, hsz, hc⟩ := hc
    split at hc
    case isFalse => cases hc
    rename_i h0
    obtain ⟨y, hy, rfl⟩ := Option.map_eq_some_iff.1 hc
    have e : (execOp a.eval o) = (do pure (.value (← Instr.loadAt T (a.eval x))) : Sem Next) := by simp [execOp, hop]
    rw [e]
    exact op_ld hs hS hy hg hsz h0 hr
  | store T p x =>
    rw [hop] at hc
    simp only [compOp0, Option.bind_eq_some_iff] at hc
    obtain ⟨g, hg, n, hsz, hc⟩ := hc
    split at hc
    case isFalse => cases hc
    rename_i h0
    simp only [Option.bind_eq_some_iff, Option.map_eq_some_iff] at hc
    obtain ⟨p', hp, x', hx, rfl⟩ := hc
    have e : (execOp a.eval o) = (do Instr.storeAt T (a.eval p) (a.eval x); pure .skip : Sem Next) := by simp [execOp, hop]
    rw [e]
    exact op_st hs hS h0.1 hsz h0.2 hp hx hr
  | nilCheck x =>
    rw [hop] at hc
    simp only [compOp0, Option.map_eq_some_iff] at hc
    obtain ⟨y, hy, rfl⟩ := hc
    exact op_chk hs hS hy hr hop
  | binOp op T x y U =>
    rw [hop] at hc
    simp only [compOp0, Option.bind_eq_some_iff] at hc
    obtain ⟨x', hx, y', hy, hc⟩ := hc
    split at hc
    · cases hc; exact op_bin hs hS hx hy hr hop
    · cases hc; exact op_bin hs hS hx hy hr hop
    · rename_i hu
      split at hc <;> cases hc
      · exact op_eqn (neg := false) hs hS hx hy hr hop hu
      · exact op_eqn (neg := true) hs hS hx hy hr hop hu
    · rename_i q hu
      split at hc <;> cases hc
      · exact op_eqn (neg := false) hs hS hx hy hr hop ⟨q, hu⟩
      · exact op_eqn (neg := true) hs hS hx hy hr hop ⟨q, hu⟩
    · rename_i q hu
      split at hc <;> cases hc
      · exact op_eqn (neg := false) hs hS hx hy hr hop ⟨q, hu⟩
      · exact op_eqn (neg := true) hs hS hx hy hr hop ⟨q, hu⟩
    · rename_i q1 q2 q3 hu
      split at hc <;> cases hc
      · exact op_eqn (neg := false) hs hS hx hy hr hop ⟨q1, q2, q3, hu⟩
      · exact op_eqn (neg := true) hs hS hx hy hr hop ⟨q1, q2, q3, hu⟩
    · split at hc
      · obtain ⟨ks, hks, rfl⟩ := Option.map_eq_some_iff.1 hc
        exact op_eqS (neg := false) hs hS hks hx hy hr hop
      · obtain ⟨ks, hks, rfl⟩ := Option.map_eq_some_iff.1 hc
        exact op_eqS (neg := true) hs hS hks hx hy hr hop
      · cases hc
    · cases hc
  | unOp op T x =>
    rw [hop] at hc
    simp only [compOp0, Option.map_eq_some_iff] at hc
    obtain ⟨y, hy, rfl⟩ := hc
    have e : (execOp a.eval o) = (do pure (.value (← Op.unary op (a.eval x))) : Sem Next) := by simp [execOp, hop]
    rw [e]
    exact op_un hs hS hy hr
  | convert sT dT x =>
    rw [hop] at hc
    simp only [compOp0, Option.bind_eq_some_iff] at hc
    obtain ⟨y, hy, hc⟩ := hc
    have e : (execOp a.eval o) = (do pure (.value (← convert sT dT (a.eval x))) : Sem Next) := by simp [execOp, hop]
    rw [e]
    split at hc
    · rename_i h1 h2
      cases hc
      exact op_toInt hs hS h1 h2 hy hr
    · rename_i h1 h2
      cases hc
      have hR := opd_sound hs hy
      unfold insV at hr
      simp only at hr
      split at hr
      case h_2 => cases hr
      rename_i l hev
      rw [hev] at hR
      rw [hR.str_inv]
      exact done_pure hS hr (.str l) (by simp [convert, run_under h1, run_under h2])
    · rename_i el h1 h2
      split at hc
      · rename_i h3
        cases hc
        exact op_toBytes hs hS h1 h2 h3 hy hr
      · cases hc
    · rename_i el h1 h2
      split at hc
      · rename_i h3
        cases hc
        exact op_toStr hs hS h1 h3 h2 hy hr
      · cases hc
    · cases hc
  | makeSlice T l c =>
    rw [hop] at hc
    simp only [compOp0] at hc
    have e : (execOp a.eval o) = (do pure (.value (← Instr.makeSlice T (a.eval l) (a.eval c))) : Sem Next) := by simp [execOp, hop]
    rw [e]
    split at hc
    · rename_i el hu
      simp only [Option.bind_eq_some_iff] at hc
      obtain ⟨s, hsz, b, hb, z, hz, l', hl, c', hcc, hc⟩ := hc
      split at hc
      case isFalse => cases hc
      rename_i h0
      cases hc
      exact op_mkSlice hs hS hu hsz hb hz h0.1 h0.2.1 h0.2.2 hl hcc hr
    · cases hc
  | slice T x lo hi mx =>
    rw [hop] at hc
    simp only [compOp0, Option.bind_eq_some_iff] at hc
    obtain ⟨x', hx, lo', hlo, hi', hhi, mx', hmx, hc⟩ := hc
    have e : (execOp a.eval o) = (do pure (.value (← Instr.sliceAt T (a.eval x) (lo.map a.eval) (hi.map a.eval) (mx.map a.eval))) : Sem Next) := by simp [execOp, hop]
    rw [e]
    have mnone : mx'.isNone = true → mx.map a.eval = none := fun h => by
      cases mx with
      | none => rfl
      | some m => simp only [opdO, Option.map_eq_some_iff] at hmx; obtain ⟨q, _, rfl⟩ := hmx; simp at h
    split at hc
    · rename_i hu
      split at hc
      case isFalse => cases hc
      rename_i hm
      cases hc
      rw [mnone hm]
      exact op_slS hs hS hu hx hlo hhi hr
    · rename_i el hu
      simp only [Option.bind_eq_some_iff] at hc
      obtain ⟨s, hsz, hc⟩ := hc
      split at hc
      case isFalse => cases hc
      rename_i h0
      cases hc
      exact op_slL hs hS hu hsz h0 hx hlo hhi hmx hr
    · rename_i n el hu
      simp only [Option.bind_eq_some_iff] at hc
      obtain ⟨s, hsz, hc⟩ := hc
      split at hc
      case isFalse => cases hc
      rename_i h0
      cases hc
      rw [mnone h0.2]
      exact op_slA hs hS hu hsz h0.1 hx hlo hhi hr
    · cases hc
  | fieldAddr T x f =>
    rw [hop] at hc
    simp only [compOp0] at hc
    have e : (execOp a.eval o) = (do pure (.value (← Instr.fieldAt T (a.eval x) f)) : Sem Next) := by simp [execOp, hop]
    rw [e]
    split at hc
    · rename_i fs hu
      simp only [Option.bind_eq_some_iff] at hc
      obtain ⟨fd, hf, s, hsz, hc⟩ := hc
      split at hc
      case isFalse => cases hc
      rename_i h0
      obtain ⟨y, hy, rfl⟩ := Option.map_eq_some_iff.1 hc
      exact op_fad hs hS hu hf hsz h0 hy hr
    · cases hc
  | field T x f =>
    rw [hop] at hc
    simp only [compOp0] at hc
    have e : (execOp a.eval o) = (do pure (.value (← Instr.field T (a.eval x) f)) : Sem Next) := by simp [execOp, hop]
    rw [e]
    split at hc
    · rename_i fs hu
      simp only [Option.bind_eq_some_iff] at hc
      obtain ⟨fd, hf, g, hg, s, hsz, hc⟩ := hc
      split at hc
      case isFalse => cases hc
      rename_i h0
      obtain ⟨y, hy, rfl⟩ := Option.map_eq_some_iff.1 hc
      exact op_fld hs hS hu hf hg hsz h0 hy hr
    · cases hc
  | indexAddr T x ix =>
    rw [hop] at hc
    simp only [compOp0, Option.bind_eq_some_iff] at hc
    obtain ⟨x', hx, i', hi, hc⟩ := hc
    have e : (execOp a.eval o) = (do pure (.value (← Instr.indexAt T (a.eval x) (a.eval ix))) : Sem Next) := by simp [execOp, hop]
    rw [e]
    split at hc
    · rename_i n el hu
      obtain ⟨s, hsz, rfl⟩ := Option.map_eq_some_iff.1 hc
      exact op_iaA hs hS hu hsz hx hi hr
    · rename_i el hu
      obtain ⟨s, hsz, rfl⟩ := Option.map_eq_some_iff.1 hc
      exact op_iaL hs hS hu hsz hx hi hr
    · cases hc
  | index T x ix =>
    rw [hop] at hc
    simp only [compOp0, Option.bind_eq_some_iff] at hc
    obtain ⟨x', hx, i', hi, hc⟩ := hc
    have e : (execOp a.eval o) = (do pure (.value (← Instr.index T (a.eval x) (a.eval ix))) : Sem Next) := by simp [execOp, hop]
    rw [e]
    split at hc
    · rename_i n el hu
      simp only [Option.bind_eq_some_iff] at hc
      obtain ⟨g, hg, s, hsz, hc⟩ := hc
      split at hc
      case isFalse => cases hc
      rename_i h0
      cases hc
      exact op_ixA hs hS hu hg hsz h0 hx hi hr
    · rename_i hu
      cases hc
      exact op_ixS hs hS hu hx hi hr
    · cases hc
  | extract x n =>
    rw [hop] at hc
    simp only [compOp0, Option.map_eq_some_iff] at hc
    obtain ⟨y, hy, rfl⟩ := hc
    have e : (execOp a.eval o) = (do pure (.value (← Instr.extract (a.eval x) n)) : Sem Next) := by simp [execOp, hop]
    rw [e]
    exact op_ext hs hS hy hr
  | makeMap T rv =>
    rw [hop] at hc
    cases rv with
    | some q => simp [compOp0] at hc
    | none =>
      cases hc
      have e : (execOp a.eval o) = (do pure (.value (← Instr.makeMap T none)) : Sem Next) := by simp [execOp, hop]
      rw [e]
      exact op_mkm hS hr
  | insert T m k v =>
    rw [hop] at hc
    simp only [compOp0] at hc
    have e : (execOp a.eval o) = (do Instr.mapUpdate T (a.eval m) (a.eval k) (a.eval v); pure .skip : Sem Next) := by simp [execOp, hop]
    rw [e]
    split at hc
    · rename_i kt et hu
      simp only [Option.bind_eq_some_iff, Option.map_eq_some_iff] at hc
      obtain ⟨kk, hkk, m', hm, k', hk, v', hv, rfl⟩ := hc
      exact op_mset hs hS hu hkk hm hk hv hr
    · cases hc
  | mapUpdate T m k v =>
    rw [hop] at hc
    simp only [compOp0] at hc
    have e : (execOp a.eval o) = (do Instr.mapUpdate T (a.eval m) (a.eval k) (a.eval v); pure .skip : Sem Next) := by simp [execOp, hop]
    rw [e]
    split at hc
    · rename_i kt et hu
      simp only [Option.bind_eq_some_iff, Option.map_eq_some_iff] at hc
      obtain ⟨kk, hkk, m', hm, k', hk, v', hv, rfl⟩ := hc
      exact op_mset hs hS hu hkk hm hk hv hr
    · cases hc
  | lookup T m k ok =>
    rw [hop] at hc
    simp only [compOp0] at hc
    have e : (execOp a.eval o) = (do pure (.value (← Instr.lookup T (a.eval m) (a.eval k) ok)) : Sem Next) := by simp [execOp, hop]
    rw [e]
    split at hc
    · rename_i kt et hu
      simp only [Option.bind_eq_some_iff, Option.map_eq_some_iff] at hc
      obtain ⟨kk, hkk, z, hz, m', hm, k', hk, rfl⟩ := hc
      exact op_mget hs hS hu hkk hz hm hk hr
    · cases hc
  | range T x =>
    rw [hop] at hc
    simp only [compOp0] at hc
    have e : (execOp a.eval o) = (do pure (.value (← Instr.range T (a.eval x))) : Sem Next) := by simp [execOp, hop]
    rw [e]
    split at hc
    · rename_i kt et hu
      obtain ⟨x', hx, rfl⟩ := Option.map_eq_some_iff.1 hc
      exact op_rng hs hS hu hx hr
    · cases hc
  | next x b =>
    rw [hop] at hc
    cases b with
    | true => simp [compOp0] at hc
    | false =>
      simp only [compOp0] at hc
      obtain ⟨x', hx, rfl⟩ := Option.map_eq_some_iff.1 hc
      have e : (execOp a.eval o) = (do pure (.value (← Instr.next (a.eval x) false o.type)) : Sem Next) := by simp [execOp, hop]
      rw [e]
      exact op_nxt hs hS hx o.type hr
  | entry x =>
    rw [hop] at hc
    simp only [compOp0] at hc
    obtain ⟨x', hx, rfl⟩ := Option.map_eq_some_iff.1 hc
    unfold insV at hr
    cases hr
  | makeFunc fn first caps =>
    rw [hop] at hc
    cases fn with
    | func f =>
      simp only [compOp0] at hc
      split at hc
      case isFalse =>
        split at hc
        · rename_i x hf1 hf2
          obtain ⟨x', hx, rfl⟩ := Option.map_eq_some_iff.1 hc
          have e1 : first = #[x] := by apply Array.toList_inj.1; simpa using hf1
          have e2 : caps = #[] := by apply Array.toList_inj.1; simpa using hf2
          have e : (execOp a.eval o) = (do pure (.value (← Instr.makeFunc (.func f) #[a.eval x] #[])) : Sem Next) := by
            simp [execOp, hop, e1, e2]
          rw [e]
          exact op_clb hs hS hx hr
        · cases hc
      rename_i h0
      obtain ⟨cs, hcs, rfl⟩ := Option.map_eq_some_iff.1 hc
      have e : (execOp a.eval o) = (do pure (.value (← Instr.makeFunc (.func f) #[] (caps.map a.eval))) : Sem Next) := by
        have : first = #[] := by simpa using h0
        simp [execOp, hop, this]
      rw [e]
      exact op_clo hs hS hcs hr
    | _ => simp [compOp0] at hc
  | call c =>
    rw [hop] at hc
    simp only [compOp0] at hc
    unfold compCall at hc
    have exec : ∀ b, c.callee = .builtin b → ∃ cs, execOp a.eval o = builtin b c.argTypes o.type cs (c.args.map a.eval) := fun b hb => ⟨_, by simp only [execOp, hop, resolve, hb]; rfl⟩
    split at hc
    · obtain ⟨_, _, rfl⟩ := Option.map_eq_some_iff.1 hc; simp [Ins.calls] at hn
    · simp only [Option.bind_eq_some_iff, Option.map_eq_some_iff] at hc; obtain ⟨_, _, _, _, rfl⟩ := hc; simp [Ins.calls] at hn
    · -- len
      rename_i hcal
      obtain ⟨cs, ex⟩ := exec _ hcal
      rw [ex]
      split at hc
      · rename_i x T h1 h2
        rw [list1 h1, list1 h2, map1]
        split at hc
        · rename_i hu
          obtain ⟨y, hy, rfl⟩ := Option.map_eq_some_iff.1 hc
          have hR := opd_sound hs hy
          unfold insV at hr
          simp only at hr
          split at hr
          · rename_i l hev _
            rw [hev] at hR
            have := hR.str_inv
            exact done_pure hS hr (.int .i64 _) (by rw [this]; simp only [Builtin.len_, List.getElem?_toArray, List.getElem?_cons_zero, Sem.run_bind, run_under hu, Result.andThen_ok]; rfl)
          · rename_i hh; cases hh
          · rename_i hh; cases hh
          · cases hr
        · rename_i q hu
          obtain ⟨y, hy, rfl⟩ := Option.map_eq_some_iff.1 hc
          have hR := opd_sound hs hy
          have key : ∀ p n cap, a.eval x = .slice p n cap → (Builtin.len_ #[T] o.type #[a.eval x]).run P w = .ok (.int .i64 (n : Int)) w := fun p n cap h => by simp [Builtin.len_, run_under hu, h, goInt]
          unfold insV at hr
          simp only at hr
          split at hr
          · rename_i hh; cases hh
          · rename_i k n l hev _
            rw [hev] at hR
            have : ∃ p cap, a.eval x = .slice p n cap := by
              generalize a.eval x = c0 at hR
              cases hR <;> exact ⟨_, _, rfl⟩
            obtain ⟨p, cap, hp⟩ := this
            exact done_pure hS hr (.int .i64 _) (key _ _ _ hp)
          · rename_i id g off n es hev _
            rw [hev] at hR
            have : ∃ p cap, a.eval x = .slice p n cap := by
              generalize a.eval x = c0 at hR
              cases hR <;> exact ⟨_, _, rfl⟩
            obtain ⟨p, cap, hp⟩ := this
            exact done_pure hS hr (.int .i64 _) (key _ _ _ hp)
          · cases hr
        · rename_i n q hu
          cases hc
          exact done_pure hS hr (.int .i64 _) (by simp [Builtin.len_, run_under hu, goInt])
        · rename_i q1 q2 hu
          obtain ⟨y, hy, rfl⟩ := Option.map_eq_some_iff.1 hc
          exact op_mlen hs hS hu hy hr o.type
        · cases hc
      · cases hc
    · -- delete
      rename_i hcal
      obtain ⟨cs, ex⟩ := exec _ hcal
      rw [ex]
      split at hc
      · rename_i x y T ts h1 h2
        rw [list2 h1, map2]
        have e2 : c.argTypes = (T :: ts).toArray := by rw [← h2]
        rw [e2]
        split at hc
        · rename_i kt et hu
          simp only [Option.bind_eq_some_iff, Option.map_eq_some_iff] at hc
          obtain ⟨kk, hkk, x', hx, y', hy, rfl⟩ := hc
          exact op_mdel hs hS hu hkk hx hy hr o.type
        · cases hc
      · cases hc
    · -- clear
      rename_i hcal
      obtain ⟨cs, ex⟩ := exec _ hcal
      rw [ex]
      split at hc
      · rename_i x T ts h1 h2
        rw [list1 h1, map1]
        have e2 : c.argTypes = (T :: ts).toArray := by rw [← h2]
        rw [e2]
        split at hc
        · rename_i el hu
          simp only [Option.bind_eq_some_iff] at hc
          obtain ⟨s, hsz, z, hz, x', hx, hc⟩ := hc
          split at hc
          case isFalse => cases hc
          rename_i h0
          cases hc
          exact op_clr hs hS hu hsz hz h0.1 h0.2 hx hr o.type
        · cases hc
      · cases hc
    · -- append
      rename_i hcal
      obtain ⟨cs, ex⟩ := exec _ hcal
      rw [ex]
      split at hc
      · rename_i x y T U h1 h2
        rw [list2 h1, list2 h2, map2]
        split at hc
        · rename_i el hu hU
          simp only [Option.bind_eq_some_iff] at hc
          obtain ⟨s, hsz, b, hb, z, hz, x', hx, y', hy, hc⟩ := hc
          split at hc
          case isFalse => cases hc
          rename_i h0
          cases hc
          split at hr
          · exact op_appP hs hS hu (.inl hU) hsz hb h0.2.1 h0.1 hz h0.2.2 hx hy hr o.type
          · exact op_app hs hS hu (.inl hU) hsz hb h0.2.1 h0.1 hz h0.2.2 hx hy hr o.type
        · rename_i el q hu hU
          simp only [Option.bind_eq_some_iff] at hc
          obtain ⟨s, hsz, b, hb, z, hz, x', hx, y', hy, hc⟩ := hc
          split at hc
          case isFalse => cases hc
          rename_i h0
          cases hc
          split at hr
          · exact op_appP hs hS hu (.inr ⟨q, hU⟩) hsz hb h0.2.1 h0.1 hz h0.2.2 hx hy hr o.type
          · exact op_app hs hS hu (.inr ⟨q, hU⟩) hsz hb h0.2.1 h0.1 hz h0.2.2 hx hy hr o.type
        · cases hc
      · cases hc
    · -- copy
      rename_i hcal
      obtain ⟨cs, ex⟩ := exec _ hcal
      rw [ex]
      split at hc
      · rename_i x y T U h1 h2
        rw [list2 h1, list2 h2, map2]
        split at hc
        · rename_i el hu
          simp only [Option.bind_eq_some_iff] at hc
          obtain ⟨s, hsz, x', hx, y', hy, hc⟩ := hc
          split at hc
          case isFalse => cases hc
          rename_i h0
          cases hc
          exact op_copy hs hS hu hsz h0 hx hy hr o.type
        · cases hc
      · cases hc
    · rename_i hcal
      obtain ⟨cs, ex⟩ := exec _ hcal
      rw [ex]
      split at hc
      · rename_i x y h1
        rw [list2 h1, map2]
        simp only [Option.bind_eq_some_iff, Option.map_eq_some_iff] at hc
        obtain ⟨x', hx, y', hy, rfl⟩ := hc
        exact op_mm (mx := false) hs hS hx hy hr c.argTypes o.type
      · cases hc
    · rename_i hcal
      obtain ⟨cs, ex⟩ := exec _ hcal
      rw [ex]
      split at hc
      · rename_i x y h1
        rw [list2 h1, map2]
        simp only [Option.bind_eq_some_iff, Option.map_eq_some_iff] at hc
        obtain ⟨x', hx, y', hy, rfl⟩ := hc
        exact op_mm (mx := true) hs hS hx hy hr c.argTypes o.type
      · cases hc
    · cases hc
  | _ => rw [hop] at hc; simp [compOp0] at hc
theorem cmpS_eq : ∀ a b : List UInt8, cmpS a b = Lib.compareBytes a b
  | [], [] => rfl
  | [], _ :: _ => rfl
  | _ :: _, [] => rfl
  | a :: as, b :: bs => by
    unfold cmpS Lib.compareBytes
    rw [cmpS_eq as bs]
theorem cmpIns_spec {op : Op} {i : Ins} (h : cmpIns P op = some i) : ∃ c f x y x' y', op = .call c ∧ c.callee = .value (.func f) ∧ c.args.toList = [x, y] ∧ cmpFn P f = true ∧ opd x = some x' ∧ opd y = some y' ∧ i = .cmp x' y' := by
  cases op with
  | call c =>
    simp only [cmpIns] at h
    split at h
    · rename_i f x y h1 h2
      split at h
      · rename_i hf
        simp only [Option.bind_eq_some_iff, Option.map_eq_some_iff] at h
        obtain ⟨x', hx, y', hy, rfl⟩ := h
        exact ⟨c, f, x, y, x', y', rfl, h1, h2, hf, hx, hy, rfl⟩
      · cases h
    · cases h
  | _ => cases h
theorem cmpIns_calls {op : Op} {i : Ins} (h : cmpIns P op = some i) : i.calls = false := by
  obtain ⟨_, _, _, _, _, _, _, _, _, _, _, _, rfl⟩ := cmpIns_spec h
  rfl
theorem cmp_found {fn : Func} (h : fn.name = "internal/bytealg.abigen_runtime_cmpstring") : Extern.find fn = some Extern.BytealgCompare.compare := by
  unfold Extern.find
  rw [h]
  have h1 : Extern.allGenericRows.lookup "internal/bytealg.abigen_runtime_cmpstring" = none := by kernel_rfl
  have h2 : Extern.allTypedRows.lookup "internal/bytealg.abigen_runtime_cmpstring" = none := by kernel_rfl
  have h3 : Extern.allRows.lookup "internal/bytealg.abigen_runtime_cmpstring" = some Extern.BytealgCompare.compare := by kernel_rfl
  simp only [h1, h2, h3]
  rfl
theorem cmp_next {fn : Func} (h : fn.name = "internal/bytealg.abigen_runtime_cmpstring") (ho : (Extern.allNextRows.lookup fn.origin).isNone = true) : Extern.findNext fn = none := by
  unfold Extern.findNext
  rw [h]
  have h1 : Extern.allNextRows.lookup "internal/bytealg.abigen_runtime_cmpstring" = none := by kernel_rfl
  have h2 : Extern.allNextRows.lookup fn.origin = none := by simpa using ho
  simp only [h1, h2]
  rfl
theorem run_cmp {f : FuncId} (h : cmpFn P f = true) (a b : ByteArray) (w : World) : (callFunc f #[.string a, .string b]).run P w = .ok (.value (.int .i64 (cmpS a.data.toList b.data.toList))) w := by
  unfold cmpFn at h
  split at h
  case h_2 => cases h
  rename_i fn hf
  simp only [Bool.and_eq_true, beq_iff_eq] at h
  obtain ⟨⟨h1, h2⟩, h3⟩ := h
  rw [run_callFunc_extern hf (by rw [h1]; rfl) h2 (cmp_next h1 h3) (cmp_found h1), Lib.run_compareString, cmpS_eq]
  rfl
theorem op_cmp (hs : Slots ρ pin t a) (hS : Sim w0 S0 ρ pin σ w) {tbl : Tbl} {base : Nat} {r : Res} {o : Oper} {i : Ins} (hc : cmpIns P o.op = some i) (hr : insV tbl base t σ i = some r) : Done w0 S0 ρ pin (upds σ r.wr) r.val ((execOp a.eval o).run P w) := by
  obtain ⟨c, f, x, y, x', y', hop, hcal, hargs, hf, hx, hy, rfl⟩ := cmpIns_spec hc
  have hrx := opd_sound hs hx
  have hry := opd_sound hs hy
  unfold insV at hr
  simp only at hr
  split at hr
  case h_2 => cases hr
  rename_i u v hu hv
  rw [hu] at hrx
  rw [hv] at hry
  have e : execOp a.eval o = callFunc f #[a.eval x, a.eval y] := by
    simp only [execOp, hop, resolve, hcal]
    simp only [Act.eval, Deferred.ofValue]
    show (invoke (.fn (.func f) #[]) (#[] ++ c.args.map a.eval) : Sem Next) = _
    simp only [invoke]
    congr 1
    rw [list2 hargs, map2]
    have h0 : (#[] ++ #[a.eval x, a.eval y] ++ #[] : Array Value) = #[a.eval x, a.eval y] := by simp
    exact h0
  rw [e, hrx.str_inv, hry.str_inv, run_cmp hf]
  cases hr
  exact Done.still hS (.int .i64 _)
theorem ins_sound (hs : Slots ρ pin t a) (hS : Sim w0 S0 ρ pin σ w) {tbl : Tbl} {base : Nat} {r : Res} {o : Oper} {i : Ins} (hc : compOp P o.op = some i) (hn : i.calls = false) (hr : insV tbl base t σ i = some r) :
    Done w0 S0 ρ pin (upds σ r.wr) r.val ((execOp a.eval o).run P w) := by
  unfold compOp at hc
  cases hq : cmpIns P o.op with
  | some j =>
    rw [hq] at hc
    cases hc
    exact op_cmp hs hS hq hr
  | none =>
    rw [hq] at hc
    cases h0 : compOp0 P o.op with
    | some j =>
      rw [h0] at hc
      cases hc
      exact ins_sound0 hs hS h0 hn hr
    | none =>
      rw [h0] at hc
      cases hc
      simp [insV] at hr
end Go.Vm
