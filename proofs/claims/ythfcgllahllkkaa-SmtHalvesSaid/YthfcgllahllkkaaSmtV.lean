/- Sparse trees: the callees' contracts, out of the machine; SmtDigests. -/
import Derived.Test.YthfcgllahllkkaaSmtX
set_option linter.unusedSectionVars false
set_option linter.unusedSimpArgs false
set_option linter.unusedVariables false
set_option maxHeartbeats 4000000
set_option maxRecDepth 10000
namespace Go.Vm.Ythfcgllahllkkaa
open Go.Proofs
def noPin : Pin := fun _ => none
theorem noPin_ok {w : World} : ∀ b o, noPin b = some o → w.heap[b]? = some o := fun _ _ h => by cases h
theorem ctx1 {f : Nat} {x r : V} {v c : Value} {ms : List Mode} {F : IFun} (hG : Gf fns f [x] = some (r, [])) (ht : tabW fns f = some (entOf (Fw fns) (Hw fns) (some ms, F))) (hl : 1 = ms.length) (hx : ∀ w, B noPin w x v []) (hr : ∀ pin W c' o, B pin W r c' o → c' = c) : SmtY.Con f #[v] c := fun w =>
  con_of hG ht hl w noPin noPin_ok ⟨[[]], .cons (hx w) .nil, rfl⟩ hr
theorem ctx2 {f : Nat} {x y r : V} {v u c : Value} {ms : List Mode} {F : IFun} (hG : Gf fns f [x, y] = some (r, [])) (ht : tabW fns f = some (entOf (Fw fns) (Hw fns) (some ms, F))) (hl : 2 = ms.length) (hx : ∀ w, B noPin w x v []) (hy : ∀ w, B noPin w y u []) (hr : ∀ pin W c' o, B pin W r c' o → c' = c) : SmtY.Con f #[v, u] c := fun w =>
  con_of hG ht hl w noPin noPin_ok ⟨[[], []], .cons (hx w) (.cons (hy w) .nil), rfl⟩ hr
theorem path_con (k : List UInt8) (h : k.length ≤ 1000000) : SmtY.Con 8 #[.string (lb k)] (.string (lb (pathS k))) := ctx1 (Path_ok k h) rfl rfl (fun w => bstrL k) rstr
theorem val_con (k : List UInt8) (h : k.length ≤ 1000000) : SmtY.Con 9 #[.string (lb k)] (.string (lb (valS k))) := ctx1 (Value_ok k h) rfl rfl (fun w => bstrL k) rstr
theorem few_con (k : List UInt8) : SmtY.Con 5 #[.string (lb k)] (.string (lb (fewT k))) := ctx1 (few_ok k) rfl rfl (fun w => bstrL k) rstr
theorem leaf_con (p v : List UInt8) (h : p.length ≤ 1000000) (h2 : v.length ≤ 1000000) : SmtY.Con 10 #[.agg #[.string (lb p), .string (lb v)]] (.string (lb (leafS p v))) := ctx1 (LeafHash_ok p v h h2) rfl rfl (fun w => bagg2 p v) rstr
theorem hash_con (p v : List UInt8) (h : p.length ≤ 1000000) (h2 : v.length ≤ 1000000) : SmtY.Con 11 #[.agg #[.string (lb p), .string (lb v)]] (.string (lb (leafS p v))) := ctx1 (Hash_ok p v h h2) rfl rfl (fun w => bagg2 p v) rstr
theorem of_con (p v : List UInt8) (h : p.length ≤ 1000000) (h2 : v.length ≤ 1000000) : SmtY.Con 6 #[.string (lb p), .string (lb v)] (.agg #[.string (lb (pathS p)), .string (lb (valS v))]) := ctx2 (Of_ok p v h h2) rfl rfl (fun w => bstrL p) (fun w => bstrL v) ragg2
theorem join_con (p v : List UInt8) (h : p.length ≤ 1000000) (h2 : v.length ≤ 1000000) : SmtY.Con 12 #[.string (lb p), .string (lb v)] (.string (lb (joinS p v))) := ctx2 (Join_ok p v h h2) rfl rfl (fun w => bstrL p) (fun w => bstrL v) rstr
def allPin (w : World) : Pin := fun b => w.heap[b]?
theorem tagged_con (p v : List UInt8) (h : p.length ≤ 1000000) (h2 : v.length ≤ 1000000) (w : World) (b : Nat) (hb : w.heap[b]? = some (.cells #[.string (lb p), .string (lb v)] 9)) :
    Calls Try.prog 13 #[.int .u8 74, .slice (some ⟨b, 0, none⟩) 2 2] w fun e W' => e = .returned (.string (lb (joinS p v))) ∧ RowKit.Below w.heap.size w W' := by
  have hG : Gf fns 13 [.int .u8 74, .sl .ro 2 [.str p, .str v]] = some (.str (joinS p v), []) := by
    have t := RTagged_ok 74 .ro [p, v] (by simp) (by rw [tag2_len]; omega)
    rw [show ((74 : UInt8).toNat : Int) = 74 from rfl] at t
    exact t
  refine con_of hG rfl rfl w (allPin w) (fun _ _ h => h) ⟨[[], []], .cons (bint _ _) (.cons (.flat _ _ (.sl _ _ _) (.slro 2 _ ⟨b, 0, none⟩ 2 #[.string (lb p), .string (lb v)] 9 (0, 0) (Nat.le_refl _) (by intro h; cases h) (fun _ => ⟨rfl, hb, by simp⟩) ?_ ?_)) .nil), rfl⟩ rstr
  · intro v hv
    simp only [List.mem_cons, List.not_mem_nil, or_false] at hv
    rcases hv with rfl | rfl <;> exact ⟨rfl, .str _⟩
  · intro j x c h1 h2
    match j with
    | 0 => cases h1; cases h2; exact .str _
    | 1 => cases h1; cases h2; exact .str _
    | j + 2 => simp at h1
theorem cellAt {w : World} {b o : Nat} {v : Value} (h : w.cell? ⟨b, o, none⟩ = some v) : ∃ arr el fz, w.heap[b]? = some (.cells arr el fz) ∧ arr[o]? = some v := by
  unfold World.cell? at h
  split at h
  · rename_i arr el fz he
    exact ⟨arr, el, fz, he, h⟩
  · cases h
def NewT (W : World) (b o : Nat) : Prop := ∃ arr el fz, W.heap[b]? = some (.cells arr el fz) ∧ Unfrozen arr fz ∧ o + 2 ≤ arr.size ∧ arr[o]? = some (.pointer none) ∧ arr[o + 1]? = some (.int .i64 0)
theorem new_con (w : World) : Calls Try.prog 14 #[] w fun e W' => ∃ b o, e = .returned (.pointer (some ⟨b, o, none⟩)) ∧ NewT W' b o ∧ w.heap.size ≤ b ∧ RowKit.Below w.heap.size w W' := by
  refine (after_of (vals := []) New_t rfl w noPin .nil (by simp) (by simp) noPin_ok rfl).mono ?_
  rintro e W' ⟨c, pin', o, oss, rfl, _, _, _, hF, hB, _, _, hown⟩
  cases hB with
  | flat _ _ hn _ => cases hn
  | opt cs b base arr el fz os hrow hu hfit ho h1 h =>
    simp only [List.length_cons, List.length_nil] at hfit ho
    obtain ⟨y0, e0⟩ : ∃ c, arr[base + 0]? = some c := ⟨arr[base + 0], by simp⟩
    obtain ⟨y1, e1⟩ : ∃ c, arr[base + 1]? = some c := ⟨arr[base + 1], by simp⟩
    obtain ⟨o0, eo0⟩ : ∃ c, os[0]? = some c := ⟨os[0], by simp⟩
    obtain ⟨o1, eo1⟩ : ∃ c, os[1]? = some c := ⟨os[1], by simp⟩
    have r0 := h 0 _ _ _ rfl e0 eo0
    have r1 := rint _ _ _ _ (h 1 _ _ _ rfl e1 eo1)
    subst r1
    obtain rfl : y0 = .pointer none := by cases r0 with | flat _ _ _ hr => cases hr; rfl
    refine ⟨b, base, rfl, ⟨arr, el, fz, hrow, hu, hfit, e0, e1⟩, ?_, below_of hF (by simp) (Nat.le_refl _)⟩
    have := (hown b (by simp)).2
    simpa using this
theorem put_con (k v : List UInt8) (h : k.length ≤ 1000000) (h2 : v.length ≤ 1000000) (w : World) (b o n : Nat) (hN : NewT w b o) (hnb : n ≤ b) (hnw : n ≤ w.heap.size) :
    Calls Try.prog 15 #[.pointer (some ⟨b, o, none⟩), .string (lb k), .string (lb v)] w fun e W' => e = .returned (.int .i64 0) ∧ (∃ bn on bl ol, SmtZ.Tree (lb (leafS (pathS k) (valS v))) (lb (pathS k)) (lb (valS v)) W' b o bn on bl ol) ∧ RowKit.Below n w W' := by
  obtain ⟨arr, el, fz, hrow, hu, hfit, e0, e1⟩ := hN
  have hB0 : B noPin w (.opt [.nilp, .int .i64 0]) (.pointer (some ⟨b, o, none⟩)) [b] := by
    refine .opt [.nilp, .int .i64 0] b o arr el fz [[], []] hrow hu (by simp; omega) rfl (by intro v hv; simp only [List.mem_cons, List.not_mem_nil, or_false] at hv; rcases hv with rfl | rfl <;> rfl) ?_
    intro j v c q g1 g2 g3
    match j with
    | 0 =>
      cases g1; cases g3
      replace g2 := e0.symm.trans g2
      cases g2
      exact .flat _ _ .nilp .nilp
    | 1 =>
      cases g1; cases g3
      rw [e1] at g2
      cases g2
      exact bint _ _
    | j + 2 => simp at g1
  refine (after_of (Put_ok k v h h2) rfl w noPin (.cons hB0 (.cons (bstrL k) (.cons (bstrL v) .nil))) (by simp) (fun _ _ => rfl) noPin_ok rfl).mono ?_
  rintro e W' ⟨c, pin', o', oss, rfl, _, _, _, hF, hB, hL, _, hown⟩
  obtain rfl := rint _ _ _ _ hB
  obtain ⟨c, vals', q, os', hvl, _, hB1, hB2⟩ := hL.inv
  obtain rfl : c = .pointer (some ⟨b, o, none⟩) := by
    have := congrArg List.head? hvl
    simp [ioVals] at this
    exact this.symm
  obtain ⟨b', o2, bn, on, bl', ol, hc, ht⟩ := tree_of hB1
  cases hc
  exact ⟨rfl, ⟨bn, on, bl', ol, ht⟩, below_of hF (by simp; exact hnb) hnw⟩
theorem root_con (p v : List UInt8) (w : World) (b o bn on bl' ol : Nat) (t : SmtZ.Tree (lb (leafS p v)) (lb p) (lb v) w b o bn on bl' ol) :
    Calls Try.prog 16 #[.pointer (some ⟨b, o, none⟩)] w fun e W' => e = .returned (.string (lb (leafS p v))) ∧ RowKit.Below w.heap.size w W' := by
  obtain ⟨a0, el0, fz0, r0, t0⟩ := cellAt t.t0
  obtain ⟨a0', el0', fz0', r0', t1⟩ := cellAt t.t1
  rw [r0] at r0'
  cases r0'
  obtain ⟨a1, el1, fz1, r1, n0⟩ := cellAt t.n0
  obtain ⟨a1', el1', fz1', r1', n1⟩ := cellAt t.n1
  rw [r1] at r1'
  cases r1'
  obtain ⟨a1', el1', fz1', r1', n2⟩ := cellAt t.n2
  rw [r1] at r1'
  cases r1'
  obtain ⟨a1', el1', fz1', r1', n3⟩ := cellAt t.n3
  rw [r1] at r1'
  cases r1'
  obtain ⟨a2, el2, fz2, r2, l0⟩ := cellAt t.l0
  obtain ⟨a2', el2', fz2', r2', l1⟩ := cellAt t.l1
  rw [r2] at r2'
  cases r2'
  have lt : ∀ {a : Array Value} {i : Nat} {x : Value}, a[i]? = some x → i < a.size := fun hx => (Array.getElem?_eq_some_iff.1 hx).1
  have s0 := lt t1
  have s1 := lt n3
  have s2 := lt l1
  have hl : R noRen (allPin w) (.pt [.str p, .str v] 0) (.pointer (some ⟨bl', ol, none⟩)) := by
    refine .pt [.str p, .str v] 0 bl' ol a2 el2 fz2 r2 (by simp; omega) (by intro x hx; simp only [List.mem_cons, List.not_mem_nil, or_false] at hx; rcases hx with rfl | rfl <;> exact ⟨rfl, .str _⟩) ?_
    intro j x c g1 g2
    match j with
    | 0 => cases g1; replace g2 := (l0.symm.trans g2); cases g2; exact .str _
    | 1 => cases g1; rw [l1] at g2; cases g2; exact .str _
    | j + 2 => simp at g1
  have hn : R noRen (allPin w) (.pt [.nilp, .nilp, .pt [.str p, .str v] 0, .str (leafS p v)] 0) (.pointer (some ⟨bn, on, none⟩)) := by
    refine .pt [.nilp, .nilp, .pt [.str p, .str v] 0, .str (leafS p v)] 0 bn on a1 el1 fz1 r1 (by simp; omega) (by intro x hx; simp only [List.mem_cons, List.not_mem_nil, or_false] at hx; rcases hx with rfl | rfl | rfl | rfl <;> first | exact ⟨rfl, .nilp⟩ | exact ⟨rfl, .pt _ _⟩ | exact ⟨rfl, .str _⟩) ?_
    intro j x c g1 g2
    match j with
    | 0 => cases g1; replace g2 := (n0.symm.trans g2); cases g2; exact .nilp
    | 1 => cases g1; rw [n1] at g2; cases g2; exact .nilp
    | 2 => cases g1; rw [n2] at g2; cases g2; exact hl
    | 3 => cases g1; rw [n3] at g2; cases g2; exact .str _
    | j + 4 => simp at g1
  have ht : R noRen (allPin w) (.pt [.pt [.nilp, .nilp, .pt [.str p, .str v] 0, .str (leafS p v)] 0, .int .i64 1] 0) (.pointer (some ⟨b, o, none⟩)) := by
    refine .pt [.pt [.nilp, .nilp, .pt [.str p, .str v] 0, .str (leafS p v)] 0, .int .i64 1] 0 b o a0 el0 fz0 r0 (by simp; omega) (by intro x hx; simp only [List.mem_cons, List.not_mem_nil, or_false] at hx; rcases hx with rfl | rfl <;> first | exact ⟨rfl, .int _ _⟩ | exact ⟨rfl, .pt _ _⟩) ?_
    intro j x c g1 g2
    match j with
    | 0 => cases g1; replace g2 := (t0.symm.trans g2); cases g2; exact hn
    | 1 => cases g1; rw [t1] at g2; cases g2; exact .int _ _
    | j + 2 => simp at g1
  exact con_of (Root_ok p v) rfl rfl w (allPin w) (fun _ _ h => h) ⟨[[]], .cons (.flat _ _ (.pt _ _) ht) .nil, rfl⟩ rstr
theorem bproof {pin : Pin} {w : World} (p v : List UInt8) : B pin w (.agg [.sl .nil 0 [], .bool true, .str p, .str v]) (.agg #[.slice none 0 0, .bool true, .string (lb p), .string (lb v)]) [] := by
  refine .flat _ _ (.agg _ (by intro v hv; simp only [List.mem_cons, List.not_mem_nil, or_false] at hv; rcases hv with rfl | rfl | rfl | rfl <;> first | exact .sl _ _ _ | exact .bool _ | exact .str _)) (.agg _ _ rfl (by intro v hv; simp only [List.mem_cons, List.not_mem_nil, or_false] at hv; rcases hv with rfl | rfl | rfl | rfl <;> rfl) ?_)
  intro j v c h1 h2
  match j with
  | 0 => cases h1; cases h2; exact .slnil
  | 1 => cases h1; cases h2; exact .bool _
  | 2 => cases h1; cases h2; exact .str _
  | 3 => cases h1; cases h2; exact .str _
  | j + 4 => simp at h1
theorem pathab : pathS [97] ≠ pathS [98] := by
  show sha [80, 0, 0, 0, 1, 97] ≠ sha [80, 0, 0, 0, 1, 98]
  rw [sha_Pa, sha_Pb]
  decide
theorem val12 : valS [49] ≠ valS [50] := by
  show sha [86, 0, 0, 0, 1, 49] ≠ sha [86, 0, 0, 0, 1, 50]
  rw [sha_V1, sha_V2]
  decide
theorem pathS_len (k : List UInt8) : (pathS k).length = 32 := by unfold pathS; exact sha_len _
theorem valS_len (k : List UInt8) : (valS k).length = 32 := by unfold valS; exact sha_len _
theorem verify_con (x y : ByteArray) (z : Bool) (h : (x = ⟨#[97]⟩ ∧ y = ⟨#[49]⟩ ∧ z = true) ∨ (x = ⟨#[98]⟩ ∧ y = ⟨#[]⟩ ∧ z = false) ∨ (x = ⟨#[97]⟩ ∧ y = ⟨#[50]⟩ ∧ z = true)) (w : World) :
    Calls Try.prog 20 #[.string (lb (leafS (pathS [97]) (valS [49]))), .string x, .string y, .bool z, .agg #[.slice none 0 0, .bool true, .string (lb (pathS [97])), .string (lb (valS [49]))]] w fun e W' => e = .returned (.bool (decide (y ≠ ⟨#[50]⟩))) ∧ RowKit.Below w.heap.size w W' := by
  have go : ∀ (k v : List UInt8) (z r : Bool), Gf fns 20 [.str (leafS (pathS [97]) (valS [49])), .str k, .str v, .bool z, .agg [.sl .nil 0 [], .bool true, .str (pathS [97]), .str (valS [49])]] = some (.bool r, []) →
      Calls Try.prog 20 #[.string (lb (leafS (pathS [97]) (valS [49]))), .string (lb k), .string (lb v), .bool z, .agg #[.slice none 0 0, .bool true, .string (lb (pathS [97])), .string (lb (valS [49]))]] w fun e W' => e = .returned (.bool r) ∧ RowKit.Below w.heap.size w W' := fun k v z r hG =>
    con_of hG rfl rfl w noPin noPin_ok ⟨[[], [], [], [], []], .cons (bstrL _) (.cons (bstrL _) (.cons (bstrL _) (.cons (bbool _) (.cons (bproof _ _) .nil)))), rfl⟩ rbool
  rcases h with ⟨rfl, rfl, rfl⟩ | ⟨rfl, rfl, rfl⟩ | ⟨rfl, rfl, rfl⟩
  · have := go [97] [49] true true (by have := Verify_has (leafS (pathS [97]) (valS [49])) [97] [49] (by decide) (by decide); simpa using this)
    rw [show decide ((⟨#[49]⟩ : ByteArray) ≠ ⟨#[50]⟩) = true from by decide +kernel]
    exact this
  · have := go [98] [] false true (by have := Verify_other (leafS (pathS [97]) (valS [49])) [98] [] (pathS [97]) (valS [49]) (by decide) (by decide) (pathS_len _) (valS_len _) pathab; simpa using this)
    rw [show decide ((⟨#[]⟩ : ByteArray) ≠ ⟨#[50]⟩) = true from by decide +kernel]
    exact this
  · have := go [97] [50] true false (by have := Verify_val (leafS (pathS [97]) (valS [49])) [97] [50] (valS [49]) (by decide) (by decide) (valS_len _) val12; simpa using this)
    rw [show decide ((⟨#[50]⟩ : ByteArray) ≠ ⟨#[50]⟩) = false from by decide +kernel]
    exact this
theorem awake_con : SmtY.Con 7 #[] (.bool true) := fun w =>
  SmtZ.awake_in NewT (lb (leafS (pathS [97]) (valS [49]))) (lb (pathS [97])) (lb (valS [49])) new_con
    (fun w b o n hN h1 h2 => put_con [97] [49] (by decide) (by decide) w b o n hN h1 h2)
    (fun w b o bn on bl' ol t => root_con _ _ w b o bn on bl' ol t)
    (fun w k b o bn on bl' ol t hk => by
      have hp : ∃ kl : List UInt8, k = lb kl ∧ kl.length ≤ 1000000 := by
        rcases hk with rfl | rfl
        · exact ⟨[97], rfl, by decide⟩
        · exact ⟨[98], rfl, by decide⟩
      obtain ⟨kl, rfl, hkl⟩ := hp
      exact SmtW.prove_in (lb kl) (lb (pathS kl)) _ _ (by show (pathS kl).toArray.size = 32; simp [pathS_len]) (path_con kl hkl) b o bn on bl' ol w t.t0 t.n2 t.l0 t.l1 t.zb t.zn t.zl)
    (fun w x y z h => verify_con x y z h w) w
theorem law_calls1 (k v lp lv : ByteArray) (w : World) : Calls Try.prog 3 #[.string k, .string v, .agg #[.string lp, .string lv]] w fun e W' => e = .returned (.bool true) ∧ RowKit.Below w.heap.size w W' := by
  have f6 : ∀ s : List UInt8, (fewT s).length ≤ 1000000 := fun s => Nat.le_trans (few_len s) (by decide)
  have f7 : ∀ s : List UInt8, (pathS s).length ≤ 1000000 := fun s => by rw [pathS_len]; decide
  have f8 : ∀ s : List UInt8, (valS s).length ≤ 1000000 := fun s => by rw [valS_len]; decide
  exact SmtY.law_in (fun s => lb (fewT (bl s))) (fun s => lb (pathS (bl s))) (fun s => lb (valS (bl s))) (fun a b => lb (leafS (bl a) (bl b))) (fun a b => lb (joinS (bl a) (bl b))) k v lp lv
    awake_con (fun s => by have := few_con (bl s); rw [lb_bl] at this; exact this) (of_con _ _ (f6 _) (f6 _)) (path_con _ (f6 _)) (val_con _ (f6 _)) (leaf_con _ _ (f7 _) (f8 _)) (hash_con _ _ (f7 _) (f8 _))
    (leaf_con _ _ (f6 _) (f6 _)) (hash_con _ _ (f6 _) (f6 _)) (join_con _ _ (f6 _) (f6 _)) (fun w b hb => tagged_con _ _ (f6 _) (f6 _) w b hb) w
theorem tLeaf : tysOf Try.prog 23 = some [9, 9] := by kernel_rfl
theorem uStrN : Try.prog.underlying 9 = some .string := by kernel_rfl
theorem digests_calls {H : Type} {enc : TypeId × Value → H} {w : World} {base b : Nat} {spare : Nat → Bool} {held : Bool} {vals : Array Value} {ds : List (DataW H)} {ps : List MemPlace}
    (hp : ∀ t ∈ ([9, 9, 23] : List TypeId), plainT Try.prog 8 t = true)
    (hv : ∀ (j : Nat) t v, ([9, 9, 23] : List TypeId)[j]? = some t → vals[j]? = some v → Value.okWide Try.prog w .any b t v)
    (h : DataW.TrodAll enc Try.prog w base spare held [9, 9, 23] vals.toList ds ps) (hw : ∀ n ∈ DataW.weightsEach Try.prog [9, 9, 23] ds, n ≤ reachBytes) :
    Calls Try.prog 3 vals w (fun e w' => e = .returned (.bool true) ∧ RowKit.Below w.heap.size w w') := by
  obtain ⟨xs, oss, hB, hF, ho, hxl⟩ := args_stand laid hp (fun j t v h1 h2 => hv j t v h1 (by simpa using h2)) h hw
  obtain ⟨x, ys, rfl, h1, hF⟩ := fitsA_s hF
  obtain ⟨y, ys, rfl, h2, hF⟩ := fitsA_s hF
  obtain ⟨z, ys, rfl, h3, hF⟩ := fitsA_s hF
  obtain rfl := fitsA_0 hF
  obtain ⟨k, rfl, _⟩ := fit_str (d := 7) uStrN h1
  obtain ⟨v, rfl, _⟩ := fit_str (d := 7) uStrN h2
  obtain ⟨vs, rfl, g1⟩ := fit_struct (d := 7) tLeaf h3
  obtain ⟨a1, b1, rfl, f1, a2, b2, rfl, f2, rfl⟩ := g1
  obtain ⟨p, rfl, _⟩ := fits_str (d := 6) uStrN f1
  obtain ⟨q, rfl, _⟩ := fits_str (d := 6) uStrN f2
  obtain ⟨c1, vals1, o1, os1, hvl1, _, hB1, hB⟩ := hB.inv
  obtain ⟨c2, vals2, o2, os2, hvl2, _, hB2, hB⟩ := hB.inv
  obtain ⟨c3, vals3, o3, os3, hvl3, _, hB3, hB⟩ := hB.inv
  have hv0 : vals3 = [] := List.length_eq_zero_iff.1 (by simpa using hB.len.symm)
  obtain rfl := rstr _ _ _ _ hB1
  obtain rfl := rstr _ _ _ _ hB2
  obtain rfl := ragg2 _ _ _ _ hB3
  subst hv0
  subst hvl3
  subst hvl2
  obtain rfl : vals = #[.string (lb k), .string (lb v), .agg #[.string (lb p), .string (lb q)]] := by
    have := congrArg List.toArray hvl1
    simpa using this
  exact law_calls1 _ _ _ _ w
end Go.Vm.Ythfcgllahllkkaa
