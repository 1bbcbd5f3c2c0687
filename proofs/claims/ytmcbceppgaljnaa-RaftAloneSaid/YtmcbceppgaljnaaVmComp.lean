/- From the given model's operations to those of the machine over values. -/
import Derived.Test.YtmcbceppgaljnaaVmCore
set_option linter.unusedSectionVars false
set_option linter.unusedSimpArgs false
set_option linter.unusedVariables false
namespace Go.Vm

/-- For each of a list. -/
def mapO {α β : Type} (f : α → Option β) : List α → Option (List β)
  | [] => some []
  | x :: r => (f x).bind fun y => (mapO f r).map (y :: ·)

/-- A value without names. -/
def valV : Nat → Value → Option V
  | 0, _ => none
  | d + 1, v => match v with
    | .bool b => some (.bool b)
    | .int k n => some (.int k n)
    | .string s => some (.str s.data.toList)
    | .pointer none => some .nilp
    | .slice none 0 0 => some (.sl .nil 0 [])
    | .nilFunc => some .nilfn
    | .map none => some .nilm
    | .agg cs => (mapO (valV d) cs.toList).bind fun l => if l.all V.one then some (.agg l) else none
    | .tuple cs => (mapO (valV d) cs.toList).map .tup
    | _ => none
def opd : Operand → Option Opd
  | .tmp i => some (.t i)
  | .const v => (valV 4 v).map .c
  | .global _ => none
  | .func f => some (.c (.fn f []))
def opdO : Option Operand → Option (Option Opd)
  | none => some none
  | some x => (opd x).map some
section
variable (P : Program)
def zeroC (t : TypeId) : Option (List V) := (P.info? t).bind fun i => i.zero.bind fun v => (valV 4 v).map (·.cells)
def szC (t : TypeId) : Option Nat := (P.info? t).map (·.size)
def byC (t : TypeId) : Option Nat := (P.info? t).map (·.bytes)
def aggC (t : TypeId) : Option Bool := (P.underlying t).map fun | .struct _ | .array _ _ => true | _ => false

/-- A kind of things that are compared. -/
def ckOf (t : TypeId) : Option CK := match P.underlying t with
  | some .bool => some .b
  | some (.int _) => some .i
  | some .string => some .s
  | _ => none
/-- A struct of such, one behind another. -/
def flatC (t : TypeId) : Option (List CK) := match P.underlying t with
  | some (.struct fs) => if P.stoodInHeld t = false ∧ P.eqGuardType P.depth t = false ∧ (fs.toList.zipIdx.all fun p => p.1.name != "_" && p.1.offset == p.2) = true then mapO (fun f : Field => ckOf P f.type) fs.toList else none
  | _ => none
def kkOf (t : TypeId) : Option KK := match ckOf P t with
  | some c => some (.one c)
  | none => (flatC P t).map .many
def zeroV (t : TypeId) : Option V := (P.info? t).bind fun i => i.zero.bind fun v => valV 4 v

/-- Is a type one of pointers? -/
def ptrT (t : TypeId) : Bool := match P.underlying t with
  | some (.pointer _) => true
  | _ => false
def compCall (c : Call) : Option Ins :=
  match c.callee with
  | .value (.func f) => (mapO opd c.args.toList).map (.call f)
  | .value x => (opd x).bind fun x => (mapO opd c.args.toList).map (.callv x)
  | .builtin .len => match c.args.toList, c.argTypes.toList with
    | [x], [t] => match P.underlying t with
      | some .string => (opd x).map (.len true)
      | some (.slice _) => (opd x).map (.len false)
      | some (.array n _) => some (.mov (.c (.int .i64 n)))
      | some (.map _ _) => (opd x).map .mlen
      | _ => none
    | _, _ => none
  | .builtin .delete => match c.args.toList, c.argTypes.toList with
    | [x, y], t :: _ => match P.underlying t with
      | some (.map k _) => (kkOf P k).bind fun kk => (opd x).bind fun x => (opd y).map fun y => .mdel kk x y
      | _ => none
    | _, _ => none
  | .builtin .clear => match c.args.toList, c.argTypes.toList with
    | [x], t :: _ => match P.underlying t with
      | some (.slice e) => (szC P e).bind fun s => (zeroC P e).bind fun z => (opd x).bind fun x => if 0 < s ∧ z.length = s then some (.clr s z x) else none
      | _ => none
    | _, _ => none
  | .builtin .append => match c.args.toList, c.argTypes.toList with
    | [x, y], [t, u] => match P.underlying t, P.underlying u with
      | some (.slice e), some .string | some (.slice e), some (.slice _) => (szC P e).bind fun s => (byC P e).bind fun b => (zeroC P e).bind fun z => (opd x).bind fun x => (opd y).bind fun y => if 0 < s ∧ 0 < b ∧ z.length = s then some (if ptrT P e = true then .appP s b x y else .app s b x y) else none
      | _, _ => none
    | _, _ => none
  | .builtin .copy => match c.args.toList, c.argTypes.toList with
    | [x, y], [t, _] => match P.underlying t with
      | some (.slice e) => (szC P e).bind fun s => (opd x).bind fun x => (opd y).bind fun y => if 0 < s then some (.copy s x y) else none
      | _ => none
    | _, _ => none
  | .builtin .min => match c.args.toList with
    | [x, y] => (opd x).bind fun x => (opd y).map (.mm false x)
    | _ => none
  | .builtin .max => match c.args.toList with
    | [x, y] => (opd x).bind fun x => (opd y).map (.mm true x)
    | _ => none
  | _ => none

def compOp0 (o : Op) : Option Ins :=
  match o with
  | .move x | .assign x => (opd x).map .mov
  | .pick c a b => (opd c).bind fun c => (opd a).bind fun a => (opd b).map (.pick c a)
  | .alloc e => (zeroC P e).bind fun z => if z ≠ [] then some (.new z) else none
  | .box e x => (szC P e).bind fun n => if 0 < n then (opd x).map (.box n) else none
  | .build t parts => match P.underlying t with
    | some (.struct fs) => if fs.toList.all (fun f => (szC P f.type).isSome) then (zeroC P t).bind fun z => (mapO (fun (p : Nat × Operand) => (fs[p.1]?).bind fun f => (szC P f.type).bind fun s => if 0 < s then (opd p.2).map fun x => (f.offset, s, x) else none) parts.toList).bind fun ps => if z ≠ [] then some (.mk z ps) else none else none
    | some (.array _ e) => (zeroC P t).bind fun z => (szC P e).bind fun s => if 0 < s then (mapO (fun (p : Nat × Operand) => (opd p.2).map fun x => (p.1 * s, s, x)) parts.toList).bind fun ps => if z ≠ [] then some (.mk z ps) else none else none
    | _ => none
  | .buildSlice t len parts => match P.underlying t with
    | some (.slice e) => (szC P e).bind fun s => (zeroC P e).bind fun z => if len * s ≤ 4096 ∧ z.length = s ∧ 0 < s then
        (mapO (fun (p : Nat × Operand) => (opd p.2).map fun x => (p.1 * s, s, x)) parts.toList).map (.mksl s len (List.replicate len z).flatten) else none
    | _ => none
  | .load t a => (aggC P t).bind fun g => (szC P t).bind fun n => if g ∨ n = 1 then (opd a).map (.ld g n) else none
  | .store t a x => (aggC P t).bind fun g => (szC P t).bind fun n => if (g ∨ n = 1) ∧ 0 < n then (opd a).bind fun a => (opd x).map (.st g n a) else none
  | .nilCheck x => (opd x).map .chk
  | .binOp op t x y _ => (opd x).bind fun x => (opd y).bind fun y => match P.underlying t with
    | some (.int _) | some .string => some (.bin op x y)
    | some .bool => match op with
      | .eql => some (.eqn false .bool x y)
      | .neq => some (.eqn true .bool x y)
      | _ => none
    | some (.pointer _) => match op with
      | .eql => some (.eqn false .ptr x y)
      | .neq => some (.eqn true .ptr x y)
      | _ => none
    | some (.slice _) => match op with
      | .eql => some (.eqn false .sl x y)
      | .neq => some (.eqn true .sl x y)
      | _ => none
    | some (.func _ _ _) => match op with
      | .eql => some (.eqn false .fn x y)
      | .neq => some (.eqn true .fn x y)
      | _ => none
    | some (.struct _) => match op with
      | .eql => (flatC P t).map fun ks => .eqS false ks x y
      | .neq => (flatC P t).map fun ks => .eqS true ks x y
      | _ => none
    | _ => none
  | .unOp op _ x => (opd x).map (.un op)
  | .convert s d x => (opd x).bind fun x => match P.underlying s, P.underlying d with
    | some (.int _), some (.int k) => some (.toInt k x)
    | some .string, some .string => some (.sameS x)
    | some .string, some (.slice e) => match P.underlying e with
      | some (.int .u8) => some (.toBytes x)
      | _ => none
    | some (.slice e), some .string => match P.underlying e with
      | some (.int .u8) => some (.toStr x)
      | _ => none
    | _, _ => none
  | .makeSlice t l c => match P.underlying t with
    | some (.slice e) => (szC P e).bind fun s => (byC P e).bind fun b => (zeroC P e).bind fun z => (opd l).bind fun l => (opd c).bind fun c => if z.length = s ∧ 0 < s ∧ 0 < b then some (.mkSlice s b z l c) else none
    | _ => none
  | .slice t x lo hi mx => (opd x).bind fun x => (opdO lo).bind fun lo => (opdO hi).bind fun hi => (opdO mx).bind fun mx => match P.underlying t with
    | some .string => if mx.isNone then some (.slS x lo hi) else none
    | some (.slice e) => (szC P e).bind fun s => if 0 < s then some (.slL s x lo hi mx) else none
    | some (.array n e) => (szC P e).bind fun s => if 0 < s ∧ mx.isNone then some (.slA n s x lo hi) else none
    | _ => none
  | .fieldAddr t x f => match P.underlying t with
    | some (.struct fs) => (fs[f]?).bind fun f => (szC P f.type).bind fun s => if 0 < s then (opd x).map (.fad f.offset) else none
    | _ => none
  | .field t x f => match P.underlying t with
    | some (.struct fs) => (fs[f]?).bind fun f => (aggC P f.type).bind fun g => (szC P f.type).bind fun n => if g ∨ n = 1 then (opd x).map (.fld g f.offset n) else none
    | _ => none
  | .indexAddr t x i => (opd x).bind fun x => (opd i).bind fun i => match P.underlying t with
    | some (.array n e) => (szC P e).map fun s => .iaA n s x i
    | some (.slice e) => (szC P e).map fun s => .iaL s x i
    | _ => none
  | .index t x i => (opd x).bind fun x => (opd i).bind fun i => match P.underlying t with
    | some (.array n e) => (aggC P e).bind fun g => (szC P e).bind fun s => if g ∨ s = 1 then some (.ixA g n s x i) else none
    | some .string => some (.ixS x i)
    | _ => none
  | .extract x i => (opd x).map (.ext i)
  | .call c => compCall P c
  | .makeMap _ none => some .mkm
  | .insert t m k v | .mapUpdate t m k v => match P.underlying t with
    | some (.map kt _) => (kkOf P kt).bind fun kk => (opd m).bind fun m => (opd k).bind fun k => (opd v).map fun v => .mset kk m k v
    | _ => none
  | .lookup t m k ok => match P.underlying t with
    | some (.map kt et) => (kkOf P kt).bind fun kk => (zeroV P et).bind fun z => (opd m).bind fun m => (opd k).map fun k => .mget kk ok z m k
    | _ => none
  | .range t x => match P.underlying t with
    | some (.map _ _) => (opd x).map .rng
    | _ => none
  | .next x false => (opd x).map .nxt
  | .entry x => (opd x).map .ent
  | .makeFunc (.func f) first caps => if first.isEmpty then (mapO opd caps.toList).map (.clo f) else match first.toList, caps.toList with
    | [x], [] => (opd x).map (.clb f)
    | _, _ => none
  | _ => none

/-- Is a function the runtime's comparing of texts? -/
def cmpFn (f : FuncId) : Bool := match P.funcs[f]? with
  | some fn => fn.name == "internal/bytealg.abigen_runtime_cmpstring" && fn.body.isNone && (Extern.allNextRows.lookup fn.origin).isNone
  | none => false
def cmpIns (o : Op) : Option Ins := match o with
  | .call c => match c.callee, c.args.toList with
    | .value (.func f), [x, y] => if cmpFn P f = true then (opd x).bind fun x => (opd y).map (.cmp x) else none
    | _, _ => none
  | _ => none
/-- What the machine does not take stops it. -/
def compOp (o : Op) : Option Ins := match cmpIns P o with
  | some i => some i
  | none => some ((compOp0 P o).getD (.ent (.c .nilp)))

/-- Each operation's ancestors. -/
def ancs (l : List (List Nat)) : List (List Nat) :=
  l.foldl (fun acc d => acc ++ [(d ++ (d.map fun i => acc.getD i []).flatten).eraseDups]) []
def ancOk (an deps : List (List Nat)) : Bool :=
  (List.range deps.length).all fun j => (deps.getD j []).all (· < j) && (an.getD j []).all fun y => (deps.getD j []).contains y || (deps.getD j []).any fun d => (an.getD d []).contains y

def Opd.slots : Opd → List Nat
  | .t i => [i]
  | .c _ => []
def Opd.slotsO : Option Opd → List Nat
  | some x => x.slots
  | none => []
def Ins.slots : Ins → List Nat
  | .mkm => []
  | .mlen x | .clr _ _ x | .rng x | .nxt x | .ent x | .clb _ x => x.slots
  | .mov x | .box _ x | .ld _ _ x | .chk x | .un _ x | .toInt _ x | .toBytes x | .toStr x | .fad _ x | .fld _ _ _ x | .ext _ x | .len _ x | .sameS x => x.slots
  | .pick a b c | .mset _ a b c => a.slots ++ b.slots ++ c.slots
  | .new _ => []
  | .mk _ ps | .mksl _ _ _ ps => ps.flatMap fun p => p.2.2.slots
  | .eqS _ _ a b | .mget _ _ _ a b | .mdel _ a b | .st _ _ a b | .bin _ a b | .eqn _ _ a b | .mkSlice _ _ _ a b | .iaA _ _ a b | .iaL _ a b | .ixA _ _ _ a b | .ixS a b | .mm _ a b | .cmp a b | .app _ _ a b | .appP _ _ a b | .copy _ a b => a.slots ++ b.slots
  | .slS x a b | .slA _ _ x a b => x.slots ++ Opd.slotsO a ++ Opd.slotsO b
  | .slL _ x a b c => x.slots ++ Opd.slotsO a ++ Opd.slotsO b ++ Opd.slotsO c
  | .clo _ xs | .call _ xs => xs.flatMap Opd.slots
  | .callv x xs => x.slots ++ xs.flatMap Opd.slots
/-- The slots that an operation looks at. -/
def IOp.looks (o : IOp) : List Nat := o.ins.slots ++ (match o.grd with | some (j, _) => [j] | none => [])
/-- Two operations that share no slot. -/
def IOp.apart (x y : IOp) : Bool :=
  (match x.dst with | some d => !(y.looks.contains d) && y.dst != some d && y.base != x.base | none => true) && (match y.dst with | some d => !(x.looks.contains d) | none => true)
def apartOk (ops : List IOp) : Bool :=
  (List.range ops.length).all fun j => (List.range j).all fun i => (ops.getD j default).anc.contains i || (ops.getD i default).apart (ops.getD j default)

def compReg (β N : Nat) (ops : Array Oper) (draw : Bool) : Option IC :=
  (mapO (fun o => (compOp P o.op).map fun i => (o, i)) ops.toList).bind fun l =>
    let deps : List (List Nat) := if draw then l.map fun p => ((p.1.after.toList.filter fun e => Region.binds .any e).map (·.on)) else l.map fun _ => []
    let an := if draw then ancs deps else deps
    (mapO (fun (q : ((Oper × Ins) × List Nat) × List Nat) =>
      if q.1.1.1.dst.all (· < N) then
      match q.1.1.1.guard with
      | none => some ({ dst := q.1.1.1.dst, grd := none, ins := q.1.1.2, deps := q.1.2, anc := q.2, base := β + 64 * (q.1.1.1.dst.getD 0 + 1) } : IOp)
      | some (j, w) => ((ops[j]?).bind (·.dst)).map fun s => ({ dst := q.1.1.1.dst, grd := some (s, w), ins := q.1.1.2, deps := q.1.2, anc := q.2, base := β + 64 * (q.1.1.1.dst.getD 0 + 1) } : IOp) else none) ((l.zip deps).zip an)).bind fun ios =>
        if draw = false ∨ (ancOk an deps ∧ apartOk ios) then some (.reg draw ios) else none
/-- Code that stops the machine. -/
def stuckC : IC := .reg false [{ dst := none, grd := none, ins := .ent (.c .nilp), deps := [], anc := [], base := 0 }]
def compC (β N : Nat) : Code → Option IC
  | .skip => some .skip
  | .region _ ops draw => compReg P β N ops draw
  | .seq a b => (compC β N a).bind fun a => (compC β N b).map (.seq a)
  | .cond x a b => (opd x).bind fun x => (compC β N a).bind fun a => (compC β N b).map (.cond x a)
  | .block id c => (compC β N c).map (.block id)
  | .loop c => (compC β N c).map .loop
  | .exit id => some (.exit id)
  | .scope c => (compC β N c).map .scope
  | .ret => some .ret
  | _ => some stuckC
def compF (β : Nat) (f : Func) : Option IFun :=
  f.body.bind fun b => (compC P β f.ntmps b).bind fun c => (mapO (fun (x : ResultVar) => match x with
    | .tmp t => some (IRes.tmp t)
    | .cell t ty => (aggC P ty).bind fun g => (szC P ty).bind fun n => if g ∨ n = 1 then some (.cell t g n) else none) f.results.toList).map fun r => ⟨f.params.size + f.nfree, f.ntmps, r, c, none⟩
end

end Go.Vm
