/- A machine over values: memory that only one name can write is a numbered block, all else is told by value. It runs the same operations as the given model's; VmRel and what follows show that what it reckons the model reckons, in every order that the model leaves open. -/
import GoSem.Step
import Derived.Laws.Entries
set_option linter.unusedSectionVars false
set_option linter.unusedSimpArgs false
set_option linter.unusedVariables false
namespace Go.Vm

/-- May bytes that come from a text be written? (Then a row may be one of which the model says that its place may be a text's.) -/
def strsB : Bool := true

/-- Slices that are read alone: nil; empty with no room; any other. -/
inductive SK where
  | nil | zero | ro
  deriving DecidableEq, Inhabited

/-- Values. ptr, sli, mp: names of numbered blocks (number, age, place); pt, sl, rmp: read alone, by value; opt, osl, omp: owned, by value (at a call's border); mcell: all that a map's block has; junk: a value that nobody looks at; itm: an iterator over a map that has nothing; mth: a method with its receiver. -/
inductive V where
  | int (k : IntKind) (n : Int)
  | bool (b : Bool)
  | str (s : List UInt8)
  | agg (cs : List V)
  | tup (vs : List V)
  | nilp
  | ptr (id g off : Nat)
  | pt (cs : List V) (off : Nat)
  | opt (cs : List V)
  | sl (k : SK) (n : Nat) (cs : List V)
  | sli (id g off n esz : Nat)
  | osl (esz n : Nat) (cs : List V)
  | fn (f : Nat) (caps : List V)
  | nilfn
  | nilm
  | mp (id g : Nat)
  | rmp (es : List (V × V))
  | omp (es : List (V × V))
  | mcell (es : List (V × V))
  | junk
  | itm (id g : Nat)
  | mth (f id g off : Nat)
  deriving Inhabited

/-- What may be done with a block. -/
inductive BS where
  | dead | rw | fz
  deriving DecidableEq, Inhabited

/-- A block: its age, what may be done with it, is it a row of a slice's things (whose cells name no block), its cells. -/
structure Blk where
  gen : Nat
  st : BS
  arr : Bool
  cells : List V
  deriving Inhabited

abbrev Store := Nat → Blk
def noBlk : Blk := ⟨0, .dead, false, []⟩
def upd {α : Type} (f : Nat → α) (i : Nat) (x : α) : Nat → α := fun j => if j = i then x else f j
def upds (σ : Store) (l : List (Nat × Blk)) : Store := l.foldl (fun σ p => upd σ p.1 p.2) σ

inductive Opd where
  | t (i : Nat)
  | c (v : V)
  deriving Inhabited
def Opd.ev (t : Nat → V) : Opd → V
  | .t i => t i
  | .c v => v

inductive EqK where
  | bool | ptr | sl | fn
  deriving DecidableEq, Inhabited

/-- Kinds of things that are compared: a truth, a number, a text; a map's keys: one such, or a struct of such. -/
inductive CK where
  | b | i | s
  deriving DecidableEq, Inhabited
inductive KK where
  | one (c : CK)
  | many (cs : List CK)
  deriving DecidableEq, Inhabited

inductive Ins where
  | mov (x : Opd)
  | pick (c a b : Opd)
  | new (zero : List V)
  | box (n : Nat) (x : Opd)
  | mk (zero : List V) (parts : List (Nat × Nat × Opd))
  | mksl (esz len : Nat) (zero : List V) (parts : List (Nat × Nat × Opd))
  | ld (agg : Bool) (n : Nat) (x : Opd)
  | st (agg : Bool) (n : Nat) (a x : Opd)
  | chk (x : Opd)
  | bin (op : BinOp) (x y : Opd)
  | eqn (neg : Bool) (k : EqK) (x y : Opd)
  | eqS (neg : Bool) (ks : List CK) (x y : Opd)
  | mkm
  | mget (kk : KK) (ok : Bool) (z : V) (x y : Opd)
  | mset (kk : KK) (x y z : Opd)
  | mdel (kk : KK) (x y : Opd)
  | mlen (x : Opd)
  | rng (x : Opd)
  | nxt (x : Opd)
  | ent (x : Opd)
  | clb (f : Nat) (x : Opd)
  | clr (esz : Nat) (zero : List V) (x : Opd)
  | un (op : UnOp) (x : Opd)
  | toInt (k : IntKind) (x : Opd)
  | toBytes (x : Opd)
  | toStr (x : Opd)
  | mkSlice (esz bytes : Nat) (zero : List V) (len cap : Opd)
  | slS (x : Opd) (lo hi : Option Opd)
  | slL (esz : Nat) (x : Opd) (lo hi mx : Option Opd)
  | slA (n esz : Nat) (x : Opd) (lo hi : Option Opd)
  | fad (off : Nat) (x : Opd)
  | fld (agg : Bool) (off n : Nat) (x : Opd)
  | iaA (n esz : Nat) (x i : Opd)
  | iaL (esz : Nat) (x i : Opd)
  | ixA (agg : Bool) (n esz : Nat) (x i : Opd)
  | ixS (x i : Opd)
  | ext (i : Nat) (x : Opd)
  | len (text : Bool) (x : Opd)
  | sameS (x : Opd)
  | mm (mx : Bool) (x y : Opd)
  | cmp (x y : Opd)
  | app (esz bytes : Nat) (x y : Opd)
  | appP (esz bytes : Nat) (x y : Opd)
  | copy (esz : Nat) (x y : Opd)
  | clo (f : Nat) (caps : List Opd)
  | call (f : Nat) (args : List Opd)
  | callv (x : Opd) (args : List Opd)
  deriving Inhabited

structure IOp where
  dst : Option Nat
  grd : Option (Nat × Bool)
  ins : Ins
  deps : List Nat
  anc : List Nat
  base : Nat
  deriving Inhabited

inductive IC where
  | skip
  | reg (draw : Bool) (ops : List IOp)
  | seq (a b : IC)
  | cond (x : Opd) (a b : IC)
  | block (id : Nat) (c : IC)
  | loop (c : IC)
  | exit (id : Nat)
  | scope (c : IC)
  | ret
  deriving Inhabited

/-- A result's place: a slot, or a variable's address in a slot (agg, cells). -/
inductive IRes where
  | tmp (t : Nat)
  | cell (t : Nat) (agg : Bool) (n : Nat)
  deriving Inhabited

inductive Mode where
  | bor | io | mov
  deriving DecidableEq, Inhabited
/-- A function's form; or (hand) what it answers, shown by hand: how its arguments are handed over, and the answer. -/
structure IFun where
  np : Nat
  nt : Nat
  res : List IRes
  body : IC
  hand : Option (List Mode × (List V → Option (V × List V)))
  deriving Inhabited

/-- A callee: how each argument is handed over, and what it answers: the result, and what the lent arguments are behind it. -/
structure Entry where
  modes : List Mode
  G : List V → Option (V × List V)
  raw : Option (List V → (Nat → Blk) → Option (V × (Nat → Blk)))
abbrev Tbl := Nat → Option Entry

/-! ### Names in values -/
/-- For each of a list, and all that was met. -/
def mapQ (f : V → Option (V × List Nat)) : List V → Option (List V × List Nat)
  | [] => some ([], [])
  | x :: r => (f x).bind fun (y, is) => (mapQ f r).bind fun (ys, js) => some (y :: ys, is ++ js)

/-- A value told by value, to be read alone; and the blocks met. -/
def roV (σ : Store) : Nat → V → Option (V × List Nat)
  | 0, _ => none
  | d + 1, v => match v with
    | .int k n => some (.int k n, [])
    | .bool b => some (.bool b, [])
    | .str s => some (.str s, [])
    | .nilp => some (.nilp, [])
    | .nilfn => some (.nilfn, [])
    | .sl k n cs => some (.sl k n cs, [])
    | .pt cs o => some (.pt cs o, [])
    | .nilm => some (.nilm, [])
    | .rmp es => some (.rmp es, [])
    | .junk => some (.junk, [])
    | .mp id g =>
      if (σ id).gen = g ∧ (σ id).st ≠ .dead then
        match (σ id).cells with
        | [.mcell es] => some (.rmp es, [id])
        | _ => none
      else none
    | .agg cs => (mapQ (roV σ d) cs).map fun (cs, is) => (.agg cs, is)
    | .tup cs => (mapQ (roV σ d) cs).map fun (cs, is) => (.tup cs, is)
    | .fn f cs => (mapQ (roV σ d) cs).map fun (cs, is) => (.fn f cs, is)
    | .sli id g off n esz =>
      if (σ id).gen = g ∧ (σ id).st ≠ .dead ∧ off + n * esz ≤ (σ id).cells.length then
        if (σ id).arr then some (.sl .ro n (((σ id).cells.drop off).take (n * esz)), [id])
        else (mapQ (roV σ d) (((σ id).cells.drop off).take (n * esz))).map fun (cs, is) => (.sl .ro n cs, id :: is)
      else none
    | .ptr id g off =>
      if (σ id).gen = g ∧ (σ id).st ≠ .dead then
        if (σ id).arr then some (.pt (σ id).cells off, [id])
        else (mapQ (roV σ d) (σ id).cells).map fun (cs, is) => (.pt cs off, id :: is)
      else none
    | .opt _ | .osl _ _ _ | .omp _ | .mcell _ | .itm _ _ | .mth _ _ _ _ => none

/-- A value handed over with what it owns; and the blocks handed over. -/
def ownV (σ : Store) : Nat → V → Option (V × List Nat)
  | 0, _ => none
  | d + 1, v => match v with
    | .int k n => some (.int k n, [])
    | .bool b => some (.bool b, [])
    | .str s => some (.str s, [])
    | .nilp => some (.nilp, [])
    | .nilfn => some (.nilfn, [])
    | .sl k n cs => some (.sl k n cs, [])
    | .pt cs o => some (.pt cs o, [])
    | .nilm => some (.nilm, [])
    | .rmp es => some (.rmp es, [])
    | .junk => some (.junk, [])
    | .mp id g =>
      if (σ id).gen = g ∧ (σ id).st ≠ .dead then
        match (σ id).cells with
        | [.mcell es] => if (σ id).st = .rw then some (.omp es, [id]) else some (.rmp es, [])
        | _ => none
      else none
    | .agg cs => (mapQ (ownV σ d) cs).map fun (cs, is) => (.agg cs, is)
    | .tup cs => (mapQ (ownV σ d) cs).map fun (cs, is) => (.tup cs, is)
    | .fn f cs => (mapQ (ownV σ d) cs).map fun (cs, is) => (.fn f cs, is)
    | .sli id g off n esz =>
      if (σ id).gen = g ∧ (σ id).st = .rw ∧ (σ id).arr = true ∧ off + n * esz ≤ (σ id).cells.length then
        some (.osl esz n (((σ id).cells.drop off).take (n * esz)), [id])
      else if (σ id).gen = g ∧ (σ id).st = .fz ∧ (σ id).arr = true ∧ off + n * esz ≤ (σ id).cells.length then
        some (.sl .ro n (((σ id).cells.drop off).take (n * esz)), [])
      else none
    | .ptr id g off =>
      if (σ id).gen = g ∧ (σ id).st = .rw ∧ (σ id).arr = false ∧ off = 0 then
        (mapQ (ownV σ d) (σ id).cells).map fun (cs, is) => (.opt cs, id :: is)
      else if (σ id).gen = g ∧ (σ id).st = .fz ∧ (σ id).arr = false then
        (mapQ (roV σ d) (σ id).cells).bind fun (cs, is) => if is.all (fun i => (σ i).st = .fz) then some (.pt cs off, []) else none
      else none
    | .opt _ | .osl _ _ _ | .omp _ | .mcell _ | .itm _ _ | .mth _ _ _ _ => none

/-- For each of a list, the next number handed on. -/
def mapM' (f : Nat → V → Option (V × List (Nat × Blk) × Nat)) : Nat → List V → Option (List V × List (Nat × Blk) × Nat)
  | k, [] => some ([], [], k)
  | k, x :: r => (f k x).bind fun (y, w1, k1) => (mapM' f k1 r).bind fun (ys, w2, k2) => some (y :: ys, w1 ++ w2, k2)

/-- A value that came over a border: what it owns becomes blocks, from number k on. -/
def matV (σ : Store) : Nat → Nat → V → Option (V × List (Nat × Blk) × Nat)
  | 0, _, _ => none
  | d + 1, k, v => match v with
    | .agg cs => (mapM' (matV σ d) k cs).map fun (cs, w, k') => (.agg cs, w, k')
    | .tup cs => (mapM' (matV σ d) k cs).map fun (cs, w, k') => (.tup cs, w, k')
    | .fn f cs => (mapM' (matV σ d) k cs).map fun (cs, w, k') => (.fn f cs, w, k')
    | .opt cs => (mapM' (matV σ d) (k + 1) cs).map fun (cs, w, k') => (.ptr k ((σ k).gen + 1) 0, w ++ [(k, ⟨(σ k).gen + 1, .rw, false, cs⟩)], k')
    | .osl esz n cs => some (.sli k ((σ k).gen + 1) 0 n esz, [(k, ⟨(σ k).gen + 1, .rw, true, cs⟩)], k + 1)
    | .omp es => some (.mp k ((σ k).gen + 1), [(k, ⟨(σ k).gen + 1, .rw, false, [.mcell es]⟩)], k + 1)
    | .ptr _ _ _ | .sli _ _ _ _ _ | .mp _ _ | .mcell _ | .itm _ _ | .mth _ _ _ _ => none
    | v => some (v, [], k)

/-- How deep values are gone into. -/
def dep : Nat := 8

/-- Does a value name memory that is read alone? -/
def hasRo : Nat → V → Bool
  | 0, _ => true
  | d + 1, v => match v with
    | .agg cs | .tup cs | .opt cs | .osl _ _ cs | .fn _ cs => cs.any (hasRo d)
    | .sl .ro n _ => n != 0
    | .pt _ _ | .rmp _ | .itm _ _ => true
    | _ => false

/-! ### Operations -/
structure Res where
  val : V
  wr : List (Nat × Blk)
  rd : List Nat

/-- Texts in their order. -/
def cmpS : List UInt8 → List UInt8 → Int
  | [], [] => 0
  | [], _ :: _ => -1
  | _ :: _, [] => 1
  | a :: as, b :: bs => if a < b then -1 else if b < a then 1 else cmpS as bs
def u8 (b : UInt8) : V := .int .u8 (b.toNat : Int)
def bytesOf : List V → Option (List UInt8)
  | [] => some []
  | .int .u8 n :: r => (bytesOf r).map fun l => UInt8.ofNat n.toNat :: l
  | _ => none

def V.cells : V → List V
  | .agg cs => cs
  | .tup _ | .opt _ | .osl _ _ _ | .omp _ | .mcell _ => []
  | v => [v]
/-- A value of one cell. -/
def V.one : V → Bool
  | .agg _ | .tup _ | .opt _ | .osl _ _ _ | .omp _ | .mcell _ => false
  | _ => true
def V.asInt : V → Option Int
  | .int _ n => some n
  | _ => none

def intV (op : BinOp) (k : IntKind) (a b : Int) : Option V :=
  match op with
  | .add => some (.int k (k.wrap (a + b)))
  | .sub => some (.int k (k.wrap (a - b)))
  | .mul => some (.int k (k.wrap (a * b)))
  | .quo => if b = 0 then none else some (.int k (k.wrap (a.tdiv b)))
  | .rem => if b = 0 then none else some (.int k (a.tmod b))
  | .and | .or | .xor | .andNot => some (.int k (bits op k a b))
  | .eql => some (.bool (a == b))
  | .neq => some (.bool (a != b))
  | .lss => some (.bool (decide (a < b)))
  | .leq => some (.bool (decide (a ≤ b)))
  | .gtr => some (.bool (decide (a > b)))
  | .geq => some (.bool (decide (a ≥ b)))
  | .shl | .shr => none
def strV (op : BinOp) (a b : List UInt8) : Option V :=
  match op with
  | .add => if a.length + b.length ≤ 4611686018427387904 then some (.str (a ++ b)) else none
  | .eql => some (.bool (a == b))
  | .neq => some (.bool (!(a == b)))
  | .lss => some (.bool (Op.bytesLess a b))
  | .leq => some (.bool (Op.bytesLess a b || a == b))
  | .gtr => some (.bool (!(Op.bytesLess a b || a == b)))
  | .geq => some (.bool (!Op.bytesLess a b))
  | _ => none
def binV (op : BinOp) (x y : V) : Option V :=
  match x, y with
  | .int k a, .int k' b =>
    match op with
    | .shl => if 0 ≤ b then some (.int k (k.wrap (a * 2 ^ min b.toNat k.bits))) else none
    | .shr => if 0 ≤ b then some (.int k (a.fdiv (2 ^ min b.toNat k.bits))) else none
    | op => if k = k' then intV op k a b else none
  | .str a, .str b => strV op a b
  | _, _ => none
def V.isNil : V → Bool
  | .nilp | .nilfn => true
  | .sl .nil _ _ => true
  | _ => false
def eqV (k : EqK) (x y : V) : Option Bool :=
  match k, x, y with
  | .bool, .bool a, .bool b => some (a == b)
  | .ptr, .nilp, .nilp => some true
  | .ptr, .nilp, .ptr _ _ _ | .ptr, .nilp, .pt _ _ | .ptr, .ptr _ _ _, .nilp | .ptr, .pt _ _, .nilp => some false
  | .sl, .sl .nil _ _, .sl k _ _ => some (k == .nil)
  | .sl, .sl k _ _, .sl .nil _ _ => some (k == .nil)
  | .sl, .sl .nil _ _, .sli _ _ _ _ _ | .sl, .sli _ _ _ _ _, .sl .nil _ _ => some false
  | .fn, .nilfn, .nilfn => some true
  | .fn, .nilfn, .fn _ _ | .fn, .fn _ _, .nilfn => some false
  | _, _, _ => none
/-- Are two things the same? -/
def eqC : CK → V → V → Option Bool
  | .b, .bool a, .bool b => some (decide (a = b))
  | .i, .int k a, .int k' b => if k = k' then some (decide (a = b)) else none
  | .s, .str a, .str b => some (decide (a = b))
  | _, _, _ => none
def eqCs : List CK → List V → List V → Option Bool
  | [], [], [] => some true
  | k :: ks, x :: xs, y :: ys => (eqC k x y).bind fun b => (eqCs ks xs ys).map fun c => b && c
  | _, _, _ => none
def eqKV : KK → V → V → Option Bool
  | .one c, x, y => eqC c x y
  | .many cs, .agg xs, .agg ys => eqCs cs xs ys
  | _, _, _ => none
def basB : V → Bool
  | .int _ _ | .bool _ | .str _ => true
  | _ => false
def flatB : V → Bool
  | .agg cs => cs.all basB
  | v => basB v
/-- What a map has for a key. -/
def mfind (kk : KK) (k : V) : List (V × V) → Option (Option V)
  | [] => some none
  | e :: r => (eqKV kk k e.1).bind fun b => if b = true then some (some e.2) else mfind kk k r
def mput (kk : KK) (k v : V) : List (V × V) → Option (List (V × V))
  | [] => some [(k, v)]
  | e :: r => (eqKV kk k e.1).bind fun b => if b = true then some ((k, v) :: r) else (mput kk k v r).map (e :: ·)
def mrem (kk : KK) (k : V) : List (V × V) → Option (List (V × V))
  | [] => some []
  | e :: r => (eqKV kk k e.1).bind fun b => if b = true then some r else (mrem kk k r).map (e :: ·)
/-- What a map has; and its block. -/
def entsV (σ : Store) : V → Option (List (V × V) × List Nat)
  | .nilm => some ([], [])
  | .rmp es => some (es, [])
  | .mp id g => if (σ id).gen = g ∧ (σ id).st ≠ .dead then
      match (σ id).cells with
      | [.mcell es] => some (es, [id])
      | _ => none
    else none
  | _ => none
/-- A map's block laid anew. -/
def mwrV (σ : Store) (m : V) (f : List (V × V) → Option (List (V × V))) : Option (List (Nat × Blk) × List Nat) :=
  match m with
  | .mp id g => if (σ id).gen = g ∧ (σ id).st = .rw then
      match (σ id).cells with
      | [.mcell es] => (f es).map fun es' => ([(id, { σ id with cells := [.mcell es'] })], [id])
      | _ => none
    else none
  | _ => none

def unV (op : UnOp) (x : V) : Option V :=
  match op, x with
  | .neg, .int k n => some (.int k (k.wrap (0 - n)))
  | .xor, .int k n => some (.int k (bits .xor k (if k.signed then -1 else k.max) n))
  | .not, .bool b => some (.bool !b)
  | _, _ => none

/-- Parts laid into a row. -/
def fillV : List (Nat × Nat × V) → List V → Option (List V)
  | [], cs => some cs
  | (off, size, v) :: r, cs => if v.cells.length = size ∧ off + size ≤ cs.length then fillV r (cs.take off ++ v.cells ++ cs.drop (off + size)) else none

/-- Pointers of our own alone. -/
def V.isPtr : V → Bool
  | .ptr _ _ _ => true
  | _ => false
def ptrsB : List V → Bool
  | .ptr _ _ _ :: r => r.all V.isPtr
  | _ => false
/-- The cells of a slice, or a string's bytes; and its block. -/
def noRefB : V → Bool
  | .int _ _ | .bool _ | .str _ | .nilp | .nilfn | .nilm | .junk | .sl _ _ _ | .pt _ _ | .rmp _ => true
  | _ => false
def cellsOfV (σ : Store) : V → Option (List V × List Nat)
  | .str s => some (s.map u8, [])
  | .sl _ _ cs => some (cs, [])
  | .sli id g off n esz =>
    if (σ id).gen = g ∧ (σ id).st ≠ .dead ∧ off + n * esz ≤ (σ id).cells.length ∧ ((σ id).arr = true ∨ (((σ id).cells.drop off).take (n * esz)).all noRefB = true) then
      some (((σ id).cells.drop off).take (n * esz), [id])
    else none
  | _ => none
def lenV : V → Option Nat
  | .str s => some s.length
  | .sl _ n _ => some n
  | .sli _ _ _ n _ => some n
  | _ => none

def bnd (x : Option V) (d y : Nat) : Option Nat :=
  match x with
  | none => some d
  | some (.int _ i) => if 0 ≤ i ∧ i ≤ (y : Int) then some i.toNat else none
  | _ => none

/-- The blocks that become read alone. -/
def fzs (σ : Store) (is : List Nat) : List (Nat × Blk) := is.map fun i => (i, { σ i with st := .fz })

def splice (l : List V) (off : Nat) (cs : List V) : List V := l.take off ++ cs ++ l.drop (off + cs.length)

def appV (σ : Store) (base esz bytes : Nat) (x y : V) : Option Res :=
  (cellsOfV σ y).bind fun (yc, ids) => (lenV y).bind fun m =>
    if m = 0 then (match x with | .sl _ _ _ | .sli _ _ _ _ _ => some ⟨x, [], ids⟩ | _ => none) else
    match x with
    | .sl k _ _ =>
      if k ≠ .ro ∧ m * bytes ≤ 140737488355328 ∧ yc.length = m * esz then some ⟨.sli base ((σ base).gen + 1) 0 m esz, [(base, ⟨(σ base).gen + 1, .rw, true, yc⟩)], base :: ids⟩ else none
    | .sli id g off n e =>
      if e = esz ∧ (σ id).gen = g ∧ (σ id).st = .rw ∧ (σ id).arr = true ∧ off + n * esz ≤ (σ id).cells.length ∧ (n + m) * bytes ≤ 140737488355328 ∧ yc.length = m * esz then
        if off + (n + m) * esz ≤ (σ id).cells.length then
          some ⟨.sli id g off (n + m) esz, [(id, { σ id with cells := splice (σ id).cells (off + n * esz) yc })], id :: ids⟩
        else
          some ⟨.sli base ((σ base).gen + 1) 0 (n + m) esz, [(id, { σ id with st := .dead }), (base, ⟨(σ base).gen + 1, .rw, true, ((σ id).cells.drop off).take (n * esz) ++ yc⟩)], base :: id :: ids⟩
      else none
    | _ => none

/-- Pointers put behind a row of pointers. -/
def appQ (σ : Store) (base esz bytes : Nat) (x : V) (m : Nat) (yc : List V) (iy : Nat) : Option Res :=
  match x with
  | .sl k _ _ =>
    if k ≠ .ro ∧ m * bytes ≤ 140737488355328 then some ⟨.sli base ((σ base).gen + 1) 0 m esz, [(base, ⟨(σ base).gen + 1, .rw, false, yc⟩)], [base, iy]⟩ else none
  | .sli id g off n e =>
    if e = esz ∧ (σ id).gen = g ∧ (σ id).st = .rw ∧ (σ id).arr = false ∧ off + n * esz = (σ id).cells.length ∧ (n + m) * bytes ≤ 140737488355328 then
      some ⟨.sli base ((σ base).gen + 1) 0 (n + m) esz, [(id, { σ id with st := .dead }), (base, ⟨(σ base).gen + 1, .rw, false, (σ id).cells.drop off ++ yc⟩)], [base, id, iy]⟩
    else none
  | _ => none
def appPV (σ : Store) (base esz bytes : Nat) (x y : V) : Option Res :=
  match y with
  | .sli id g off m e =>
    if (σ id).arr = true ∨ m = 0 then appV σ base esz bytes x y
    else if e = esz ∧ (σ id).gen = g ∧ (σ id).st ≠ .dead ∧ off + m * esz ≤ (σ id).cells.length then appQ σ base esz bytes x m (((σ id).cells.drop off).take (m * esz)) id
    else none
  | y => appV σ base esz bytes x y

/-- Arguments handed over: by value; what was handed over; what is lent to be read. -/
def passV (σ : Store) : List Mode → List V → Option (List V × List Nat × List Nat)
  | [], [] => some ([], [], [])
  | .bor :: ms, v :: vs => (roV σ dep v).bind fun (x, is) => (passV σ ms vs).bind fun (xs, mv, bo) => some (x :: xs, mv, is ++ bo)
  | _ :: ms, v :: vs => (ownV σ dep v).bind fun (x, is) => (passV σ ms vs).bind fun (xs, mv, bo) => some (x :: xs, is ++ mv, bo)
  | _, _ => none

/-- What was lent comes back. -/
def backV (σ : Store) : Nat → List Mode → List V → List V → Option (List (Nat × Blk))
  | _, [], [], [] => some []
  | k, .io :: ms, v :: vs, x :: xs =>
    match v, x with
    | .ptr id g 0, .opt cs => if (σ id).gen = g ∧ (σ id).st ≠ .dead ∧ cs.length = (σ id).cells.length then (mapM' (matV σ dep) k cs).bind fun (cs', w1, k1) => (backV σ k1 ms vs xs).map fun w2 => w1 ++ (id, ⟨g, .rw, false, cs'⟩) :: w2 else none
    | .nilp, .nilp => backV σ k ms vs xs
    | _, _ => none
  | k, .bor :: ms, _ :: vs, xs | k, .mov :: ms, _ :: vs, xs => backV σ k ms vs xs
  | _, _, _, _ => none

def callV (tbl : Tbl) (σ : Store) (base f : Nat) (args : List V) : Option Res :=
  (tbl f).bind fun e => (passV σ e.modes args).bind fun (xs, mv, bo) =>
    if (mv.Nodup ∧ ∀ i ∈ bo, i ∉ mv) then
      (e.G xs).bind fun (r, ios) =>
        (matV σ dep base r).bind fun (rv, w1, k1) => (backV σ k1 e.modes args ios).bind fun w2 =>
          if ((w1 ++ w2).map (·.1)).Nodup then
            some ⟨rv, (mv.map fun i => (i, { σ i with st := .dead })) ++ (if hasRo dep r || ios.any (hasRo dep) then fzs σ bo else []) ++ w1 ++ w2, mv ++ bo ++ (w1 ++ w2).map (·.1)⟩
          else none
    else none

def insV (tbl : Tbl) (base : Nat) (t : Nat → V) (σ : Store) (i : Ins) : Option Res :=
  let pure (v : V) : Option Res := some ⟨v, [], []⟩
  match i with
  | .mov x => pure (x.ev t)
  | .pick c a b => match c.ev t with
    | .bool true => pure (a.ev t)
    | .bool false => pure (b.ev t)
    | _ => none
  | .new zero => some ⟨.ptr base ((σ base).gen + 1) 0, [(base, ⟨(σ base).gen + 1, .rw, false, zero⟩)], [base]⟩
  | .box n x => if (x.ev t).cells.length = n then some ⟨.ptr base ((σ base).gen + 1) 0, [(base, ⟨(σ base).gen + 1, .rw, false, (x.ev t).cells⟩)], [base]⟩ else none
  | .mk zero parts => (fillV (parts.map fun p => (p.1, p.2.1, p.2.2.ev t)) zero).map fun cs => ⟨.agg cs, [], []⟩
  | .mksl esz len zero parts =>
    (fillV (parts.map fun p => (p.1, p.2.1, p.2.2.ev t)) zero).bind fun cs =>
      if ptrsB cs = true then some ⟨.sli base ((σ base).gen + 1) 0 len esz, [(base, ⟨(σ base).gen + 1, .rw, false, cs⟩)], [base]⟩
      else (mapQ (roV σ dep) cs).bind fun (cs, is) =>
      if base ∉ is then some ⟨.sli base ((σ base).gen + 1) 0 len esz, fzs σ is ++ [(base, ⟨(σ base).gen + 1, .rw, true, cs⟩)], base :: is⟩ else none
  | .ld agg n x => match x.ev t with
    | .ptr id g off =>
      if (σ id).gen = g ∧ (σ id).st ≠ .dead ∧ off + n ≤ (σ id).cells.length then
        if agg then some ⟨.agg (((σ id).cells.drop off).take n), [], [id]⟩ else ((σ id).cells[off]?).map fun v => ⟨v, [], [id]⟩
      else none
    | .pt cs off =>
      if off + n ≤ cs.length then
        if agg then pure (.agg ((cs.drop off).take n)) else (cs[off]?).bind pure
      else none
    | _ => none
  | .st agg n a x => match a.ev t with
    | .ptr id g off =>
      if (σ id).gen = g ∧ (σ id).st = .rw ∧ off + n ≤ (σ id).cells.length ∧ (x.ev t).cells.length = n then
        if (σ id).arr then (mapQ (roV σ dep) (x.ev t).cells).bind fun (cs, is) =>
          if id ∉ is then some ⟨.tup [], fzs σ is ++ [(id, { σ id with cells := if agg then splice (σ id).cells off cs else (σ id).cells.set off (cs.headD .nilp) })], id :: is⟩ else none
        else some ⟨.tup [], [(id, { σ id with cells := if agg then splice (σ id).cells off (x.ev t).cells else (σ id).cells.set off ((x.ev t).cells.headD .nilp) })], [id]⟩
      else none
    | _ => none
  | .chk x => match x.ev t with
    | .ptr id g off => pure (.ptr id g off)
    | .pt cs off => pure (.pt cs off)
    | _ => none
  | .bin op x y => (binV op (x.ev t) (y.ev t)).bind pure
  | .eqn neg k x y => (eqV k (x.ev t) (y.ev t)).bind fun b => pure (.bool (if neg then !b else b))
  | .eqS neg ks x y => match x.ev t, y.ev t with
    | .agg xs, .agg ys => (eqCs ks xs ys).bind fun b => pure (.bool (if neg then !b else b))
    | _, _ => none
  | .mkm => some ⟨.mp base ((σ base).gen + 1), [(base, ⟨(σ base).gen + 1, .rw, false, [.mcell []]⟩)], [base]⟩
  | .mget kk ok z x y => (entsV σ (x.ev t)).bind fun p =>
      if eqKV kk (y.ev t) (y.ev t) = some true then (mfind kk (y.ev t) p.1).map fun r => ⟨if ok then .tup [r.getD z, .bool r.isSome] else r.getD z, [], p.2⟩ else none
  | .mset kk x y z => if eqKV kk (y.ev t) (y.ev t) = some true ∧ flatB (z.ev t) = true then (mwrV σ (x.ev t) (mput kk (y.ev t) (z.ev t))).map fun p => ⟨.tup [], p.1, p.2⟩ else none
  | .mdel kk x y => if eqKV kk (y.ev t) (y.ev t) = some true then (mwrV σ (x.ev t) (mrem kk (y.ev t))).map fun p => ⟨.tup [], p.1, p.2⟩ else none
  | .mlen x => (entsV σ (x.ev t)).map fun p => ⟨.int .i64 (p.1.length : Int), [], p.2⟩
  | .rng x => match x.ev t with
    | .mp id g => (entsV σ (.mp id g)).bind fun p => if p.1.isEmpty = true then some ⟨.itm id g, [], p.2⟩ else none
    | _ => none
  | .nxt x => match x.ev t with
    | .itm id g => (entsV σ (.mp id g)).bind fun p => if p.1.isEmpty = true then some ⟨.tup [.bool false], [], p.2⟩ else none
    | _ => none
  | .ent _ => none
  | .clb f x => match x.ev t with
    | .ptr id g off => pure (.mth f id g off)
    | _ => none
  | .clr esz zero x => match x.ev t with
    | .sl _ n _ => if n = 0 then pure (.tup []) else none
    | .sli id g off n e =>
      if e = esz ∧ (σ id).gen = g ∧ (σ id).st = .rw ∧ (σ id).arr = true ∧ off + n * esz ≤ (σ id).cells.length then
        some ⟨.tup [], [(id, { σ id with cells := splice (σ id).cells off (List.replicate n zero).flatten })], [id]⟩
      else none
    | _ => none
  | .un op x => (unV op (x.ev t)).bind pure
  | .toInt k x => match x.ev t with
    | .int _ n => pure (.int k (k.wrap n))
    | _ => none
  | .toBytes x => match x.ev t with
    | .str s => if s.length ≤ 140737488355328 then (if strsB = true then some ⟨.sli base ((σ base).gen + 1) 0 s.length 1, [(base, ⟨(σ base).gen + 1, .rw, true, s.map u8⟩)], [base]⟩ else some ⟨.sl .ro s.length (s.map u8), [], []⟩) else none
    | _ => none
  | .toStr x => match x.ev t with
    | .str _ => none
    | v => (cellsOfV σ v).bind fun (cs, ids) => if lenV v = some cs.length then (bytesOf cs).map fun s => ⟨.str s, [], ids⟩ else none
  | .mkSlice esz bytes zero len cap => match len.ev t, cap.ev t with
    | .int _ l, .int _ c => if 0 ≤ l ∧ l ≤ c ∧ c * bytes ≤ 140737488355328 then some ⟨.sli base ((σ base).gen + 1) 0 l.toNat esz, [(base, ⟨(σ base).gen + 1, .rw, true, (List.replicate c.toNat zero).flatten⟩)], [base]⟩ else none
    | _, _ => none
  | .slS x lo hi => match x.ev t with
    | .str s => (bnd (hi.map (·.ev t)) s.length s.length).bind fun h => (bnd (lo.map (·.ev t)) 0 h).bind fun l => pure (.str ((s.drop l).take (h - l)))
    | _ => none
  | .slL esz x lo hi mx => match x.ev t, mx with
    | .sl k n cs, none => (bnd (hi.map (·.ev t)) n n).bind fun h => (bnd (lo.map (·.ev t)) 0 h).bind fun l => if h * esz ≤ cs.length then pure (.sl k (h - l) ((cs.drop (l * esz)).take ((h - l) * esz))) else none
    | .sli id g off n e, none =>
      if e = esz then
        match (hi.map (·.ev t) : Option V) with
        | some (.int _ i) =>
          if 0 ≤ i ∧ i ≤ (n : Int) then (bnd (lo.map (·.ev t)) 0 i.toNat).bind fun l => pure (.sli id g (off + l * esz) (i.toNat - l) esz)
          else if 0 ≤ i ∧ (σ id).gen = g ∧ (σ id).st ≠ .dead ∧ off + i.toNat * esz ≤ (σ id).cells.length ∧ 0 < esz then (bnd (lo.map (·.ev t)) 0 i.toNat).bind fun l => some ⟨.sli id g (off + l * esz) (i.toNat - l) esz, [], [id]⟩
          else none
        | none => (bnd (lo.map (·.ev t)) 0 n).bind fun l => pure (.sli id g (off + l * esz) (n - l) esz)
        | _ => none
      else none
    | .sl k _ _, some m => match lo, (hi.map (·.ev t) : Option V), m.ev t with
      | none, some (.int _ 0), .int _ 0 => pure (.sl (if k = .nil then .nil else .zero) 0 [])
      | _, _, _ => none
    | .sli id g off n e, some m => match (lo.map (·.ev t) : Option V), (hi.map (·.ev t) : Option V), m.ev t with
      | none, some (.int _ 0), .int _ 0 => pure (.sl .zero 0 [])
      | none, some (.int _ h), .int _ q => if h = q ∧ 0 ≤ h ∧ h ≤ (n : Int) ∧ e = esz ∧ (σ id).gen = g ∧ (σ id).st = .rw ∧ (σ id).arr = true ∧ off + h.toNat * esz ≤ (σ id).cells.length then
          some ⟨.sli id ((σ id).gen + 1) off h.toNat esz, [(id, ⟨(σ id).gen + 1, .rw, true, (σ id).cells.take (off + h.toNat * esz)⟩)], [id]⟩ else none
      | some (.int _ i), some (.int _ h), .int _ q => if 0 ≤ i ∧ i ≤ h ∧ h ≤ q ∧ q ≤ (n : Int) then pure .junk else none
      | _, _, _ => none
    | _, _ => none
  | .slA n esz x lo hi => match x.ev t with
    | .ptr id g off => (bnd (hi.map (·.ev t)) n n).bind fun h => (bnd (lo.map (·.ev t)) 0 h).bind fun l =>
        if (σ id).gen = g ∧ (σ id).st ≠ .dead ∧ off + n * esz = (σ id).cells.length then some ⟨.sli id g (off + l * esz) (h - l) esz, [], [id]⟩ else none
    | _ => none
  | .fad off x => match x.ev t with
    | .ptr id g o => pure (.ptr id g (o + off))
    | .pt cs o => pure (.pt cs (o + off))
    | _ => none
  | .fld agg off n x => match x.ev t with
    | .agg cs => if off + n ≤ cs.length then if agg then pure (.agg ((cs.drop off).take n)) else (cs[off]?).bind pure else none
    | _ => none
  | .iaA n esz x i => match x.ev t, i.ev t with
    | .ptr id g o, .int _ j => if 0 ≤ j ∧ j < (n : Int) then pure (.ptr id g (o + j.toNat * esz)) else none
    | .pt cs o, .int _ j => if 0 ≤ j ∧ j < (n : Int) then pure (.pt cs (o + j.toNat * esz)) else none
    | _, _ => none
  | .iaL esz x i => match x.ev t, i.ev t with
    | .sli id g o n e, .int _ j => if 0 ≤ j ∧ j < (n : Int) ∧ e = esz then pure (.ptr id g (o + j.toNat * esz)) else none
    | .sl _ n cs, .int _ j => if 0 ≤ j ∧ j < (n : Int) then pure (.pt cs (j.toNat * esz)) else none
    | _, _ => none
  | .ixA agg n esz x i => match x.ev t, i.ev t with
    | .agg cs, .int _ j => if 0 ≤ j ∧ j < (n : Int) ∧ j.toNat * esz + esz ≤ cs.length then if agg then pure (.agg ((cs.drop (j.toNat * esz)).take esz)) else (cs[j.toNat * esz]?).bind pure else none
    | _, _ => none
  | .ixS x i => match x.ev t, i.ev t with
    | .str s, .int _ j => if 0 ≤ j then (s[j.toNat]?).bind fun b => pure (u8 b) else none
    | _, _ => none
  | .ext i x => match x.ev t with
    | .tup vs => (vs[i]?).bind pure
    | _ => none
  | .len text x => match x.ev t, text with
    | .str s, true => pure (.int .i64 (s.length : Int))
    | .sl _ n _, false => pure (.int .i64 (n : Int))
    | .sli _ _ _ n _, false => pure (.int .i64 (n : Int))
    | _, _ => none
  | .sameS x => match x.ev t with
    | .str s => pure (.str s)
    | _ => none
  | .mm mx x y => match x.ev t, y.ev t with
    | .int k a, .int k' b => if k = k' then pure (.int k (if mx then (if b > a then b else a) else (if b < a then b else a))) else none
    | _, _ => none
  | .cmp x y => match x.ev t, y.ev t with
    | .str a, .str b => pure (.int .i64 (cmpS a b))
    | _, _ => none
  | .app esz bytes x y => appV σ base esz bytes (x.ev t) (y.ev t)
  | .appP esz bytes x y => appPV σ base esz bytes (x.ev t) (y.ev t)
  | .copy esz x y => match x.ev t with
    | .sli id g off n e => (cellsOfV σ (y.ev t)).bind fun (yc, ids) => (lenV (y.ev t)).bind fun m =>
        if e = esz ∧ (σ id).gen = g ∧ (σ id).st = .rw ∧ (σ id).arr = true ∧ off + n * esz ≤ (σ id).cells.length ∧ yc.length = m * esz then
          some ⟨.int .i64 ((min m n : Nat) : Int), [(id, { σ id with cells := splice (σ id).cells off (yc.take (min m n * esz)) })], id :: ids⟩
        else none
    | _ => none
  | .clo f caps => pure (.fn f (caps.map (·.ev t)))
  | .call f args => callV tbl σ base f (args.map (·.ev t))
  | .callv x args => match x.ev t with
    | .fn f caps => callV tbl σ base f (args.map (·.ev t) ++ caps)
    | .mth f id g off => callV tbl σ base f (.ptr id g off :: args.map (·.ev t))
    | _ => none

/-! ### Runs -/
structure St where
  t : Nat → V
  σ : Store
inductive Ex where
  | normal | exit (id : Nat) | ret
  deriving DecidableEq

/-- A reckoning that succeeds, and what follows. -/
def okP {α : Type} (o : Option α) (K : α → Prop) : Prop :=
  match o with
  | some x => K x
  | none => False

def IOp.wants (o : IOp) (t : Nat → V) : Bool :=
  match o.grd with
  | none => true
  | some (j, want) => match t j with
    | .bool b => b == want
    | _ => false
def putT (t : Nat → V) (d : Option Nat) (v : V) : Nat → V :=
  match d with
  | some d => upd t d v
  | none => t
/-- One operation: the next state, and the blocks written. -/
def IOp.step (tbl : Tbl) (o : IOp) (s : St) : Option (St × List Nat) :=
  if o.wants s.t then (insV tbl o.base s.t s.σ o.ins).map fun r => (⟨putT s.t o.dst r.val, upds s.σ r.wr⟩, r.wr.map (·.1))
  else some (⟨putT s.t o.dst (.tup []), s.σ⟩, [])

/-- Is a call one that works on the caller's own blocks? -/
def Ins.tgt (t : Nat → V) : Ins → Option (Nat × List V)
  | .call f args => some (f, args.map (·.ev t))
  | .callv x args => match x.ev t with
    | .fn f caps => some (f, args.map (·.ev t) ++ caps)
    | .mth f id g off => some (f, .ptr id g off :: args.map (·.ev t))
    | _ => none
  | _ => none
def rawF (tbl : Tbl) (q : Nat × List V) : Option (List V × (List V → Store → Option (V × Store))) := ((tbl q.1).bind (·.raw)).map fun H => (q.2, H)
def rawOf (tbl : Tbl) (t : Nat → V) (i : Ins) : Option (List V × (List V → Store → Option (V × Store))) := (i.tgt t).bind (rawF tbl)
/-- One operation outside regions of open order. -/
def IOp.stepR (tbl : Tbl) (o : IOp) (s : St) : Option St :=
  match rawOf tbl s.t o.ins with
  | some (xs, H) => if o.wants s.t then (H xs s.σ).map fun p => ⟨putT s.t o.dst p.1, p.2⟩ else some ⟨putT s.t o.dst (.tup []), s.σ⟩
  | none => (o.step tbl s).map (·.1)
def regA (tbl : Tbl) : List IOp → (St → Prop) → St → Prop
  | [], K, s => K s
  | o :: r, K, s => okP (o.stepR tbl s) fun p => regA tbl r K p

/-- All blocks that a value names, and that these name. -/
def visV (σ : Store) : Nat → V → List Nat
  | 0, _ => []
  | d + 1, v => match v with
    | .agg cs | .tup cs | .fn _ cs => cs.flatMap (visV σ d)
    | .sli id _ _ _ _ => id :: (if (σ id).arr then [] else (σ id).cells.flatMap (visV σ d))
    | .ptr id _ _ => id :: (if (σ id).arr then [] else (σ id).cells.flatMap (visV σ d))
    | .mp id _ | .itm id _ => [id]
    | .mth _ id _ _ => id :: (if (σ id).arr then [] else (σ id).cells.flatMap (visV σ d))
    | _ => []
/-- The blocks that an operation reads. -/
def rdV (t : Nat → V) (σ : Store) : Ins → List Nat
  | .ld _ _ x => match x.ev t with
    | .ptr id _ _ => [id]
    | _ => []
  | .mksl _ _ zero parts => zero.flatMap (visV σ dep) ++ parts.flatMap fun p => (p.2.2.ev t).cells.flatMap (visV σ dep)
  | .st _ _ a x => visV σ dep (a.ev t) ++ (x.ev t).cells.flatMap (visV σ dep)
  | .toStr x => visV σ dep (x.ev t)
  | .slL _ x _ _ _ => match x.ev t with
    | .sli id _ _ _ _ => [id]
    | _ => []
  | .slA _ _ x _ _ => match x.ev t with
    | .ptr id _ _ => [id]
    | _ => []
  | .app _ _ x y | .appP _ _ x y | .copy _ x y => visV σ dep (x.ev t) ++ visV σ dep (y.ev t)
  | .mget _ _ _ x _ | .mset _ x _ _ | .mdel _ x _ | .mlen x | .rng x | .nxt x | .clr _ _ x => visV σ dep (x.ev t)
  | .call _ args => args.flatMap fun x => visV σ dep (x.ev t)
  | .callv x args => (match x.ev t with
    | .fn _ caps => caps.flatMap (visV σ dep)
    | .mth f id g off => visV σ dep (.mth f id g off)
    | _ => []) ++ args.flatMap fun x => visV σ dep (x.ev t)
  | _ => []
def IOp.reads (o : IOp) (s : St) : List Nat := if o.wants s.t then rdV s.t s.σ o.ins else []

/-- Do two operations of open order leave one another alone? (read, written) -/
def clash (a b : List Nat × List Nat) : Bool :=
  a.2.any (fun i => b.1.contains i || b.2.contains i) || b.2.any (fun i => a.1.contains i)
def regD (tbl : Tbl) : Nat → List IOp → List (List Nat × List Nat) → (St → Prop) → St → Prop
  | _, [], _, K, s => K s
  | n, o :: r, acc, K, s => okP (o.step tbl s) fun p =>
      ((List.range n).all fun i => o.anc.contains i || !clash (acc.getD i ([], [])) (o.reads s, p.2)) = true ∧ regD tbl (n + 1) r (acc ++ [(o.reads s, p.2)]) K p.1

def loopA (f : (Ex → St → Prop) → St → Prop) : Nat → (Ex → St → Prop) → St → Prop
  | 0, _, _ => False
  | n + 1, Q, s => f (fun e s => match e with | .normal => loopA f n Q s | e => Q e s) s

def wpA (tbl : Tbl) : IC → (Ex → St → Prop) → St → Prop
  | .skip, Q, s => Q .normal s
  | .reg false ops, Q, s => regA tbl ops (Q .normal) s
  | .reg true ops, Q, s => regD tbl 0 ops [] (Q .normal) s
  | .seq a b, Q, s => wpA tbl a (fun e s => match e with | .normal => wpA tbl b Q s | e => Q e s) s
  | .cond x a b, Q, s => match x.ev s.t with
    | .bool c => (c = true → wpA tbl a Q s) ∧ (c = false → wpA tbl b Q s)
    | _ => False
  | .block id c, Q, s => wpA tbl c (fun e s => match e with | .exit j => if j = id then Q .normal s else Q (.exit j) s | e => Q e s) s
  | .loop c, Q, s => ∃ n, loopA (wpA tbl c) n Q s
  | .exit id, Q, s => Q (.exit id) s
  | .scope c, Q, s => wpA tbl c Q s
  | .ret, Q, s => Q .ret s

/-! ### Functions -/
def resV (s : St) : IRes → Option V
  | .tmp t => some (s.t t)
  | .cell t agg n => match s.t t with
    | .ptr id g off =>
      if (s.σ id).gen = g ∧ (s.σ id).st ≠ .dead ∧ off + n ≤ (s.σ id).cells.length then
        if agg then some (.agg (((s.σ id).cells.drop off).take n)) else (s.σ id).cells[off]?
      else none
    | _ => none
def ressV (s : St) : List IRes → Option (List V)
  | [] => some []
  | r :: rs => (resV s r).bind fun v => (ressV s rs).map fun vs => v :: vs
def tupV : List V → V
  | [v] => v
  | vs => .tup vs

/-- The arguments as the function has them: what they own becomes blocks from 0 on. -/
def inV (args : List V) : Option (List V × List (Nat × Blk) × Nat) := mapM' (matV (fun _ => noBlk) dep) 0 args

/-- What was lent, at the end: the arguments' own pointers. -/
def iosV (σ : Store) : List Mode → List V → Option (List V × List Nat)
  | [], _ => some ([], [])
  | .io :: ms, v :: vs => (ownV σ dep v).bind fun (x, is) => (iosV σ ms vs).bind fun (xs, js) => some (x :: xs, is ++ js)
  | _ :: ms, _ :: vs => iosV σ ms vs
  | _, _ => none

/-- The numbers that are named more than once. -/
def dupL : List Nat → List Nat
  | [] => []
  | a :: l => if l.contains a = true then a :: dupL l else dupL l
/-- Results that name a block more than once are told as read alone. -/
def out2V (modes : List Mode) (params : List V) (σ : Store) (is : List Nat) (v : V) : Option (V × List V) :=
  (ownV (upds σ (fzs σ (dupL is))) dep v).bind fun (r, is') => (iosV (upds σ (fzs σ (dupL is))) modes params).bind fun (ios, js) =>
    if (is' ++ js).Nodup then some (r, ios) else none

def outV (modes : List Mode) (F : IFun) (params : List V) (s : St) : Option (V × List V) :=
  (ressV s F.res).bind fun vs => (ownV s.σ dep (tupV vs)).bind fun (r, is) => (iosV s.σ modes params).bind fun (ios, js) =>
    if (is ++ js).Nodup then some (r, ios) else out2V modes params s.σ is (tupV vs)

/-- What a function answers. -/
def fnA (tbl : Tbl) (modes : List Mode) (F : IFun) (args : List V) (Q : V × List V → Prop) : Prop :=
  args.length = F.np ∧ okP (inV args) fun p => wpA tbl F.body (fun e s => (match e with | .exit _ => False | _ => True) ∧ okP (outV modes F p.1 s) Q) ⟨fun i => p.1.getD i (.tup []), upds (fun _ => noBlk) p.2.1⟩
/-- What a function does that works on the caller's own blocks. -/
def runR (tbl : Tbl) (F : IFun) (args : List V) (σ : Store) (Q : V × Store → Prop) : Prop :=
  args.length = F.np ∧ wpA tbl F.body (fun e s => (match e with | .exit _ => False | _ => True) ∧ okP (ressV s F.res) fun vs => Q (tupV vs, s.σ)) ⟨fun i => args.getD i (.tup []), σ⟩
end Go.Vm
