/-
  The executor: what an operation, a region, a piece of code makes of an abstract state, and what must be shown for it.
-/
import Derived.Test.YtcnklcnehpkfaaaEvB
namespace Go.Ev
open Go Go.RowKit
set_option linter.unusedVariables false
set_option linter.unusedSimpArgs false

/-- What the executor knows of a type. -/
inductive TV where
  | bool
  | int (k : IntKind)
  | str
  | struct (fs : List (Bool × Nat × Nat))
  | arr (n e : Nat)
  | slice (e : Nat)
  | ptr (e : Nat)
  | func
  | iface
  | other

def view : TypeDesc → TV
  | .bool => .bool
  | .int k => .int k
  | .string => .str
  | .struct fs => .struct (fs.toList.map fun f => (f.name == "_", f.type, f.offset))
  | .array n e => .arr n e
  | .slice e => .slice e
  | .pointer e => .ptr e
  | .func .. => .func
  | .interface _ => .iface
  | _ => .other

structure TyI where
  v : TV
  size : Nat
  bytes : Nat
  zero : List Value

abbrev Env := Nat → Option TyI

/-- The contract of a function: hin: the blocks that it is handed to write, args: its arguments, hout: those blocks behind the call and new ones, res: what it returns. -/
def Con (P : Program) (L : Lay) (f : FuncId) (hin : List HObj) (args : List AV) (hout : List HObj) (res : AV) : Prop :=
  (∀ (as : Array Value) (w : World), (callFunc f as).run P w = .ok (.enter f as) w) ∧
  ∀ (w : World) (vs : List Value) (F0 : Nat → Prop) (ρ0 : Ren),
    (∀ n, n ≥ hin.length → ρ0 n = none) →
    Mem L (fun b => ∃ n, (hin.getD n .dead).live ∧ blkOf ρ0 n = some b) w F0 w ρ0 (fun n => hin.getD n .dead) → ARL F0 w ρ0 args vs →
    Calls P f vs.toArray w fun e w' => ∃ v F ρ, e = .returned v ∧ (∀ b, F0 b → F b) ∧ (∀ b, F b → F0 b ∨ w.heap.size ≤ b) ∧
      (∀ n lo, ρ0 n = some lo → ρ n = some lo) ∧ (∀ n, n ≥ hout.length → ρ n = none) ∧
      Mem L (fun b => ∃ n, (hin.getD n .dead).live ∧ blkOf ρ0 n = some b) w F w' ρ (fun n => hout.getD n .dead) ∧ AR F w' ρ res v

structure Out where
  v : AV
  ws : List (Nat × HObj)
  news : List HObj
  os : List Prop

def _root_.Option.val (v : AV) (os : List Prop := []) : Option Out := some ⟨v, [], [], os⟩

/-- A struct's or an array's cells; else the one cell. -/
def cellsOf : AV → List AV
  | .a l => l
  | x => [x]

def HObj.isDead : HObj → Bool
  | .dead => true
  | _ => false

/-- The i-th cell of a block. -/
def HObj.cell (o : HObj) (off : Nat) : Option (AV × List Prop) :=
  match o with
  | .oi _ k l => some (.c (.int k (l.getD off 0)), [off < l.length])
  | .oo _ _ [c] => (c[off]?).map (·, [])
  | .oo _ sz l => ((l[off / sz]?).bind (·[off % sz]?)).map (·, [])
  | .dead => none

def HObj.setCell (o : HObj) (off : Nat) (v : AV) : Option (HObj × List Prop) :=
  match o, v with
  | .oi e k l, .c (.int k' x) => if k = k' then some (.oi e k (l.set off x), [off < l.length]) else none
  | .oi .., _ => none
  | .oo e sz [c], v => some (.oo e sz [c.set off v], [off < c.length])
  | .oo e sz l, v => some (.oo e sz (l.modify (off / sz) (·.set (off % sz) v)), [off / sz < l.length, off % sz < sz])
  | .dead, _ => none

/-- Some cells, one behind the other. -/
def HObj.cells (o : HObj) (off : Nat) : Nat → Option (List AV × List Prop)
  | 0 => some ([], [])
  | n + 1 => do
    let (x, p) ← o.cell off
    let (l, ps) ← o.cells (off + 1) n
    some (x :: l, p ++ ps)

def HObj.setCells (o : HObj) (off : Nat) : List AV → Option (HObj × List Prop)
  | [] => some (o, [])
  | x :: l => do
    let (o, p) ← o.setCell off x
    let (o, ps) ← o.setCells (off + 1) l
    some (o, p ++ ps)

/-- One cell of memory that is only read. -/
def roCell (x : AV) (off : Nat) : Option (AV × List Prop) :=
  match x with
  | .ri k l => some (.c (.int k (l.getD off 0)), [off < l.length])
  | .rr sz l => ((l[off / sz]?).bind (·[off % sz]?)).map (·, [])
  | _ => none

def roCells (x : AV) (off : Nat) : Nat → Option (List AV × List Prop)
  | 0 => some ([], [])
  | n + 1 => do
    let (y, p) ← roCell x off
    let (l, ps) ← roCells x (off + 1) n
    some (y :: l, p ++ ps)

/-- What lies at an address: n cells. -/
def cellsAt (L : Lay) (look : Nat → HObj) (ad : AV) (n : Nat) : Option (List AV × List Prop) :=
  match ad with
  | .p m off => (look m).cells off n
  | .q x off => roCells x off n
  | .gp g off => match L.find? (·.1 == g), n with
    | some (_, k, l), 1 => some ([.c (.int k (l.getD off 0))], [off < l.length])
    | _, _ => none
  | _ => none

def isAggV : TV → Bool
  | .struct _ | .arr .. => true
  | _ => false

def fillA (place : Nat → Option (Nat × Nat)) (cells : List AV) : List (Nat × List AV) → Option (List AV)
  | [] => some cells
  | (i, v) :: rest =>
    match place i with
    | none => none
    | some (off, size) => if v.length = size ∧ off + size ≤ cells.length then fillA place (cells.take off ++ v ++ cells.drop (off + size)) rest else none

def imin (x y : Int) : Int := if y < x then y else x
def imax (x y : Int) : Int := if y > x then y else x
def iand (k : IntKind) (x y : Int) : Int := k.wrap ((BitVec.ofInt k.bits x &&& BitVec.ofInt k.bits y).toNat)
def ior (k : IntKind) (x y : Int) : Int := k.wrap ((BitVec.ofInt k.bits x ||| BitVec.ofInt k.bits y).toNat)
def ixor (k : IntKind) (x y : Int) : Int := k.wrap ((BitVec.ofInt k.bits x ^^^ BitVec.ofInt k.bits y).toNat)
def iandNot (k : IntKind) (x y : Int) : Int := k.wrap ((BitVec.ofInt k.bits x &&& ~~~(BitVec.ofInt k.bits y)).toNat)
def ishl (k : IntKind) (x y : Int) : Int := k.wrap (x * 2 ^ (min y.toNat k.bits))
def ishr (k : IntKind) (x y : Int) : Int := x.fdiv (2 ^ (min y.toNat k.bits))

def intOp (op : BinOp) (k : IntKind) (x y : Int) : Option (AV × List Prop) :=
  match op with
  | .add => some (.c (.int k (k.wrap (x + y))), [])
  | .sub => some (.c (.int k (k.wrap (x - y))), [])
  | .mul => some (.c (.int k (k.wrap (x * y))), [])
  | .quo => some (.c (.int k (k.wrap (x.tdiv y))), [y ≠ 0])
  | .rem => some (.c (.int k (x.tmod y)), [y ≠ 0])
  | .and => some (.c (.int k (iand k x y)), [])
  | .or => some (.c (.int k (ior k x y)), [])
  | .xor => some (.c (.int k (ixor k x y)), [])
  | .andNot => some (.c (.int k (iandNot k x y)), [])
  | .eql => some (.c (.bool (x == y)), [])
  | .neq => some (.c (.bool (x != y)), [])
  | .lss => some (.c (.bool (decide (x < y))), [])
  | .leq => some (.c (.bool (decide (x ≤ y))), [])
  | .gtr => some (.c (.bool (decide (y < x))), [])
  | .geq => some (.c (.bool (decide (y ≤ x))), [])
  | _ => none

/-- Whether two rows of plain cells, of these kinds, are equal. -/
def eqCells : List TV → List AV → List AV → Option Bool
  | [], [], [] => some true
  | .int _ :: ts, .c (.int k x) :: l, .c (.int k' y) :: r => if k = k' then (eqCells ts l r).map ((x == y) && ·) else none
  | .bool :: ts, .c (.bool x) :: l, .c (.bool y) :: r => (eqCells ts l r).map ((x == y) && ·)
  | .str :: ts, .c (.string x) :: l, .c (.string y) :: r => (eqCells ts l r).map ((x.toList == y.toList) && ·)
  | _, _, _ => none

/-- The kinds of the fields' cells: they lie one behind the other from i on, none of them blank. -/
def plainFs (pk : TypeId → Option (List TV)) (i : Nat) : List (Bool × Nat × Nat) → Option (List TV)
  | [] => some []
  | (blank, t, off) :: fs => if !blank && off == i then (pk t).bind fun ks => (plainFs pk (i + ks.length) fs).map (ks ++ ·) else none

/-- The kinds of a type's cells: a number, a bool, a string, a struct of such. -/
def plainT (E : Env) : Nat → TypeId → Option (List TV)
  | 0, _ => none
  | d + 1, t => (E t).bind fun ti => match ti.v with
    | .bool => if ti.size = 1 then some [.bool] else none
    | .int k => if ti.size = 1 then some [.int k] else none
    | .str => if ti.size = 1 then some [.str] else none
    | .struct fs => (plainFs (plainT E d) 0 fs).bind fun ks => if ks.length = ti.size then some ks else none
    | _ => none

def strEq (x y : ByteArray) : Bool := x.toList == y.toList

def binA (E : Env) (op : BinOp) (t : TypeId) (x y : AV) : Option (AV × List Prop) :=
  match op, x, y with
  | .shl, .c (.int k a), .c (.int _ b) => some (.c (.int k (ishl k a b)), [0 ≤ b])
  | .shr, .c (.int k a), .c (.int _ b) => some (.c (.int k (ishr k a b)), [0 ≤ b])
  | op, .c (.int k a), .c (.int k' b) => if k = k' then intOp op k a b else none
  | .eql, .c (.bool a), .c (.bool b) => match E t with | some ⟨.bool, _, _, _⟩ => some (.c (.bool (a == b)), []) | _ => none
  | .neq, .c (.bool a), .c (.bool b) => match E t with | some ⟨.bool, _, _, _⟩ => some (.c (.bool (!(a == b))), []) | _ => none
  | .eql, .c (.string a), .c (.string b) => some (.c (.bool (strEq a b)), [])
  | .neq, .c (.string a), .c (.string b) => some (.c (.bool (!(strEq a b))), [])
  | .eql, .a l, .a r => match E t with
    | some ⟨.struct _, _, _, _⟩ => (plainT E 5 t).bind fun ks => (eqCells ks l r).map fun b => (.c (.bool b), [])
    | _ => none
  | .neq, .a l, .a r => match E t with
    | some ⟨.struct _, _, _, _⟩ => (plainT E 5 t).bind fun ks => (eqCells ks l r).map fun b => (.c (.bool (!b)), [])
    | _ => none
  | _, _, _ => none

/-- The bytes of a row of numbers. -/
def bstr (l : List Int) : ByteArray := ⟨(l.map fun x => UInt8.ofNat x.toNat).toArray⟩

mutual
/-- No name in it. -/
def AV.nl : AV → Prop
  | .c _ | .gp _ _ | .ri _ _ | .rr _ _ => True
  | .p _ _ | .s _ _ _ _ | .x _ _ _ _ => False
  | .q x _ => x.nl
  | .i _ x => x.nl
  | .g _ x => x.nl
  | .a l => nlL l
  | .t l => nlL l
  | .f _ l => nlL l
def nlL : List AV → Prop
  | [] => True
  | x :: l => x.nl ∧ nlL l
def nlLL : List (List AV) → Prop
  | [] => True
  | c :: l => nlL c ∧ nlLL l
end

mutual
/-- It hangs on no memory that is only read. -/
def AV.nr : AV → Prop
  | .c _ | .gp _ _ | .p _ _ | .s _ _ _ _ | .x _ _ _ _ => True
  | .q _ _ | .ri _ _ | .rr _ _ => False
  | .i _ x => x.nr
  | .g _ x => x.nr
  | .a l => nrL l
  | .t l => nrL l
  | .f _ l => nrL l
def nrL : List AV → Prop
  | [] => True
  | x :: l => x.nr ∧ nrL l
end
def nrLL : List (List AV) → Prop
  | [] => True
  | c :: l => nrL c ∧ nrLL l

def HObj.nr : HObj → Prop
  | .oo _ _ l => nrLL l
  | _ => True
def HObj.nl : HObj → Prop
  | .oo _ _ l => nlLL l
  | _ => True

mutual
/-- The names turned. -/
def AV.ren (f : Nat → Nat) : AV → AV
  | .c v => .c v
  | .gp g off => .gp g off
  | .p n off => .p (f n) off
  | .s n off len cap => .s (f n) off len cap
  | .x n off len cap => .x (f n) off len cap
  | .q x off => .q (x.ren f) off
  | .ri k l => .ri k l
  | .rr sz l => .rr sz l
  | .a l => .a (renL f l)
  | .t l => .t (renL f l)
  | .f fn l => .f fn (renL f l)
  | .i ty x => .i ty (x.ren f)
  | .g b x => .g b (x.ren f)
def renL (f : Nat → Nat) : List AV → List AV
  | [] => []
  | x :: l => x.ren f :: renL f l
def renLL (f : Nat → Nat) : List (List AV) → List (List AV)
  | [] => []
  | c :: l => renL f c :: renLL f l
end

def HObj.ren (f : Nat → Nat) : HObj → HObj
  | .oo e sz l => .oo e sz (renLL f l)
  | o => o

mutual
/-- It hangs on no memory that is only read, as a test. -/
def AV.isNr : AV → Bool
  | .c _ | .gp _ _ | .p _ _ | .s _ _ _ _ | .x _ _ _ _ => true
  | .q _ _ | .ri _ _ | .rr _ _ => false
  | .i _ x => x.isNr
  | .g _ x => x.isNr
  | .a l => isNrL l
  | .t l => isNrL l
  | .f _ l => isNrL l
def isNrL : List AV → Bool
  | [] => true
  | x :: l => x.isNr && isNrL l
end

/-- A value as the callee is to read it: memory of the call's own that is only read; Z: the names that it came from. -/
def frzE (look : Nat → HObj) : AV → Option (AV × List Nat × List Prop)
  | .c v => some (.c v, [], [])
  | .gp g off => some (.gp g off, [], [])
  | .ri k l => some (.ri k l, [], [])
  | .rr sz l => some (.rr sz l, [], [])
  | .s n off len cap | .x n off len cap => match look n with
    | .oi _ k l => some (.ri k ((l.drop off).take len), [n], [len ≤ cap, off + cap ≤ l.length])
    | .oo _ sz l => some (.rr sz ((l.drop (off / sz)).take len), [n], [off % sz = 0, len ≤ cap, off / sz + cap ≤ l.length, nlLL l])
    | .dead => none
  | .a l => if l.all (fun x => match x with | .c _ => true | _ => false) then some (.a l, [], []) else some (.a l, [], [nlL l])
  | .i ty x => some (.i ty x, [], [x.nl])
  | .f fn l => some (.f fn l, [], [nlL l])
  | _ => none

def frzEL (look : Nat → HObj) : List AV → Option (List AV × List Nat × List Prop)
  | [] => some ([], [], [])
  | x :: l => do
    let (y, z, p) ← frzE look x
    let (r, zs, ps) ← frzEL look l
    some (y :: r, z ++ zs, p ++ ps)

/-- A record's own slices too. -/
def frz (look : Nat → HObj) : AV → Option (AV × List Nat × List Prop)
  | .a l => do
    let (r, z, ps) ← frzEL look l
    some (.a r, z, ps)
  | x => frzE look x

def frzL (look : Nat → HObj) : List AV → Option (List AV × List Nat × List Prop)
  | [] => some ([], [], [])
  | x :: l => do
    let (y, z, p) ← frz look x
    let (r, zs, ps) ← frzL look l
    some (y :: r, z ++ zs, p ++ ps)

def All : List Prop → Prop
  | [] => True
  | p :: l => p ∧ All l

/-- A byte of a string. -/
def Sp.strAt (s : ByteArray) (j : Int) : Int := (s.data.toList.getD j.toNat 0).toNat

/-- Some cells lie in memory that is only read; in a block; a block after a store. -/
def Sp.roAt (x : AV) (off n : Nat) (l : List AV) : Prop := ∃ ps, roCells x off n = some (l, ps) ∧ All ps
def Sp.ownAt (o : HObj) (off n : Nat) (l : List AV) : Prop := ∃ ps, o.cells off n = some (l, ps) ∧ All ps
def Sp.setAt (o : HObj) (off : Nat) (l : List AV) (ob : HObj) : Prop := ∃ ps, o.setCells off l = some (ob, ps) ∧ All ps
def viewP (look : Nat → HObj) (ad : AV) (n : Nat) (l : List AV) : Prop :=
  match ad with
  | .p m off => Sp.ownAt (look m) off n l
  | .q x off => Sp.roAt x off n l
  | _ => False

/-- What is known of the functions that are called: own: whether a function is handed the blocks of its pointers and slices to write; run: what it makes of them and of its arguments. -/
structure Tab where
  own : Nat → Bool
  run : Nat → List HObj → List AV → Option (List HObj × AV)
  meth : Nat → String → Option Nat := fun _ _ => none
  kill : Bool := true
  view : List (Nat × List AV) := []
  upd : List (Nat × HObj) := []

def Tab.hint (C : Tab) (v : List (Nat × List AV)) (u : List (Nat × HObj)) : Tab := { C with view := v, upd := u }

/-- A hint for an operation by the slot of its address. -/
def hintOf {α : Type} (l : List (Nat × α)) : Operand → Option α
  | .tmp n => (l.find? (·.1 == n)).map (·.2)
  | _ => none

/-- A type's method by its name. -/
def MethOK (P : Program) (ty : Nat) (name : String) (f : Nat) : Prop := ∀ (v : Value) (w : World), (method (P.types.size + Made.depth) ty v name).run P w = .ok (f, v) w

/-- The names that arguments bear themselves. -/
def namesOf : List AV → List Nat
  | [] => []
  | .p n _ :: l => n :: namesOf l
  | .s n _ _ _ :: l => n :: namesOf l
  | .x n _ _ _ :: l => n :: namesOf l
  | _ :: l => namesOf l

/-- The names that a value leads to: its own, and those in the variables that it points to. -/
def deepA (look : Nat → HObj) : Nat → AV → List Nat
  | 0, _ => []
  | k + 1, .p n _ => n :: (match look n with | .oo _ _ [c] => c.flatMap (deepA look k) | _ => [])
  | _ + 1, .s n _ _ _ => [n]
  | _ + 1, .x n _ _ _ => [n]
  | k + 1, .f _ l => l.flatMap (deepA look k)
  | k + 1, .i _ x => deepA look k x
  | k + 1, .a l => l.flatMap (deepA look k)
  | _, _ => []

mutual
/-- All its names are among these. -/
def AV.ns (σ : List Nat) : AV → Prop
  | .c _ | .gp _ _ | .ri _ _ | .rr _ _ => True
  | .p n _ | .s n _ _ _ | .x n _ _ _ => n ∈ σ
  | .q x _ => x.ns σ
  | .i _ x => x.ns σ
  | .g _ x => x.ns σ
  | .a l => nsL σ l
  | .t l => nsL σ l
  | .f _ l => nsL σ l
def nsL (σ : List Nat) : List AV → Prop
  | [] => True
  | x :: l => x.ns σ ∧ nsL σ l
def nsLL (σ : List Nat) : List (List AV) → Prop
  | [] => True
  | c :: l => nsL σ c ∧ nsLL σ l
end
def HObj.ns (o : HObj) (σ : List Nat) : Prop :=
  match o with
  | .oo _ _ l => nsLL σ l
  | _ => True

def ddp : List Nat → List Nat
  | [] => []
  | x :: l => if (ddp l).contains x then ddp l else x :: ddp l

def setAll (l : List (Nat × HObj)) (h : List HObj) : List HObj := l.foldr (fun p h => h.set p.1 p.2) h

/-- A call by its contract. -/
def callA (P : Program) (L : Lay) (C : Tab) (look : Nat → HObj) (fr : Nat) (f : FuncId) (args : List AV) : Option Out :=
  if C.own f then do
    let σ := ddp (args.flatMap (deepA look 4))
    let as := renL (fun n => σ.idxOf n) args
    let hin := σ.map fun n => (look n).ren (fun n => σ.idxOf n)
    let (hout, res) ← C.run f hin as
    let g : Nat → Nat := fun n => if n < σ.length then σ.getD n 0 else fr + (n - σ.length)
    some ⟨res.ren g, σ.zip ((hout.take σ.length).map (·.ren g)), (hout.drop σ.length).map (·.ren g),
      Con P L f hin as hout res :: (σ.length ≤ hout.length) :: nsL σ args :: σ.map fun n => (look n).live ∧ (look n).ns σ⟩
  else do
    let (as, z, ps) ← frzL look args
    let (hout, res) ← C.run f [] as
    if C.kill && !z.isEmpty && !res.isNr then
      some ⟨res.ren (fr + ·), z.map fun n => (n, .dead), hout.map (·.ren (fr + ·)), Con P L f [] as hout res :: ps⟩
    else
      some ⟨res.ren (fr + ·), [], hout.map (·.ren (fr + ·)), Con P L f [] as hout res :: (z.isEmpty = true ∨ (res.nr ∧ ∀ o, o ∈ hout → o.nr)) :: ps⟩

/-- The elements behind a slice value, and their number. -/
def elemsA (look : Nat → HObj) : AV → Option (HObj × List Prop)
  | .c (.slice none 0 0) => some (.oo 0 0 [], [])
  | .ri k l => some (.oi 0 k l, [])
  | .rr sz l => some (.oo 0 sz l, [])
  | .s n off len _ | .x n off len _ => match look n with
    | .oi e k l => some (.oi e k ((l.drop off).take len), [off + len ≤ l.length])
    | .oo e sz l => some (.oo e sz ((l.drop (off / sz)).take len), [off % sz = 0, off / sz + len ≤ l.length, 0 < len])
    | .dead => none
  | _ => none

def HObj.len : HObj → Nat
  | .oi _ _ l => l.length
  | .oo _ _ l => l.length
  | .dead => 0

/-- What an append's first operand is: its row, the name that dies, its length, what is to hold. -/
def destA (look : Nat → HObj) (e : TypeId) (ei : TyI) : AV → Option (HObj × List (Nat × HObj) × Nat × List Prop)
  | .c (.slice none 0 0) => some ((match ei.v with | .int k => .oi e k [] | _ => .oo e ei.size []), [], 0, [])
  | .s n 0 len cap => some (look n, [(n, .dead)], len, [len = (look n).len, cap = len])
  | _ => none

def joinA (e : TypeId) (ei : TyI) : HObj → HObj → Option HObj
  | .oi e' k l0, .oi _ k' l => if k = k' ∧ e' = e ∧ ei.size = 1 then some (.oi e k (l0 ++ l)) else none
  | .oi e' k l0, .oo _ 0 [] => if e' = e ∧ ei.size = 1 then some (.oi e k l0) else none
  | .oo e' sz l0, .oo _ 0 [] => if e' = e ∧ sz = ei.size ∧ 0 < sz then some (.oo e sz l0) else none
  | .oo e' sz l0, .oo _ sz' l => if sz = sz' ∧ e' = e ∧ sz = ei.size ∧ 0 < sz then some (.oo e sz (l0 ++ l)) else none
  | _, _ => none

def appendA (E : Env) (look : Nat → HObj) (fr : Nat) (t : TypeId) (s x : AV) : Option Out := do
  let ti ← E t
  match ti.v with
  | .slice e => do
    let ei ← E e
    let (src, ps) ← elemsA look x
    let (dst, dead, len, qs) ← destA look e ei s
    let ob ← joinA e ei dst src
    some ⟨.s fr 0 (len + src.len) (len + src.len), dead, [ob], ((len + src.len) * ei.bytes ≤ 140737488355328) :: (len + src.len ≤ 9223372036854775807) :: qs ++ ps⟩
  | _ => none

/-- append(s, make([]T, n)...): n zeroes go behind. -/
def appendZ (E : Env) (look : Nat → HObj) (fr : Nat) (t tn : TypeId) (s x : AV) : Option Out := do
  let ti ← E t
  let ni ← E tn
  match ti.v, ni.v, x with
  | .slice e, .int _, .c (.int _ n) => do
    let ei ← E e
    match ei.v with
    | .int k => do
      let (dst, dead, len, qs) ← destA look e ei s
      let ob ← joinA e ei dst (.oi 0 k (List.replicate n.toNat 0))
      some ⟨.s fr 0 (len + n.toNat) (len + n.toNat), dead, [ob], (0 ≤ n) :: (ei.size = 1) :: (ei.zero = [.int k 0]) :: ((len + n.toNat) * ei.bytes ≤ 140737488355328) :: (len + n.toNat ≤ 9223372036854775807) :: qs⟩
    | _ => none
  | _, _, _ => none

/-- 'copy': as many elements as the shorter has go over. -/
def copyA (E : Env) (look : Nat → HObj) (t : TypeId) (d x : AV) : Option Out := do
  let ti ← E t
  match ti.v with
  | .slice e => do
    let ei ← E e
    let (src, ps) ← elemsA look x
    match d with
    | .s n off len _ | .x n off len _ =>
      match look n, src with
      | .oi e' k l, .oi _ k' ls => if k = k' ∧ ei.size = 1 then some ⟨.c (.int .i64 (min ls.length len : Nat)), [(n, .oi e' k (l.take off ++ ls.take (min ls.length len) ++ l.drop (off + min ls.length len)))], [], (off + len ≤ l.length) :: ps⟩ else none
      | .oo e' sz l, .oo _ sz' ls => if sz = sz' ∧ sz = ei.size ∧ 0 < sz then some ⟨.c (.int .i64 (min ls.length len : Nat)), [(n, .oo e' sz (l.take (off / sz) ++ ls.take (min ls.length len) ++ l.drop (off / sz + min ls.length len)))], [], (off % sz = 0) :: (off / sz + len ≤ l.length) :: ps⟩ else none
      | _, _ => none
    | _ => none
  | _ => none

def foldInt (g : Int → Int → Int) (k : IntKind) : Int → List AV → Option AV
  | x, [] => some (.c (.int k x))
  | x, .c (.int k' y) :: l => if k = k' then foldInt g k (g x y) l else none
  | _, _ => none

/-- 'len' of a slice, or of a string. -/
def lenOK (E : Env) (ts : List TypeId) (str : Bool) : Bool :=
  match ts with
  | [t] => match E t with
    | some ti => match ti.v with
      | .slice _ => !str
      | .str => str
      | _ => false
    | none => false
  | _ => false

def builtinA (E : Env) (look : Nat → HObj) (fr : Nat) (b : Builtin) (ts : List TypeId) (args : List AV) : Option Out :=
  match b, args with
  | .len, [.s _ _ len _] => if lenOK E ts false then .val (.c (.int .i64 len)) else none
  | .len, [.x _ _ len _] => if lenOK E ts false then .val (.c (.int .i64 len)) else none
  | .len, [.ri _ l] => if lenOK E ts false then .val (.c (.int .i64 l.length)) else none
  | .len, [.rr _ l] => if lenOK E ts false then .val (.c (.int .i64 l.length)) else none
  | .len, [.c (.slice none 0 0)] => if lenOK E ts false then .val (.c (.int .i64 0)) else none
  | .len, [.c (.string s)] => if lenOK E ts true then .val (.c (.int .i64 s.size)) else none
  | .min, .c (.int k x) :: l => (foldInt imin k x l).map fun v => ⟨v, [], [], []⟩
  | .max, .c (.int k x) :: l => (foldInt imax k x l).map fun v => ⟨v, [], [], []⟩
  | .append, [s, x] => match ts with | [t, t'] => if t = t' then appendA E look fr t s x else appendZ E look fr t t' s x | _ => none
  | _, _ => none

/-- x[lo:hi:max] of a slice. -/
def sliceA (ei : TyI) (x : AV) (li hi mi : Option Int) : Option Out :=
  match x with
  | .ri k r => if ei.size = 1 then .val (.ri k ((r.take (hi.getD r.length).toNat).drop (li.getD 0).toNat)) [0 ≤ li.getD 0, li.getD 0 ≤ hi.getD r.length, hi.getD r.length ≤ mi.getD r.length, mi.getD r.length ≤ r.length] else none
  | .rr sz r => if ei.size = sz then .val (.rr sz ((r.take (hi.getD r.length).toNat).drop (li.getD 0).toNat)) [0 ≤ li.getD 0, li.getD 0 ≤ hi.getD r.length, hi.getD r.length ≤ mi.getD r.length, mi.getD r.length ≤ r.length] else none
  | .s n off len cap => match mi with
    | none => .val (.s n (off + (li.getD 0).toNat * ei.size) ((hi.getD len) - (li.getD 0)).toNat (cap - (li.getD 0).toNat)) [0 ≤ li.getD 0, li.getD 0 ≤ hi.getD len, hi.getD len ≤ cap, li.getD 0 = 0 ∨ li.getD 0 < cap]
    | some m => .val (.x n (if m = li.getD 0 then off else off + (li.getD 0).toNat * ei.size) ((hi.getD len) - (li.getD 0)).toNat (m - (li.getD 0)).toNat) [0 ≤ li.getD 0, li.getD 0 ≤ hi.getD len, hi.getD len ≤ m, m ≤ cap]
  | .x n off len cap => .val (.x n (if mi.getD cap = li.getD 0 then off else off + (li.getD 0).toNat * ei.size) ((hi.getD len) - (li.getD 0)).toNat (mi.getD cap - (li.getD 0)).toNat) [0 ≤ li.getD 0, li.getD 0 ≤ hi.getD len, hi.getD len ≤ mi.getD cap, mi.getD cap ≤ cap]
  | _ => none

/-- A bound: absent, or a number. -/
def bndA (ev : Operand → Option AV) : Option Operand → Option (Option Int)
  | none => some none
  | some y => match ev y with
    | some (.c (.int _ i)) => some (some i)
    | _ => none

def mapM' {α β : Type} (f : α → Option β) : List α → Option (List β)
  | [] => some []
  | x :: l => do let y ← f x; let r ← mapM' f l; some (y :: r)

/-- What one operation makes: look: the blocks; fr: the next name; ev: the operands. -/
def evOp (P : Program) (L : Lay) (E : Env) (C : Tab) (look : Nat → HObj) (fr : Nat) (ev : Operand → Option AV) (o : Oper) : Option Out :=
  match o.op with
  | .move x | .assign x => do .val (← ev x)
  | .alloc t => do let ti ← E t; some ⟨.p fr 0, [], [.oo t ti.size [ti.zero.map .c]], []⟩
  | .box t x => do let v ← ev x; if (cellsOf v).all AV.one then some ⟨.p fr 0, [], [.oo t (cellsOf v).length [cellsOf v]], []⟩ else none
  | .build t ps => do
    let ti ← E t
    let parts ← mapM' (fun (p : Nat × Operand) => (ev p.2).bind fun v => if (cellsOf v).all AV.one then some (p.1, cellsOf v) else none) ps.toList
    match ti.v with
    | .struct fs => do
      let places ← mapM' (fun (f : Bool × Nat × Nat) => (E f.2.1).bind fun fi => some (f.2.2, fi.size)) fs
      let cells ← fillA (places[·]?) (ti.zero.map .c) parts
      .val (.a cells)
    | .arr _ e => do
      let ei ← E e
      let cells ← fillA (fun i => some (i * ei.size, ei.size)) (ti.zero.map .c) parts
      .val (.a cells)
    | _ => none
  | .buildSlice t len ps => do
    let ti ← E t
    let parts ← mapM' (fun (p : Nat × Operand) => (ev p.2).bind fun v => if (cellsOf v).all AV.one then some (p.1, cellsOf v) else none) ps.toList
    match ti.v with
    | .slice e => do
      let ei ← E e
      let cells ← fillA (fun i => some (i * ei.size, ei.size)) (List.replicate len (ei.zero.map AV.c)).flatten parts
      match ei.v with
      | .int k => do
        let l ← mapM' (fun x => match x with | .c (.int k' y) => if k = k' then some y else none | _ => none) cells
        if l.length = len ∧ ei.size = 1 then some ⟨.s fr 0 len len, [], [.oi e k l], [len ≤ 1000]⟩ else none
      | _ => if cells.all AV.one && cells.length == len * ei.size then some ⟨.s fr 0 len len, [], [.oo e ei.size ((List.range len).map fun i => (cells.drop (i * ei.size)).take ei.size)], [len ≤ 1000, ei.size ≤ 1000]⟩ else none
    | _ => none
  | .load t x => do
    let ti ← E t
    let ad ← ev x
    match hintOf C.view x with
    | some l =>
      if isAggV ti.v then .val (.a l) [viewP look ad ti.size l]
      else match l with | [y] => .val y [viewP look ad 1 [y]] | _ => none
    | none =>
    if isAggV ti.v then do let (l, ps) ← cellsAt L look ad ti.size; .val (.a l) ps
    else do
      let (l, ps) ← cellsAt L look ad 1
      match l with | [y] => .val y ps | _ => none
  | .store t x y => do
    let ti ← E t
    let v ← ev y
    if (cellsOf v).length = ti.size && (cellsOf v).all AV.one then
      match ← ev x with
      | .p n off => if (look n).isDead then none else match hintOf C.upd x with
        | some ob => some ⟨.c undef, [(n, ob)], [], [Sp.setAt (look n) off (cellsOf v) ob]⟩
        | none => do let (ob, ps) ← (look n).setCells off (cellsOf v); some ⟨.c undef, [(n, ob)], [], ps⟩
      | _ => none
    else none
  | .nilCheck x => do
    match ← ev x with
    | .p n off => .val (.p n off)
    | .f fn l => .val (.f fn l)
    | .i t v => .val (.i t v)
    | _ => none
  | .binOp op t x y _ => do let (v, ps) ← binA E op t (← ev x) (← ev y); .val v ps
  | .unOp op _ x => do
    match op, ← ev x with
    | .neg, .c (.int k n) => .val (.c (.int k (k.wrap (0 - n))))
    | .not, .c (.bool b) => .val (.c (.bool (!b)))
    | .xor, .c (.int k n) => .val (.c (.int k (ixor k (if k.signed then -1 else k.max) n)))
    | _, _ => none
  | .convert s d x => do
    let si ← E s
    let di ← E d
    match di.v, ← ev x with
    | .int k, .c (.int _ n) => .val (.c (.int k (k.wrap n)))
    | .str, .c (.string s) => .val (.c (.string s))
    | .str, y =>
      match si.v with
      | .slice e => do
        let ei ← E e
        match ei.v, ← elemsA look y with
        | .int .u8, (.oi _ .u8 l, ps) => .val (.c (.string (bstr l))) ps
        | .int .u8, (.oo _ 0 [], ps) => .val (.c (.string (bstr []))) ps
        | _, _ => none
      | _ => none
    | _, _ => none
  | .makeInterface t x => do
    let ti ← E t
    match ti.v with
    | .iface => none
    | _ => do .val (.i t (← ev x))
  | .makeFunc (.func f) first cap => if first.size = 0 then do .val (.f f (← mapM' ev cap.toList)) else none
  | .makeSlice t l c => do
    let ti ← E t
    match ti.v, ← ev l, ← ev c with
    | .slice e, .c (.int _ l), .c (.int _ c) => do
      let ei ← E e
      match ei.v with
      | .int k => some ⟨.s fr 0 l.toNat l.toNat, [], [.oi e k (List.replicate l.toNat 0)], [0 ≤ l, l ≤ c, ei.bytes * c ≤ 281474976710656, c ≤ 9223372036854775807, ei.size = 1, ei.zero = [.int k 0]]⟩
      | _ => some ⟨.s fr 0 l.toNat l.toNat, [], [.oo e ei.size (List.replicate l.toNat (ei.zero.map .c))], [0 ≤ l, l ≤ c, ei.bytes * c ≤ 281474976710656, c ≤ 9223372036854775807, 0 < ei.size]⟩
    | _, _, _ => none
  | .slice t x lo hi mx => do
    let ti ← E t
    match ti.v with
    | .slice e => do
      let ei ← E e
      let li ← bndA ev lo
      let hi' ← bndA ev hi
      let mi ← bndA ev mx
      let xv ← ev x
      if hi'.isNone && mi.isSome then none else sliceA ei xv li hi' mi
    | _ => none
  | .fieldAddr t x i => do
    let ti ← E t
    match ti.v with
    | .struct fs => do
      let f ← fs[i]?
      let fi ← E f.2.1
      if fi.size = 0 then none else
      match ← ev x with
      | .p n off => .val (.p n (off + f.2.2))
      | .q y off => .val (.q y (off + f.2.2))
      | _ => none
    | _ => none
  | .field t x i => do
    let ti ← E t
    match ti.v with
    | .struct fs => do
      let f ← fs[i]?
      let fi ← E f.2.1
      match ← ev x with
      | .a l => if isAggV fi.v then .val (.a ((l.drop f.2.2).take fi.size)) [f.2.2 + fi.size ≤ l.length] else (l[f.2.2]?).bind (.val ·)
      | _ => none
    | _ => none
  | .indexAddr t x i => do
    let ti ← E t
    match ti.v, ← ev x, ← ev i with
    | .slice e, y, .c (.int _ j) => do
      let ei ← E e
      match y with
      | .s n off len _ | .x n off len _ => match look n with
        | .oi _ _ l => .val (.p n (off + j.toNat * ei.size)) [0 ≤ j, j < len, 0 < l.length]
        | .oo _ _ l => .val (.p n (off + j.toNat * ei.size)) [0 ≤ j, j < len, 0 < l.length]
        | .dead => none
      | .ri _ l => .val (.q y (j.toNat * ei.size)) [0 ≤ j, j < l.length]
      | .rr _ l => .val (.q y (j.toNat * ei.size)) [0 ≤ j, j < l.length]
      | _ => none
    | .arr n e, y, .c (.int _ j) => do
      let ei ← E e
      match y with
      | .p m off => .val (.p m (off + j.toNat * ei.size)) [0 ≤ j, j < n]
      | .gp m off => .val (.gp m (off + j.toNat * ei.size)) [0 ≤ j, j < n]
      | _ => none
    | _, _, _ => none
  | .extract x i => do
    match ← ev x with
    | .t l => (l[i]?).bind (.val ·)
    | _ => none
  | .call c => do
    let args ← mapM' ev c.args.toList
    match c.callee with
    | .builtin .copy => match c.argTypes.toList, args with
      | [t, _], [d, x] => copyA E look t d x
      | _, _ => none
    | .builtin b => builtinA E look fr b c.argTypes.toList args
    | .value f => do
      match ← ev f with
      | .f fn cap => callA P L C look fr fn (args ++ cap)
      | _ => none
    | .invoke r name => do
      match ← ev r with
      | .i ty x => do
        let f ← C.meth ty name
        let out ← callA P L C look fr f (x :: args)
        some { out with os := MethOK P ty name f :: out.os }
      | _ => none
  | .index t x i => do
    let ti ← E t
    match ti.v, ← ev x, ← ev i with
    | .str, .c (.string s), .c (.int _ j) => .val (.c (.int .u8 (Sp.strAt s j))) [0 ≤ j, j < s.size]
    | _, _, _ => none
  | _ => none

/-- A state: the slots that are known; the blocks. -/
structure St where
  t : List (Nat × AV)
  h : List HObj

def look1 : List (Nat × AV) → Nat → Option AV
  | [], _ => none
  | (m, x) :: l, n => if m = n then some x else look1 l n

/-- A constant, a struct's or an array's cells apart. -/
def constA : Value → AV
  | .agg cs => .a (cs.toList.map .c)
  | v => .c v

/-- An operand: its value, and the test under which it was made. -/
def evX (t : List (Nat × AV)) : Operand → Option AV
  | .tmp n => look1 t n
  | .const v => some (constA v)
  | .global g => some (.gp g 0)
  | .func f => some (.f f [])

def unG : AV → AV
  | .g _ x => x
  | x => x
def gOf : AV → List Prop
  | .g b _ => [b = true]
  | _ => []

/-- The operands of an operation that were made under a test: the test is to hold. -/
def gsOf (t : List (Nat × AV)) (xs : List Operand) : List Prop := xs.flatMap fun x => match evX t x with | some y => gOf y | none => []

def pickA (c a b : AV) : Option (AV × List Prop) :=
  match unG c, unG a, unG b with
  | .c (.bool x), .c (.bool y), .c (.bool z) => some (.c (.bool (if x then y else z)), gOf c ++ [x = true → All (gOf a), x = false → All (gOf b)])
  | .c (.bool x), _, _ => match x with
    | true => some (unG a, gOf c ++ gOf a)
    | false => some (unG b, gOf c ++ gOf b)
  | _, _, _ => none
where
  All : List Prop → Prop
  | [] => True
  | p :: l => p ∧ All l

/-- One operation, its guards aside. -/
def evBare (P : Program) (L : Lay) (E : Env) (C : Tab) (look : Nat → HObj) (fr : Nat) (t : List (Nat × AV)) (o : Oper) : Option Out :=
  match o.op with
  | .pick c a b => do let (v, ps) ← pickA (← evX t c) (← evX t a) (← evX t b); .val v ps
  | op => do
    let out ← evOp P L E C look fr (fun x => (evX t x).map unG) o
    some { out with os := gsOf t op.operands.toList ++ out.os }

/-- The test of a guarded operation. -/
def guardA (t : List (Nat × AV)) (ops : Array Oper) (j : Nat) (want : Bool) : Option Bool := do
  let o ← ops[j]?
  let d ← o.dst
  match ← look1 t d with
  | .c (.bool b) => some (if want then b else !b)
  | .g g (.c (.bool b)) => some (g && (if want then b else !b))
  | _ => none

/-- What is to be shown under a test. -/
def gz (g : Bool) : List Prop → List Prop
  | [] => []
  | ps => [g = true → All ps]
theorem gz_ok {g : Bool} {ps : List Prop} (h : All (gz g ps)) (e : g = true) : All ps := by
  cases ps with
  | nil => trivial
  | cons p ps => exact h.1 e

/-- One operation, guarded or not. -/
def evStep (P : Program) (L : Lay) (E : Env) (C : Tab) (look : Nat → HObj) (fr : Nat) (t : List (Nat × AV)) (ops : Array Oper) (o : Oper) : Option Out :=
  match o.guard with
  | none => evBare P L E C look fr t o
  | some (j, want) => do
    let g ← guardA t ops j want
    match evBare P L E C look fr t o with
    | some out => match out.ws, out.news with
      | [], [] => some ⟨.g g out.v, [], [], gz g out.os⟩
      | _, _ => match g with
        | true => some out
        | false => some ⟨.c undef, [], [], []⟩
    | none => match g with
      | true => none
      | false => some ⟨.c undef, [], [], []⟩

/-- What it makes is laid into the state; N: the number of slots. -/
def put (N : Nat) (st : St) (o : Oper) (out : Out) : Option St :=
  if out.ws.all (fun p => decide (p.1 < st.h.length)) then
    match o.dst with
    | some d => if d < N then some ⟨(d, out.v) :: st.t, setAll out.ws (st.h ++ out.news)⟩ else none
    | none => some ⟨st.t, setAll out.ws (st.h ++ out.news)⟩
  else none

/-- The names that a value bears itself, or in its fields. -/
def names1 : AV → List Nat
  | .p n _ => [n]
  | .s n _ _ _ => [n]
  | .x n _ _ _ => [n]
  | .a l => namesOf l
  | _ => []

/-- The names that an operand bears. -/
def topNames : AV → List Nat
  | .f _ l => l.flatMap names1
  | .i _ x => names1 x
  | .g _ x => topNames x
  | x => names1 x

/-- The blocks that an operation reads, and those that it writes or makes. -/
structure Sig where
  rd : List Nat
  wr : List Nat

def readsMem : Op → Bool
  | .load .. | .store .. | .convert .. | .indexAddr .. | .call _ => true
  | _ => false

/-- The names that may be read by way of an operand. -/
def rdN (look : Nat → HObj) : AV → List Nat
  | .g _ x => rdN look x
  | x => topNames x ++ (deepA look 4 x ++ deepA look 5 x)

def sigOf (t : List (Nat × AV)) (look : Nat → HObj) (fr : Nat) (o : Oper) (out : Out) : Sig :=
  ⟨if readsMem o.op then o.op.operands.toList.flatMap fun x => match evX t x with | some y => rdN look y | none => [] else [], out.ws.map (·.1) ++ List.range' fr out.news.length⟩

/-- A region in the order of its text. -/
def evOps (P : Program) (L : Lay) (E : Env) (C : Tab) (N : Nat) (ops : Array Oper) : List Oper → St → Option (St × List Prop × List Sig)
  | [], st => some (st, [], [])
  | o :: r, st => do
    let out ← evStep P L E C (fun n => st.h.getD n .dead) st.h.length st.t ops o
    let st1 ← put N st o out
    let (st2, ps, sg) ← evOps P L E C N ops r st1
    some (st2, out.os ++ ps, sigOf st.t (fun n => st.h.getD n .dead) st.h.length o out :: sg)

/-- The operations that are behind an operation by its edges, each as a bit. -/
def maskOf (acc : List Nat) (o : Oper) : Nat := o.after.toList.foldr (fun e s => if Region.binds .any e then s ||| 2 ^ e.on ||| acc.getD e.on 0 else s) 0
def masks : List Nat → List Oper → List Nat
  | acc, [] => acc
  | acc, o :: r => masks (acc ++ [maskOf acc o]) r

def apart2 (a b : List Nat) : Bool := a.all fun n => !b.contains n

/-- Two operations, neither of them behind the other, do not touch each other. -/
def indepAt (ops : Array Oper) (ms : List Nat) (sg : List Sig) (i j : Nat) : Bool :=
  (ms.getD i 0).testBit j ||
    (match ops[j]?, ops[i]?, sg[j]?, sg[i]? with
    | some x, some y, some sx, some sy => x.apart ops y && apart2 sx.wr sy.rd && apart2 sx.wr sy.wr && apart2 sy.wr sx.rd
    | _, _, _, _ => false)

def indep (ops : Array Oper) (sg : List Sig) : Bool :=
  let ms := masks [] ops.toList
  Region.noSelect ops && (List.range ops.size).all fun i => (ops.getD i default).after.all (fun e => !Region.binds .any e || decide (e.on < i)) && (List.range i).all fun j => indepAt ops ms sg i j

/-- The slots that are known. -/
def Slots (F : Nat → Prop) (w : World) (ρ : Ren) (t : List (Nat × AV)) (a : Act) : Prop := ∀ n x, look1 t n = some x → ∃ v, a.tmps[n]? = some v ∧ AR F w ρ x v

/-- What a call began with. -/
structure Base where
  X : Nat → Prop
  w0 : World
  F0 : Nat → Prop
  ρ0 : Ren
  k : Nat
  hk : ∀ n, n ≥ k → ρ0 n = none
  hX : ∀ b, X b → ∃ n, n < k ∧ blkOf ρ0 n = some b

/-- The whole of a state. -/
structure Rel (L : Lay) (B : Base) (N : Nat) (st : St) (a : Act) (w : World) (ρ : Ren) (F : Nat → Prop) : Prop where
  defers : a.defers = []
  size : a.tmps.size = N
  slots : Slots F w ρ st.t a
  fresh : ∀ n, n ≥ st.h.length → ρ n = none
  mem : Mem L B.X B.w0 F w ρ (fun n => st.h.getD n .dead)
  ext0 : ∀ n lo, B.ρ0 n = some lo → ρ n = some lo
  f0 : ∀ b, B.F0 b → F b
  f1 : ∀ b, F b → B.F0 b ∨ B.w0.heap.size ≤ b

/-- One state says no more than another: slots are forgotten, blocks are forgotten, names behind the first k are turned. -/
def Ent (L : Lay) (k N : Nat) (st st' : St) : Prop :=
  ∀ (B : Base) (a : Act) (w : World) (ρ : Ren) (F : Nat → Prop), B.k = k → Rel L B N st a w ρ F → ∃ ρ' F', Rel L B N st' a w ρ' F'

/-- The slots that are kept. -/
def keepS (t : List (Nat × AV)) : List Nat → List (Nat × AV)
  | [] => []
  | n :: l => match look1 t n with
    | some x => (n, x) :: keepS t l
    | none => keepS t l

/-- A region, walked; what it leaves in the slots that are kept. -/
def evR (P : Program) (L : Lay) (E : Env) (C : Tab) (N : Nat) (ops : Array Oper) (draw : Bool) (keep : List Nat) (st : St) : Option (St × List Prop) :=
  match evOps P L E C N ops ops.toList st with
  | some (st', ps, sg) => if !draw || indep ops sg then some (⟨keepS st'.t keep, st'.h⟩, ps) else none
  | none => none

/-- What is to be shown of a piece of code, from a state on; K: what is to be shown behind it. -/
def VC (P : Program) (L : Lay) (k N : Nat) (c : Code) (st : St) (K : Exit → St → Prop) : Prop :=
  ∀ (B : Base) (a : Act) (w : World) (ρ : Ren) (F : Nat → Prop) (Q : Exit → Act → World → Prop), B.k = k → Rel L B N st a w ρ F →
    (∀ e st' a' w' ρ' F', K e st' → Rel L B N st' a' w' ρ' F' → Q e a' w') → c.wp P Q a w

end Go.Ev
