/-
  The data of the lifted semantics, and the evaluator: Go code run over trees, without memory and without addresses. No conditions.
-/
import Derived.Calls
import GoSem.ClaimData
import Derived.Below
import Derived.KernelRfl
import Derived.Laws.Rows
import Derived.Laws.CopyRow
import Derived.Laws.NewFold
import Derived.ChangeKeysEq
import Derived.Laws.Cover1
import Derived.Laws.StructEq
import Derived.Laws.BytesString
import Derived.Lib.Strings
import Derived.Laws.MakeOwn
set_option linter.unusedVariables false
set_option linter.unusedSimpArgs false
namespace Go.Proofs.YtlkjnlfddadlmaaDoor.V

inductive T (α : Type) where
  | int (k : IntKind) (n : Int)
  | bool (b : Bool)
  | str (s : List UInt8)
  | sl (a : α) (tag : Nat) (sz : Nat) (n : Nat) (cs : List (T α))
  | dead (a : α)
  | nili
  | ifc (a : α)

inductive Root where
  | sl (d : Nat)
  | ex (j : Nat)
  deriving DecidableEq

inductive C (α : Type) where
  | t (x : T α)
  | ptr (a : α) (r : Root) (p : List Nat) (off : Nat)
  | bor (a : α) (r : Root) (p : List Nat) (i off sz n : Nat)
  | rptr (a : α) (cs : List (T α))
  | nilp
  | fn (f : Nat) (caps : List (C α))
  | nilf
  | lst (a : α) (sz n : Nat) (cs : List (C α))

inductive X (α : Type) where
  | c (x : C α)
  | agg (cs : List (C α))
  | box (a : α) (cs : List (C α))
  | tup (xs : List (X α))
  | undef

structure St (α : Type) where
  s : Nat → X α
  e : List (List (C α))

abbrev TU := T Unit
abbrev CU := C Unit
abbrev XU := X Unit
abbrev SU := St Unit

structure Ty where
  ok : Bool
  sz : Nat
  agg : Bool
  zs : List CU
  fs : List (Nat × Nat)
  el : Option Nat
  bytes : Nat
  flat : Bool
  kind : Nat

variable {α : Type}

def upd {β : Type} (f : Nat → β) (d : Nat) (x : β) : Nat → β := fun i => if i = d then x else f i

def sub : List (T α) → List Nat → Option (List (T α))
  | cs, [] => some cs
  | cs, i :: p => match cs[i]? with
    | some (.sl _ 0 _ _ ds) => sub ds p
    | _ => none

def setT : List (T α) → List Nat → Nat → T α → Option (List (T α))
  | cs, [], off, y => if off < cs.length then some (cs.set off y) else none
  | cs, i :: p, off, y => match cs[i]? with
    | some (.sl a 0 sz n ds) => (setT ds p off y).map fun ds' => cs.set i (.sl a 0 sz n ds')
    | _ => none

def subC : List (C α) → List Nat → Option (List (C α))
  | cs, [] => some cs
  | cs, i :: p => match cs[i]? with
    | some (.t (.sl _ 0 _ _ ds)) => (sub ds p).map (·.map .t)
    | _ => none

def setC : List (C α) → List Nat → Nat → C α → Option (List (C α))
  | cs, [], off, y => if off < cs.length then some (cs.set off y) else none
  | cs, i :: p, off, .t y => match cs[i]? with
    | some (.t (.sl a 0 sz n ds)) => (setT ds p off y).map fun ds' => cs.set i (.t (.sl a 0 sz n ds'))
    | _ => none
  | _, _ :: _, _, _ => none

def flatX : List (X α) → List (C α)
  | [] => []
  | .c x :: xs => x :: flatX xs
  | .agg cs :: xs => cs ++ flatX xs
  | _ :: xs => flatX xs

def splitX : List (X α) → List (C α) → List (X α)
  | [], _ => []
  | .c x :: xs, cs => .c (cs.head?.getD x) :: splitX xs cs.tail
  | .agg ds :: xs, cs => .agg (cs.take ds.length) :: splitX xs (cs.drop ds.length)
  | x :: xs, cs => x :: splitX xs cs

def rootCells (S : St α) : Root → Option (List (C α))
  | .sl d => match S.s d with
    | .box _ cs => some cs
    | .c x => some [x]
    | .agg cs => some cs
    | .tup xs => some (flatX xs)
    | _ => none
  | .ex j => S.e[j]?

def at_ (S : St α) (r : Root) (p : List Nat) (off : Nat) : Option (C α) :=
  ((rootCells S r).bind (subC · p)).bind (·[off]?)

def rdc (r : Root) (p : List Nat) (i : Nat) : C α → C α
  | .t (.sl a 0 sz n _) => .bor a r p i 0 sz n
  | .lst a _ _ _ => .t (.dead a)
  | c => c

def loadN (S : St α) (r : Root) (p : List Nat) (off : Nat) : Nat → Option (List (C α))
  | 0 => some []
  | n + 1 => (at_ S r p off).bind fun c => (loadN S r p (off + 1) n).map fun cs => rdc r p off c :: cs

def setX : X α → List (C α) → X α
  | .box a _, cs => .box a cs
  | .c _, [x] => .c x
  | .agg _, cs => .agg cs
  | .tup xs, cs => .tup (splitX xs cs)
  | x, _ => x

def setRoot (S : St α) (r : Root) (cs : List (C α)) : St α :=
  match r with
  | .sl d => { S with s := upd S.s d (setX (S.s d) cs) }
  | .ex j => { S with e := S.e.set j cs }

def putCell (S : St α) (r : Root) (p : List Nat) (off : Nat) (c : C α) : Option (St α) :=
  (rootCells S r).bind fun cs => (setC cs p off c).map (setRoot S r)

def pre : List Nat → List Nat → Bool
  | [], _ => true
  | x :: xs, y :: ys => x == y && pre xs ys
  | _ :: _, [] => false

mutual
def killC (r : Root) (q : List Nat) : C α → C α
  | .ptr a r' p off => if r = r' ∧ pre q p then .t (.dead a) else .ptr a r' p off
  | .bor a r' p i off sz n => if r = r' ∧ pre q (p ++ [i]) then .t (.dead a) else .bor a r' p i off sz n
  | .fn f caps => .fn f (killCs r q caps)
  | .t x => .t x
  | .rptr a cs => .rptr a cs
  | .nilp => .nilp
  | .nilf => .nilf
  | .lst a sz n cs => .lst a sz n (killCs r q cs)
def killCs (r : Root) (q : List Nat) : List (C α) → List (C α)
  | [] => []
  | c :: cs => killC r q c :: killCs r q cs
end

mutual
def killX (r : Root) (q : List Nat) : X α → X α
  | .c x => .c (killC r q x)
  | .agg cs => .agg (killCs r q cs)
  | .box a cs => .box a (killCs r q cs)
  | .tup xs => .tup (killXs r q xs)
  | .undef => .undef
def killXs (r : Root) (q : List Nat) : List (X α) → List (X α)
  | [] => []
  | x :: xs => killX r q x :: killXs r q xs
end

def kill (r : Root) (q : List Nat) (S : St α) : St α := { s := fun i => killX r q (S.s i), e := S.e.map (killCs r q) }

mutual
def retag : T α → T α
  | .sl a tag sz n cs => .sl a (tag + 1) sz n (retags cs)
  | .int k n => .int k n
  | .bool b => .bool b
  | .str s => .str s
  | .dead a => .dead a
  | .nili => .nili
  | .ifc a => .ifc a
def retags : List (T α) → List (T α)
  | [] => []
  | x :: xs => retag x :: retags xs
end

mutual
def up : T α → T α
  | .sl a tag sz n cs => .sl a (if tag = 0 then 0 else tag + 1) sz n (ups cs)
  | .int k n => .int k n
  | .bool b => .bool b
  | .str s => .str s
  | .dead a => .dead a
  | .nili => .nili
  | .ifc a => .ifc a
def ups : List (T α) → List (T α)
  | [] => []
  | x :: xs => up x :: ups xs
end

mutual
def down : T α → Option (T α)
  | .sl a tag sz n cs => if tag = 1 then none else (downs cs).map fun ds => .sl a (tag - 1) sz n ds
  | .int k n => some (.int k n)
  | .bool b => some (.bool b)
  | .str s => some (.str s)
  | .dead a => some (.dead a)
  | .nili => some .nili
  | .ifc a => some (.ifc a)
def downs : List (T α) → Option (List (T α))
  | [] => some []
  | x :: xs => (down x).bind fun y => (downs xs).map fun ys => y :: ys
end

def listAt (S : St α) (r : Root) (p : List Nat) (i off m : Nat) : Option (List (T α)) :=
  match at_ S r p i with
  | some (.t (.sl _ 0 _ _ ds)) => if off + m ≤ ds.length then some ((ds.drop off).take m) else none
  | _ => none

def isOwn : C α → Bool
  | .t (.sl _ 0 _ _ _) => true
  | .lst _ _ _ _ => true
  | _ => false

def ownX1 : X α → Bool
  | .c x => isOwn x
  | .agg cs => cs.any isOwn
  | .box _ _ => true
  | .tup _ => true
  | .undef => false

def hasOwn : X α → Bool
  | .c x => isOwn x
  | .agg cs => cs.any isOwn
  | .box _ _ => true
  | .tup xs => xs.any ownX1
  | .undef => false

def takeAt (S : St α) (a : α) (r : Root) (p : List Nat) (i off sz n : Nat) : Option (T α × St α) :=
  match at_ S r p i with
  | some (.t (.sl b 0 sz' _ ds)) => if off + n * sz ≤ ds.length ∧ sz = sz' ∧ 0 < sz then
      (putCell S r p i (.t (.dead b))).map fun S' => (.sl a 0 sz n ((ds.drop off).take (n * sz)), kill r (p ++ [i]) S')
    else none
  | _ => none

end Go.Proofs.YtlkjnlfddadlmaaDoor.V

namespace Go.Proofs.YtlkjnlfddadlmaaDoor.V

structure Ctx where
  ty : Nat → Ty
  th : Nat → Nat
  vs : Nat → List Nat
  ts : Nat → List Nat
  act : Nat → Bool
  plc : Nat → List Nat
  nst : Nat → Bool
  tke : Nat → Bool
  dpt : Nat → Nat
  mov : Nat → List Nat
  good : Nat → Bool
  ord : Nat → Nat → Nat → Bool
  shr : Nat → Nat → Nat → List Nat
  pnd : Nat → Nat → Nat → List Nat
  pal : Nat → Nat → Nat → List Nat
  prm : Nat → Nat → List Nat
  tl : Nat → Nat → Option Nat
  orc : Nat → Option (List XU → Option XU)
  gro : Nat → Option (Nat × Nat)

def zeroIs : CU → Value → Bool
  | .t (.int k n), .int k' m => decide (k = k') && decide (n = m)
  | .t (.bool b), .bool c => b == c
  | .t (.str []), .string s => s.data == #[]
  | .t (.sl _ 0 _ 0 []), .slice none 0 0 => true
  | .t .nili, .nilIface => true
  | .nilp, .pointer none => true
  | .nilf, .nilFunc => true
  | _, _ => false

def zerosAre : List CU → List Value → Bool
  | [], [] => true
  | c :: cs, v :: vs => zeroIs c v && zerosAre cs vs
  | _, _ => false

section
variable (cx : Ctx) (f : Nat)

def isName (t : Nat) : Bool := decide (t < cx.th f) || (cx.vs f).contains t

def isVar (t : Nat) : Bool := isName cx f t || (cx.ts f).contains t

def elSz (t : Nat) : Nat := match (cx.ty t).el with | some e => (cx.ty e).sz | none => 0

def constX (t : Nat) : Value → Option XU
  | .int k n => some (.c (.t (.int k n)))
  | .bool b => some (.c (.t (.bool b)))
  | .string s => some (.c (.t (.str s.data.toList)))
  | .slice none 0 0 => if (cx.ty t).ok then some (.c (.t (.sl () 0 (elSz cx t) 0 []))) else none
  | .nilIface => some (.c (.t .nili))
  | .pointer none => some (.c .nilp)
  | .nilFunc => some (.c .nilf)
  | .agg vs => if (cx.ty t).agg && zerosAre (cx.ty t).zs vs.toList then some (.agg (cx.ty t).zs) else none
  | _ => none

def rdcs {α : Type} (r : Root) (i : Nat) : List (C α) → List (C α)
  | [] => []
  | c :: cs => rdc r [] i c :: rdcs r (i + 1) cs

def rdS {α : Type} (v : Bool) (t : Nat) : X α → Option (X α)
  | .undef => none
  | .box a cs => if v then some (.c (.ptr a (.sl t) [] 0)) else some (.box a cs)
  | .c x => if v then some (.c (rdc (.sl t) [] 0 x)) else some (.c x)
  | .agg cs => if v then some (.agg (rdcs (.sl t) 0 cs)) else some (.agg cs)
  | .tup xs => if v then none else some (.tup xs)

def opv (S : SU) (t : Nat) : Operand → Option XU
  | .tmp d => rdS (isVar cx f d) d (S.s d)
  | .const v => constX cx t v
  | .func g => some (.c (.fn g []))
  | .global _ => none

def clr {α : Type} (S : St α) : Operand → St α
  | .tmp d => if isVar cx f d then S else if hasOwn (S.s d) then { S with s := upd S.s d .undef } else S
  | _ => S

def put (S : SU) (dst : Option Nat) (x : XU) : SU :=
  match dst with
  | some d => { S with s := upd S.s d x }
  | none => S

def cellsX : XU → Option (List CU)
  | .c x => some [x]
  | .agg cs => some cs
  | _ => none

def mkX (t : Nat) (cs : List CU) : Option XU :=
  if (cx.ty t).agg then (if cs.length = (cx.ty t).sz then some (.agg cs) else none) else match cs with
    | [x] => some (.c x)
    | _ => none

def intOf : Option XU → Option Int
  | some (.c (.t (.int _ n))) => some n
  | _ => none

def boolOf : Option XU → Option Bool
  | some (.c (.t (.bool b))) => some b
  | _ => none

def bvOp (op : BinOp) (k : IntKind) (x y : Int) : Option TU :=
  let a := BitVec.ofInt k.bits x
  let b := BitVec.ofInt k.bits y
  match op with
  | .and => some (.int k (k.wrap (a &&& b).toNat))
  | .or => some (.int k (k.wrap (a ||| b).toNat))
  | .xor => some (.int k (k.wrap (a ^^^ b).toNat))
  | .andNot => some (.int k (k.wrap (a &&& ~~~b).toNat))
  | _ => none

def intOp (op : BinOp) (k : IntKind) (x y : Int) : Option TU :=
  match op with
  | .add => some (.int k (k.wrap (x + y)))
  | .sub => some (.int k (k.wrap (x - y)))
  | .mul => some (.int k (k.wrap (x * y)))
  | .quo => if y = 0 then none else some (.int k (k.wrap (x.tdiv y)))
  | .rem => if y = 0 then none else some (.int k (x.tmod y))
  | .eql => some (.bool (x == y))
  | .neq => some (.bool (x != y))
  | .lss => some (.bool (decide (x < y)))
  | .leq => some (.bool (decide (x ≤ y)))
  | .gtr => some (.bool (decide (x > y)))
  | .geq => some (.bool (decide (x ≥ y)))
  | op => bvOp op k x y

def shOp (op : BinOp) (k : IntKind) (x y : Int) : Option TU :=
  if y < 0 then none else match op with
    | .shl => some (.int k (k.wrap (x * 2 ^ (min y.toNat k.bits))))
    | .shr => some (.int k (x.fdiv (2 ^ (min y.toNat k.bits))))
    | _ => none

def strOp (op : BinOp) (x y : List UInt8) : Option TU :=
  match op with
  | .add => if x.length + y.length ≤ maxLen then some (.str (x ++ y)) else none
  | .eql => some (.bool (x == y))
  | .neq => some (.bool (!(x == y)))
  | .lss => some (.bool (Op.bytesLess x y))
  | .leq => some (.bool (Op.bytesLess x y || x == y))
  | .gtr => some (.bool (!(Op.bytesLess x y || x == y)))
  | .geq => some (.bool (!Op.bytesLess x y))
  | _ => none

def nilOp (op : BinOp) (same : Bool) : Option TU :=
  match op with
  | .eql => some (.bool same)
  | .neq => some (.bool (!same))
  | _ => none

def binV (kd : Nat) (kc : Bool) (op : BinOp) : CU → CU → Option TU
  | .t (.int k x), .t (.int k' y) => match op with
    | .shl => shOp .shl k x y
    | .shr => shOp .shr k x y
    | op => if k = k' then intOp op k x y else none
  | .t (.str x), .t (.str y) => strOp op x y
  | .t (.bool x), .t (.bool y) => if kd = 5 then nilOp op (x == y) else none
  | .nilp, .nilp => if kd = 6 then nilOp op true else none
  | .nilp, .ptr _ _ _ _ => if kd = 6 then nilOp op false else none
  | .ptr _ _ _ _, .nilp => if kd = 6 then nilOp op false else none
  | .t .nili, .t .nili => if kd = 7 && kc then nilOp op true else none
  | .t .nili, .t (.ifc _) => if kd = 7 then nilOp op false else none
  | .t (.ifc _), .t .nili => if kd = 7 then nilOp op false else none
  | _, _ => none

def unV (op : UnOp) : CU → Option TU
  | .t (.bool b) => if op = .not then some (.bool (!b)) else none
  | .t (.int k n) => match op with
    | .neg => some (.int k (k.wrap (0 - n)))
    | _ => none
  | _ => none

def byteT (b : UInt8) : TU := .int .u8 b.toNat
def ofByteT : TU → Option UInt8
  | .int .u8 n => some n.toNat.toUInt8
  | _ => none

mutual
def snapC (S : SU) : CU → Option CU
  | .t x => some (.t (retag x))
  | .bor _ r p i off sz n => if 0 < sz then (listAt S r p i off (n * sz)).map fun ds => .t (.sl () 1 sz n (retags ds)) else none
  | .rptr a cs => some (.rptr a (retags cs))
  | .nilp => some .nilp
  | .nilf => some .nilf
  | .fn g [] => some (.fn g [])
  | .lst _ sz n cs => (snapCs S cs).bind fun ds => (allT ds).map fun ts => .t (.sl () 1 sz n ts)
  | _ => none
def snapCs (S : SU) : List CU → Option (List CU)
  | [] => some []
  | c :: cs => (snapC S c).bind fun x => (snapCs S cs).map fun xs => x :: xs
def allT : List CU → Option (List TU)
  | [] => some []
  | .t x :: cs => (allT cs).map fun xs => x :: xs
  | _ => none
end

def snapX (S : SU) : XU → Option XU
  | .c x => (snapC S x).map .c
  | .agg cs => (snapCs S cs).map .agg
  | _ => none

mutual
def settle : CU → SU → Option (TU × SU)
  | .t x, S => some (x, S)
  | .bor a (.sl d) p i off sz n, S => takeAt S a (.sl d) p i off sz n
  | .lst a sz n cs, S => (settles cs S).map fun r => (.sl a 0 sz n r.1, r.2)
  | _, _ => none
def settles : List CU → SU → Option (List TU × SU)
  | [], S => some ([], S)
  | c :: cs, S => (settle c S).bind fun r => (settles cs r.2).map fun q => (r.1 :: q.1, q.2)
end

def isList {α : Type} : Option (C α) → Bool
  | some (.t (.sl _ 0 _ _ _)) => true
  | _ => false

mutual
def alive {α : Type} (S : St α) : C α → Bool
  | .ptr _ r p _ => p.isEmpty || isList (at_ S r p.dropLast (p.getLast?.getD 0))
  | .bor _ r p i _ _ _ => isList (at_ S r p i)
  | .fn _ caps => alives S caps
  | .lst _ _ _ cs => alives S cs
  | .t _ => true
  | .rptr _ _ => true
  | .nilp => true
  | .nilf => true
def alives {α : Type} (S : St α) : List (C α) → Bool
  | [] => true
  | c :: cs => alive S c && alives S cs
end

def keep : CU → SU → Option (CU × SU)
  | .lst a sz n cs, S => (settle (.lst a sz n cs) S).map fun r => (.t r.1, r.2)
  | .bor a (.sl d) p i off sz n, S => if isName cx f d then some (.bor a (.sl d) p i off sz n, S) else (takeAt S a (.sl d) p i off sz n).map fun r => (.t r.1, r.2)
  | .bor a (.ex j) p i off sz n, S => if cx.tke f then (takeAt S a (.ex j) p i off sz n).map fun r => (.t r.1, r.2) else some (.bor a (.ex j) p i off sz n, S)
  | c, S => some (c, S)

def fillC (cells : List CU) (off : Nat) (cs : List CU) : List CU := cells.take off ++ cs ++ cells.drop (off + cs.length)

def buildV (place : Nat → Option (Nat × Nat)) : List (Nat × Operand) → List CU → SU → Option (List CU × SU)
  | [], cells, S => some (cells, S)
  | (i, o) :: rest, cells, S => (place i).bind fun q => (opv cx f S q.2 o).bind fun x => (cellsX x).bind fun cs =>
      if cs.length = (cx.ty q.2).sz ∧ q.1 + cs.length ≤ cells.length then buildV place rest (fillC cells q.1 cs) (clr cx f S o) else none

def addrV (x : CU) (n : Nat) : Option CU :=
  match x with
  | .ptr a r p off => some (.ptr a r p (off + n))
  | .rptr a cs => if n ≤ cs.length then some (.rptr a (cs.drop n)) else none
  | _ => none

def repl {β : Type} (n : Nat) (xs : List β) : List β := (List.replicate n xs).flatten

def sliceV (x : CU) (lo hi : Option Int) : Option CU :=
  match x with
  | .t (.str s) => let l := lo.getD 0; let h := hi.getD s.length
    if 0 ≤ l ∧ l ≤ h ∧ h ≤ s.length then some (.t (.str ((s.drop l.toNat).take (h - l).toNat))) else none
  | .bor a r p i off sz n => let l := lo.getD 0; let h := hi.getD n
    if 0 ≤ l ∧ l ≤ h ∧ h ≤ n then some (.bor a r p i (off + l.toNat * sz) sz (h - l).toNat) else none
  | .t (.sl a (tag + 1) sz n cs) => let l := lo.getD 0; let h := hi.getD n
    if 0 ≤ l ∧ l ≤ h ∧ h ≤ n then some (.t (.sl a (tag + 1) sz (h - l).toNat ((cs.drop (l.toNat * sz)).take ((h - l).toNat * sz)))) else none
  | _ => none

def optInt (S : SU) : Option Operand → Option (Option Int)
  | none => some none
  | some o => (intOf (opv cx f S 0 o)).map some

def lenV : CU → Option Int
  | .t (.str s) => some s.length
  | .t (.sl _ _ _ n _) => some n
  | .bor _ _ _ _ _ _ n => some n
  | .lst _ _ n _ => some n
  | _ => none

def readL (S : SU) : CU → Option (Nat × Nat × List TU)
  | .t (.sl _ _ sz n cs) => some (sz, n, cs)
  | .bor _ r p i off sz n => (listAt S r p i off (n * sz)).map fun cs => (sz, n, cs)
  | _ => none

def bytesOf : List TU → Option (List UInt8)
  | [] => some []
  | x :: xs => (ofByteT x).bind fun b => (bytesOf xs).map fun bs => b :: bs

def convV (so : Bool) (ks kd : Nat) (S : SU) (x : CU) : Option CU :=
  match x with
  | .t (.int _ n) => if so then (match kd with
    | 1 => some (.t (.int .i64 (IntKind.wrap .i64 n)))
    | 2 => some (.t (.int .u8 (IntKind.wrap .u8 n)))
    | _ => none) else none
  | .t (.str s) => if so ∧ kd = 3 then some (.t (.str s)) else none
  | x => if kd = 3 ∧ ks = 4 then (readL S x).bind fun q => if q.1 = 1 then (bytesOf q.2.2).map fun bs => .t (.str bs) else none else none

end
end Go.Proofs.YtlkjnlfddadlmaaDoor.V

namespace Go.Proofs.YtlkjnlfddadlmaaDoor.V

def kindOf (cx : Ctx) (t : Nat) : Nat := if (cx.ty t).ok then (cx.ty t).kind else 0

abbrev Callee := Nat → List XU → List (List CU) → Option (XU × List (List CU))

section
variable (cx : Ctx) (f : Nat) (call : Callee)

def tupOff : List XU → Nat → Nat
  | [], _ => 0
  | _, 0 => 0
  | x :: xs, i + 1 => (flatX [x]).length + tupOff xs i

def extractV (S : SU) (o : Operand) (i : Nat) : Option XU :=
  match o with
  | .tmp d => match S.s d with
    | .tup xs => (xs[i]?).bind fun y => if hasOwn y then (if isVar cx f d then (match y with
        | .c x => some (.c (rdc (.sl d) [] (tupOff xs i) x))
        | .agg cs => some (.agg (rdcs (.sl d) (tupOff xs i) cs))
        | _ => none) else none) else some y
    | _ => none
  | _ => none

def snapArgs (S : SU) : List Operand → List Nat → Option (List XU)
  | [], _ => some []
  | o :: os, ts => (opv cx f S (ts.head?.getD 0) o).bind fun x => (snapX S x).bind fun y => (snapArgs S os ts.tail).map fun ys => y :: ys

mutual
def downC : CU → Option CU
  | .t x => (down x).map .t
  | .ptr a r p off => some (.ptr a r p off)
  | .bor a r p i off sz n => some (.bor a r p i off sz n)
  | .rptr _ _ => none
  | .nilp => some .nilp
  | .nilf => some .nilf
  | .fn g caps => (downCs caps).map (.fn g)
  | .lst _ _ _ _ => none
def downCs : List CU → Option (List CU)
  | [] => some []
  | x :: xs => (downC x).bind fun y => (downCs xs).map fun ys => y :: ys
end

mutual
def downX : XU → Option XU
  | .c x => (downC x).map .c
  | .agg cs => (downCs cs).map .agg
  | .box a cs => (downCs cs).map (.box a)
  | .tup xs => (downXs xs).map .tup
  | .undef => none
def downXs : List XU → Option (List XU)
  | [] => some []
  | x :: xs => (downX x).bind fun y => (downXs xs).map fun ys => y :: ys
end

def quietCall (S : SU) (fo : Operand) (args : List Operand) (ts : List Nat) : Option XU :=
  match opv cx f S 0 fo with
  | some (.c (.fn g [])) => if cx.act g then none else (snapArgs cx f S args ts).bind fun xs => (call g xs []).bind fun r => downX r.1
  | _ => none

def mm (b : Builtin) (x y : Int) : Option Int :=
  match b with
  | .max => some (max x y)
  | .min => some (min x y)
  | _ => none

def capsV (S : SU) : List Operand → Option (List CU)
  | [] => some []
  | o :: os => (opv cx f S 0 o).bind fun x => match x with
    | .c c => if isOwn c then none else (capsV S os).map fun cs => c :: cs
    | _ => none

def elOk (t sz : Nat) : Bool := (cx.ty t).ok && match (cx.ty t).el with
  | some el => (cx.ty el).ok && (cx.ty el).sz == sz
  | none => false

def sliceOk (t : Nat) : CU → Bool
  | .t (.str _) => kindOf cx t == 3
  | .bor _ _ _ _ _ sz _ => elOk cx t sz
  | .t (.sl _ _ sz _ _) => elOk cx t sz
  | _ => false

def int64Of : Option XU → Option Int
  | some (.c (.t (.int .i64 n))) => some n
  | _ => none

def mmV (b : Builtin) (x y : Option Int) (S : SU) : Option (XU × SU) :=
  match x, y with
  | some a, some b' => (mm b a b').map fun n => (.c (.t (.int .i64 n)), S)
  | _, _ => none

def lenOk (t : Nat) : CU → Bool
  | .t (.str _) => kindOf cx t == 3
  | _ => (cx.ty t).ok && (cx.ty t).el.isSome

def growV (S : SU) (c : Call) : Option XU :=
  match c.callee, c.args.toList with
  | .value (.func g), [.const (.slice none 0 0), y] => match cx.gro g, int64Of (opv cx f S 0 y) with
    | some q, some n => if 0 ≤ n ∧ n * q.2 ≤ 140737488355328 ∧ n ≤ maxLen then some (.c (.t (.sl () 0 q.1 0 []))) else none
    | _, _ => none
  | _, _ => none

def isGrow (c : Call) : Bool :=
  match c.callee, c.args.toList with
  | .value (.func g), [.const (.slice none 0 0), _] => (cx.gro g).isSome
  | _, _ => false

def qcall (S : SU) (t : Nat) (c : Call) : Option (XU × SU) :=
  match c.callee, c.args.toList, c.argTypes.toList with
  | .builtin .len, [x], [t'] => match opv cx f S t' x with
    | some (.c z) => if lenOk cx t' z then (lenV z).map fun n => (.c (.t (.int .i64 n)), S) else none
    | _ => none
  | .builtin b, [x, y], _ => mmV b (int64Of (opv cx f S t x)) (int64Of (opv cx f S t y)) S
  | .value fo, args, ts => if isGrow cx c then (growV cx f S c).map fun x => (x, S) else (quietCall cx f call S fo args ts).map fun x => (x, S)
  | _, _, _ => none

def isConstO : Operand → Bool
  | .const _ => true
  | _ => false

def lstV (sz n : Nat) (cs : List CU) : CU :=
  match allT cs with
  | some ts => .t (.sl () 0 sz n ts)
  | none => .lst () sz n cs

def qval (S : SU) (t : Nat) : Op → Option (XU × SU)
  | .move x => (opv cx f S t x).map fun y => (y, clr cx f S x)
  | .pick c a b => match boolOf (opv cx f S t c) with
    | some true => (opv cx f S t a).map fun y => (y, clr cx f S a)
    | some false => (opv cx f S t b).map fun y => (y, clr cx f S b)
    | none => none
  | .alloc e => if (cx.ty e).ok then some (.box () (cx.ty e).zs, S) else none
  | .box e x => (opv cx f S e x).bind fun y => (cellsX y).bind fun cs => if (cx.ty e).ok ∧ cs.length = (cx.ty e).sz then some (.box () cs, clr cx f S x) else none
  | .build e ps => if (cx.ty e).ok ∧ (cx.ty e).agg ∧ (cx.ty e).fs ≠ [] ∧ ((cx.ty e).fs.all fun q => (cx.ty q.2).ok) then (buildV cx f (fun i => (cx.ty e).fs[i]?) ps.toList (cx.ty e).zs S).map fun r => (.agg r.1, r.2) else none
  | .buildSlice e len ps => match (cx.ty e).el with
    | some el => if (cx.ty el).ok ∧ (cx.ty e).ok ∧ len * (cx.ty el).sz ≤ 16777216 then (buildV cx f (fun i => if i < len then some (i * (cx.ty el).sz, el) else none) ps.toList (repl len (cx.ty el).zs) S).map fun r => (.c (lstV (cx.ty el).sz len r.1), r.2) else none
    | none => none
  | .load e a => match opv cx f S 0 a with
    | some (.c (.ptr _ r p off)) => if (cx.ty e).ok then (loadN S r p off (cx.ty e).sz).bind fun cs => (mkX cx e cs).map fun x => (x, S) else none
    | some (.c (.rptr _ cs)) => if (cx.ty e).ok ∧ (cx.ty e).sz ≤ cs.length then (mkX cx e ((cs.take (cx.ty e).sz).map .t)).map fun x => (x, S) else none
    | _ => none
  | .fieldAddr e x i => match (cx.ty e).fs[i]?, opv cx f S 0 x with
    | some (off, ft), some (.c y) => if (cx.ty e).ok ∧ (cx.ty ft).ok ∧ 0 < (cx.ty ft).sz then (addrV y off).map fun z => (.c z, S) else none
    | _, _ => none
  | .field e x i => match (cx.ty e).fs[i]?, opv cx f S 0 x with
    | some (off, ft), some (.agg cs) => if (cx.ty e).ok ∧ (cx.ty ft).ok ∧ off + (cx.ty ft).sz ≤ cs.length then (mkX cx ft ((cs.drop off).take (cx.ty ft).sz)).map fun y => (y, clr cx f S x) else none
    | _, _ => none
  | .indexAddr e x i => match (cx.ty e).el, opv cx f S e x, intOf (opv cx f S 0 i) with
    | some el, some (.c (.bor _ r p j off sz n)), some k => if (cx.ty e).ok ∧ 0 ≤ k ∧ k < n ∧ sz = (cx.ty el).sz ∧ (cx.ty el).ok then some (.c (.ptr () r (p ++ [j]) (off + k.toNat * sz)), S) else none
    | some el, some (.c (.t (.sl _ (_ + 1) sz n cs))), some k => if (cx.ty e).ok ∧ 0 ≤ k ∧ k < n ∧ sz = (cx.ty el).sz ∧ (cx.ty el).ok then some (.c (.rptr () (cs.drop (k.toNat * sz))), S) else none
    | _, _, _ => none
  | .index e x i => match opv cx f S 0 x, intOf (opv cx f S 0 i) with
    | some (.c (.t (.str s))), some k => if kindOf cx e = 3 ∧ 0 ≤ k ∧ k < s.length then some (.c (.t (byteT (s.getD k.toNat 0))), S) else none
    | _, _ => none
  | .binOp op xt x y yt => match opv cx f S xt x, opv cx f S yt y with
    | some (.c a), some (.c b) => (binV (kindOf cx xt) (isConstO x || isConstO y) op a b).map fun z => (.c (.t z), S)
    | _, _ => none
  | .unOp op xt x => match opv cx f S xt x with
    | some (.c a) => (unV op a).map fun z => (.c (.t z), S)
    | _ => none
  | .convert src dst x => match opv cx f S src x with
    | some (.c a) => (convV (cx.ty src).ok (kindOf cx src) (kindOf cx dst) S a).map fun z => (.c z, S)
    | _ => none
  | .extract x i => (extractV cx f S x i).map fun y => (y, S)
  | .slice e x lo hi none => match opv cx f S e x, optInt cx f S lo, optInt cx f S hi with
    | some (.c y), some l, some h => if sliceOk cx e y then (sliceV y l h).map fun z => (.c z, S) else none
    | _, _, _ => none
  | .makeSlice e l c => match (cx.ty e).el, intOf (opv cx f S 0 l), intOf (opv cx f S 0 c) with
    | some el, some n, some m => if 0 ≤ n ∧ n ≤ m ∧ m * (cx.ty el).bytes ≤ 140737488355328 ∧ m ≤ maxLen ∧ (cx.ty e).ok ∧ (cx.ty el).ok ∧ 0 < (cx.ty el).sz then (allT (cx.ty el).zs).map fun zs => (.c (.t (.sl () 0 (cx.ty el).sz n.toNat (repl n.toNat zs))), S) else none
    | _, _, _ => none
  | .makeFunc (.func g) first caps => if first = #[] then (capsV cx f S caps.toList).map fun cs => (.c (.fn g cs), S) else none
  | .call c => qcall cx f call S t c
  | .nilCheck x => match opv cx f S 0 x with
    | some (.c (.ptr a r p off)) => some (.c (.ptr a r p off), S)
    | some (.c (.rptr a cs)) => some (.c (.rptr a cs), S)
    | _ => none
  | _ => none

def keepD (d : Nat) : CU → SU → Option (CU × SU)
  | .bor a (.sl d') p i off sz n, S => if d' = d then (takeAt S a (.sl d') p i off sz n).map fun r => (.t r.1, r.2) else keep cx f (.bor a (.sl d') p i off sz n) S
  | c, S => keep cx f c S

def keepDs (d : Nat) : List CU → SU → Option (List CU × SU)
  | [], S => some ([], S)
  | c :: cs, S => (keepD cx f d c S).bind fun r => (keepDs d cs r.2).map fun q => (r.1 :: q.1, q.2)

def keepX (d : Nat) : XU → SU → Option (XU × SU)
  | .c x, S => (keepD cx f d x S).bind fun r => if alive r.2 r.1 then some (.c r.1, r.2) else none
  | .agg cs, S => (keepDs cx f d cs S).bind fun r => if alives r.2 r.1 then some (.agg r.1, r.2) else none
  | .box a cs, S => if alives S cs then some (.box a cs, S) else none
  | _, _ => none

mutual
def rootsC (bors : Bool) : CU → List Root
  | .ptr _ r _ _ => [r]
  | .bor _ r _ _ _ _ _ => if bors then [r] else []
  | .fn _ caps => rootsCs bors caps
  | .lst _ _ _ cs => rootsCs bors cs
  | _ => []
def rootsCs (bors : Bool) : List CU → List Root
  | [] => []
  | c :: cs => rootsC bors c ++ rootsCs bors cs
end

def refsOf : XU → List Root
  | .c x => rootsC true x
  | .agg cs => rootsCs true cs
  | .box _ cs => rootsCs true cs
  | _ => []

def assignV (S : SU) (t : Nat) (d : Nat) (x : Operand) : Option SU :=
  (opv cx f S t x).bind fun y => (keepX cx f d y (clr cx f S x)).bind fun r =>
    if isVar cx f d then (if (refsOf r.1).contains (.sl d) then none else
      let S1 := kill (.sl d) [] r.2
      some { S1 with s := upd S1.s d r.1 })
    else some { r.2 with s := upd r.2.s d r.1 }

def isEx : Root → Bool
  | .ex _ => true
  | _ => false

def putCells (r : Root) (p : List Nat) : Nat → List (List Nat) → List CU → SU → Option SU
  | _, _, [], S => some S
  | off, qs, c :: cs, S => (at_ S r p off).bind fun old =>
      if isOwn old then (if cx.nst f && isEx r then none else (putCell S r p off (.t (.dead ()))).bind fun S0 =>
        (putCell (kill r (p ++ [off]) S0) r p off ((qs ++ [p ++ [off]]).foldl (fun c q => killC r q c) c)).bind fun S1 => putCells r p (off + 1) (qs ++ [p ++ [off]]) cs S1)
      else (putCell S r p off (qs.foldl (fun c q => killC r q c) c)).bind fun S1 => putCells r p (off + 1) qs cs S1

def toT : List TU → List CU := List.map .t

def storeV (S : SU) (t : Nat) (a x : Operand) : Option SU :=
  match opv cx f S 0 a with
  | some (.c (.ptr _ r p off)) => (opv cx f S t x).bind fun y => (cellsX y).bind fun cs =>
      if (cx.ty t).ok ∧ cs.length = (cx.ty t).sz then
        match r, p with
        | .sl d, [] => (keepDs cx f d cs (clr cx f S x)).bind fun q => if alives q.2 q.1 then putCells cx f r p off [] q.1 q.2 else none
        | _, _ => (settles cs (clr cx f S x)).bind fun q => putCells cx f r p off [] (toT q.1) q.2
      else none
  | _ => none

def headV (S : SU) (o : Operand) (t : Nat) : Option (List TU × Nat × Nat × SU) :=
  match opv cx f S t o with
  | some (.c (.t (.sl _ 0 sz n cs))) => some (cs, sz, n, clr cx f S o)
  | some (.c (.bor a r p i off sz n)) => if cx.nst f && isEx r then none else (takeAt S a r p i off sz n).bind fun q => match q.1 with
    | .sl _ _ _ _ cs => some (cs, sz, n, q.2)
    | _ => none
  | some (.c (.lst _ sz n cs)) => (settles cs (clr cx f S o)).map fun q => (q.1, sz, n, q.2)
  | _ => none

def flatT : TU → Bool
  | .sl _ 0 _ _ _ => false
  | _ => true

def tailV (S : SU) (o : Operand) (t : Nat) (flat : Bool) : Option (List TU × Nat × Nat × SU) :=
  match opv cx f S t o with
  | some (.c (.t (.sl _ (_ + 1) sz n cs))) => some (cs, sz, n, S)
  | some (.c (.t (.str s))) => some (s.map byteT, 1, s.length, S)
  | some (.c (.bor _ r p i off sz n)) => if flat then (listAt S r p i off (n * sz)).bind fun cs => if cs.all flatT then some (cs, sz, n, S) else none else headV cx f S o t
  | _ => headV cx f S o t

def tailTy (t : Nat) : Bool := (cx.ty t).ok && ((cx.ty t).el.isSome || (cx.ty t).kind == 3)

def appendV (S : SU) (ts : List Nat) (s x : Operand) : Option (XU × SU) :=
  match ts with
  | [t, t'] => match (cx.ty t).el with
    | some el => (tailV cx f S x t' (cx.ty el).flat).bind fun (ys, sz', m, S1) => (headV cx f S1 s t).bind fun (zs, sz, n, S2) =>
        if sz = (cx.ty el).sz ∧ sz' = (cx.ty el).sz ∧ 0 < sz ∧ (cx.ty el).ok ∧ (cx.ty t).ok ∧ tailTy cx t' ∧ n + m ≤ maxLen ∧ (n + m) * (cx.ty el).bytes ≤ 140737488355328 then
          some (.c (.t (.sl () 0 sz (n + m) (zs ++ ys))), S2) else none
    | none => none
  | _ => none

def addRoots : List Root → List Root → List Root
  | L, [] => L
  | L, r :: rs => if L.contains r then addRoots L rs else addRoots (L ++ [r]) rs

def rootsIn (S : SU) : List Root → List Root
  | [] => []
  | r :: rs => rootsCs false ((rootCells S r).getD []) ++ rootsIn S rs

def closeRoots (S : SU) : Nat → List Root → List Root
  | 0, L => L
  | n + 1, L => closeRoots S n (addRoots L (rootsIn S L))

def placeOf : List Root → Root → Nat → Option Nat
  | [], _, _ => none
  | r :: rs, q, j => if r = q then some j else placeOf rs q (j + 1)

mutual
def inC {α : Type} (L : List Root) (k : Nat) : C α → C α
  | .t x => .t (up x)
  | .ptr a r p off => match placeOf L r k with
    | some j => .ptr a (.ex j) p off
    | none => .t (.dead a)
  | .bor a r p i off sz n => match placeOf L r k with
    | some j => .bor a (.ex j) p i off sz n
    | none => .t (.dead a)
  | .fn g caps => .fn g (inCs L k caps)
  | .rptr a cs => .rptr a (retags cs)
  | .nilp => .nilp
  | .nilf => .nilf
  | .lst a _ _ _ => .t (.dead a)
def inCs {α : Type} (L : List Root) (k : Nat) : List (C α) → List (C α)
  | [] => []
  | c :: cs => inC L k c :: inCs L k cs
end

def rootOf (L : List Root) (k j : Nat) : Option Root := if k ≤ j then L[j - k]? else none

mutual
def outC {α : Type} (L : List Root) (k : Nat) : C α → C α
  | .t x => .t x
  | .ptr a (.ex j) p off => match rootOf L k j with
    | some r => .ptr a r p off
    | none => .t (.dead a)
  | .bor a (.ex j) p i off sz n => match rootOf L k j with
    | some r => .bor a r p i off sz n
    | none => .t (.dead a)
  | .fn g caps => .fn g (outCs L k caps)
  | .rptr a cs => .rptr a cs
  | .nilp => .nilp
  | .nilf => .nilf
  | .ptr a _ _ _ => .t (.dead a)
  | .bor a _ _ _ _ _ _ => .t (.dead a)
  | .lst a _ _ _ => .t (.dead a)
def outCs {α : Type} (L : List Root) (k : Nat) : List (C α) → List (C α)
  | [] => []
  | c :: cs => outC L k c :: outCs L k cs
end

def argC (S : SU) (L : List Root) (k : Nat) : CU → Option CU
  | .ptr a r p off => if (placeOf L r k).isSome then some (inC L k (.ptr a r p off)) else none
  | .fn g caps => if (rootsCs true caps).all (L.contains ·) then some (inC L k (.fn g caps)) else none
  | .bor a r p i off sz n => match placeOf L r k with
    | some j => some (.bor a (.ex j) p i off sz n)
    | none => snapC S (.bor a r p i off sz n)
  | c => if (rootsC true c).any (L.contains ·) then none else snapC S c

def argCs (S : SU) (L : List Root) (k : Nat) : List CU → Option (List CU)
  | [] => some []
  | c :: cs => (argC S L k c).bind fun x => (argCs S L k cs).map fun xs => x :: xs

def argX (S : SU) (L : List Root) (k : Nat) : XU → Option XU
  | .c x => (argC S L k x).map .c
  | .agg cs => (argCs S L k cs).map .agg
  | _ => none

structure Row where
  t : TU
  r : Root
  p : List Nat
  i : Nat

def takeRow {α : Type} (S : St α) (r : Root) (p : List Nat) (i : Nat) : Option (T α × St α) :=
  match at_ S r p i with
  | some (.t (.sl b 0 sz m ds)) => (putCell S r p i (.t (.dead b))).map fun S' => (.sl b 0 sz m ds, kill r (p ++ [i]) S')
  | _ => none

def scalarT : TU → Bool
  | .sl _ _ _ _ _ => false
  | .dead _ => false
  | _ => true

def plcCs : Nat → List CU → SU → Option (List CU × List Row × SU)
  | _, [], S => some ([], [], S)
  | k, .bor a r p i off sz n :: cs, S => (takeRow S r p i).bind fun q => (plcCs (k + 1) cs q.2).map fun u => (.bor a (.ex k) [] 0 off sz n :: u.1, ⟨q.1, r, p, i⟩ :: u.2.1, u.2.2)
  | k, .t x :: cs, S => if scalarT x then (plcCs k cs S).map fun u => (.t x :: u.1, u.2) else none
  | _, _ :: _, _ => none

def eat {α : Type} (S : St α) : Operand → St α
  | .tmp d => if isVar cx f d then S else { S with s := upd S.s d .undef }
  | _ => S

def prepArgs (g : Nat) : Nat → Nat → List Operand → List Nat → SU → Option (List (Option XU) × List Row × SU)
  | _, _, [], _, S => some ([], [], S)
  | i, k, o :: os, ts, S =>
    if (cx.mov g).contains i then (opv cx f S (ts.head?.getD 0) o).bind fun x => match x with
      | .c c => (settle c (clr cx f S o)).bind fun q => (prepArgs g (i + 1) k os ts.tail q.2).map fun u => (some (.c (.t (up q.1))) :: u.1, u.2)
      | _ => none
    else if (cx.plc g).contains i then (opv cx f S (ts.head?.getD 0) o).bind fun x => match x with
      | .c c => (plcCs k [c] (eat cx f S o)).bind fun q => (prepArgs g (i + 1) (k + q.2.1.length) os ts.tail q.2.2).map fun u => (some (.c (q.1.head?.getD c)) :: u.1, q.2.1 ++ u.2.1, u.2.2)
      | .agg cs => (plcCs k cs (eat cx f S o)).bind fun q => (prepArgs g (i + 1) (k + q.2.1.length) os ts.tail q.2.2).map fun u => (some (.agg q.1) :: u.1, q.2.1 ++ u.2.1, u.2.2)
      | _ => none
    else (prepArgs g (i + 1) k os ts.tail S).map fun u => (none :: u.1, u.2)

def restArgs (S : SU) : List (Option XU) → List Operand → List Nat → Option (List (Option XU))
  | none :: ms, o :: os, ts => (opv cx f S (ts.head?.getD 0) o).bind fun x => (restArgs S ms os ts.tail).map fun xs => some x :: xs
  | some _ :: ms, _ :: os, ts => (restArgs S ms os ts.tail).map fun xs => none :: xs
  | _, _, _ => some []

def allArgs (S : SU) (L : List Root) (k : Nat) : List (Option XU) → List (Option XU) → Option (List XU)
  | some x :: ms, _ :: xs => (allArgs S L k ms xs).map fun ys => x :: ys
  | none :: ms, some x :: xs => (argX S L k x).bind fun y => (allArgs S L k ms xs).map fun ys => y :: ys
  | _, _ => some []

mutual
def cutC {α : Type} (L : List Root) : C α → C α
  | .ptr a r p off => if L.contains r && !p.isEmpty then .t (.dead a) else .ptr a r p off
  | .bor a r p i off sz n => if L.contains r then .t (.dead a) else .bor a r p i off sz n
  | .fn g caps => .fn g (cutCs L caps)
  | .lst a sz n cs => .lst a sz n (cutCs L cs)
  | .t x => .t x
  | .rptr a cs => .rptr a cs
  | .nilp => .nilp
  | .nilf => .nilf
def cutCs {α : Type} (L : List Root) : List (C α) → List (C α)
  | [] => []
  | c :: cs => cutC L c :: cutCs L cs
end

mutual
def cutX {α : Type} (L : List Root) : X α → X α
  | .c x => .c (cutC L x)
  | .agg cs => .agg (cutCs L cs)
  | .box a cs => .box a (cutCs L cs)
  | .tup xs => .tup (cutXs L xs)
  | .undef => .undef
def cutXs {α : Type} (L : List Root) : List (X α) → List (X α)
  | [] => []
  | x :: xs => cutX L x :: cutXs L xs
end

mutual
def outX {α : Type} (L : List Root) (k : Nat) : X α → X α
  | .c x => .c (outC L k x)
  | .agg cs => .agg (outCs L k cs)
  | .box a cs => .box a (outCs L k cs)
  | .tup xs => .tup (outXs L k xs)
  | .undef => .undef
def outXs {α : Type} (L : List Root) (k : Nat) : List (X α) → List (X α)
  | [] => []
  | x :: xs => outX L k x :: outXs L k xs
end

def backX {α : Type} (L : List Root) (k : Nat) (es : List (List (C α))) (d : Nat) (x : X α) : X α :=
  match placeOf L (.sl d) 0 with
  | some i => setX x (outCs L k (es.getD i []))
  | none => cutX L x

def backE {α : Type} (L : List Root) (k : Nat) (es : List (List (C α))) (j : Nat) (cs : List (C α)) : List (C α) :=
  match placeOf L (.ex j) 0 with
  | some i => outCs L k (es.getD i [])
  | none => cutCs L cs

def mapFrom {β : Type} (g : Nat → β → β) : Nat → List β → List β
  | _, [] => []
  | j, x :: xs => g j x :: mapFrom g (j + 1) xs

def backS {α : Type} (L : List Root) (k : Nat) (es : List (List (C α))) (S : St α) : St α :=
  { s := fun d => backX L k es d (S.s d), e := mapFrom (backE L k es) 0 S.e }

def fillRow (S : SU) (w : Row) (es : List CU) : Option SU :=
  match es with
  | [.t (.sl b 0 sz m ds)] => match at_ S w.r w.p w.i with
    | some (.t (.dead _)) => putCell S w.r w.p w.i (.t (.sl b 0 sz m ds))
    | _ => none
  | [.t (.dead _)] => some S
  | _ => none

def fillRows : List Row → List (List CU) → SU → Option SU
  | w :: ws, e :: es, S => (fillRow S w e).bind fun S' => fillRows ws es S'
  | [], _, S => some S
  | _, _, _ => none

def apart : List Row → Bool
  | [] => true
  | w :: ws => ws.all (fun v => !(w.r == v.r && (pre (w.p ++ [w.i]) (v.p ++ [v.i]) || pre (v.p ++ [v.i]) (w.p ++ [w.i])))) && apart ws

def isTup {α : Type} : X α → Bool
  | .tup _ => true
  | _ => false

def rootGood (S : SU) : Root → Bool
  | .sl d => isVar cx f d && !isTup (S.s d)
  | .ex _ => true

def nodupR : List Root → Bool
  | [] => true
  | r :: L => !L.contains r && nodupR L

def handed (S : SU) (xs : List (Option XU)) (caps : List CU) : List Root := closeRoots S (cx.dpt f) (addRoots [] (rootsCs false (flatX (xs.filterMap id) ++ caps)))

def activeCall (S : SU) (fo : Operand) (args : List Operand) (ts : List Nat) : Option (XU × SU) :=
  match opv cx f S 0 fo with
  | some (.c (.fn g _)) => (prepArgs cx f g 0 0 args ts S).bind fun u => match opv cx f u.2.2 0 fo with
    | some (.c (.fn g' caps)) => (restArgs cx f u.2.2 u.1 args ts).bind fun xs =>
        (allArgs u.2.2 (handed cx f u.2.2 xs caps) u.2.1.length u.1 xs).bind fun ys => (argCs u.2.2 (handed cx f u.2.2 xs caps) u.2.1.length caps).bind fun cs => ((handed cx f u.2.2 xs caps).mapM (rootCells u.2.2)).bind fun bs =>
          if g' = g ∧ nodupR (handed cx f u.2.2 xs caps) ∧ (handed cx f u.2.2 xs caps).all (rootGood cx f u.2.2) ∧ apart u.2.1 ∧ u.2.1.all (fun w => !(handed cx f u.2.2 xs caps).contains w.r) then
            (call g (ys ++ cs.map .c) (u.2.1.map (fun w => [.t (up w.t)]) ++ bs.map (inCs (handed cx f u.2.2 xs caps) u.2.1.length))).bind fun r => (downX r.1).bind fun x => (r.2.mapM downCs).bind fun es =>
              if (es.drop u.2.1.length).map List.length = bs.map List.length ∧ es.length = u.2.1.length + bs.length then
                (fillRows u.2.1 (es.take u.2.1.length) (backS (handed cx f u.2.2 xs caps) u.2.1.length (es.drop u.2.1.length) u.2.2)).map fun S' => (outX (handed cx f u.2.2 xs caps) u.2.1.length x, S')
              else none
          else none
    | _ => none
  | _ => none

def isUndef : XU → Bool
  | .undef => true
  | _ => false

def putQ (S : SU) (dst : Option Nat) (x : XU) : Option SU :=
  match dst with
  | some d => if isVar cx f d && !isUndef (S.s d) then none else some { S with s := upd S.s d x }
  | none => some S

def wantedV (S : SU) (ops : Array Oper) (o : Oper) : Option Bool :=
  match o.guard with
  | none => some true
  | some (j, want) => match (ops[j]?).bind (·.dst) with
    | some d => match S.s d with
      | .c (.t (.bool b)) => some (b == want)
      | .tup [] => some false
      | _ => none
    | none => none

def isActive : Op → Bool
  | .assign _ | .store _ _ _ => true
  | .call { callee := .builtin .append, .. } => true
  | .call { callee := .value (.func g), .. } => cx.act g
  | .call { callee := .value _, .. } => true
  | _ => false

def stepOp (S : SU) (ops : Array Oper) (o : Oper) : Option SU :=
  match wantedV S ops o with
  | none => none
  | some false => putQ cx f S o.dst (.tup [])
  | some true => match o.op with
    | .assign x => match o.dst with
      | some d => assignV cx f S o.type d x
      | none => none
    | .store t a x => (storeV cx f S t a x).bind fun S' => putQ cx f S' o.dst (.tup [])
    | .call c => if isActive cx (.call c) then (match c.callee, c.args.toList with
        | .builtin .append, [s, x] => (appendV cx f S c.argTypes.toList s x).bind fun r => putQ cx f r.2 o.dst r.1
        | .value fo, args => (activeCall cx f call S fo args c.argTypes.toList).bind fun r => putQ cx f r.2 o.dst r.1
        | _, _ => none) else (qcall cx f call S o.type c).bind fun r => putQ cx f r.2 o.dst r.1
    | op => (qval cx f call S o.type op).bind fun r => putQ cx f r.2 o.dst r.1

def stepOps (ops : Array Oper) : List Oper → SU → Option SU
  | [], S => some S
  | o :: os, S => (stepOp cx f call S ops o).bind fun S' => stepOps ops os S'

def softApp (S : SU) (o : Oper) : Bool :=
  match o.op with
  | .call c => match c.callee, c.args.toList, c.argTypes.toList with
    | .builtin .append, [s, x], [t, t'] => (match opv cx f S t s with
        | some (.c (.t (.sl _ 0 _ _ _))) => true
        | _ => false) && (match opv cx f S t' x with
        | some (.c (.t _)) => true
        | some (.c (.bor _ _ _ _ _ _ _)) => match (cx.ty t).el with
          | some el => (cx.ty el).flat
          | none => false
        | _ => false)
    | _, _, _ => false
  | _ => false

def softC (ops : Array Oper) (S : SU) (o : Oper) : Bool := !isActive cx o.op || wantedV S ops o == some false || softApp cx f S o

def isPure : Op → Bool
  | .move _ => true
  | .load _ _ => true
  | .fieldAddr _ _ _ => true
  | .indexAddr _ _ _ => true
  | .binOp _ _ _ _ _ => true
  | .unOp _ _ _ => true
  | .index _ _ _ => true
  | .nilCheck _ => true
  | .extract _ _ => true
  | .pick _ _ _ => true
  | .call { callee := .builtin .len, .. } => true
  | _ => false

def noCall : Callee := fun _ _ _ => none

def hide {α : Type} (Z : List Nat) (S : St α) : St α := { S with s := fun t => if t ∈ Z then .undef else S.s t }

def dsts (ops : Array Oper) (Y : List Nat) : List Nat := Y.filterMap fun y => (ops[y]?).bind (·.dst)

def redoP (id : Nat) (ops : Array Oper) (S1 : SU) : List Nat → Prop
  | [] => True
  | y :: Y => ((∀ z ∈ Y, y < z) ∧ ∃ o d, ops[y]? = some o ∧ o.dst = some d ∧ isPure o.op = true ∧ isVar cx f d = false ∧ cx.ord f id y = false ∧ (∀ t ∈ cx.shr f id y, isVar cx f t = true ∨ hasOwn (S1.s t) = false) ∧ stepOp cx f noCall (hide (dsts ops (y :: Y)) S1) ops o = some (hide (dsts ops Y) S1)) ∧ redoP id ops S1 Y

def pndOf (id k : Nat) : List Nat := if cx.ord f id k then cx.pnd f id k else []

open Classical in
noncomputable def chkD (id : Nat) (ops : Array Oper) (k : Nat) (S1 : SU) : Option SU :=
  match pndOf cx f id k with
  | [] => some S1
  | y :: Y => if redoP cx f id ops S1 (y :: Y) then some S1 else none

noncomputable def stepD0 (id : Nat) (ops : Array Oper) (k : Nat) (S : SU) (o : Oper) : Option SU :=
  if (cx.ord f id k || softC cx f ops S o) && (cx.shr f id k).all (fun t => isVar cx f t || !hasOwn (S.s t)) then (stepOp cx f call S ops o).bind (chkD cx f id ops k) else none

def ptrRoot : XU → Option Root
  | .c (.ptr _ r _ _) => some r
  | _ => none

def rootsApart (S : SU) (x y : Nat) : Bool :=
  match ptrRoot (S.s x), ptrRoot (S.s y) with
  | some r, some r' => decide (r ≠ r')
  | _, _ => false

def tailCk (S : SU) (ops : Array Oper) : Bool :=
  match ops[ops.size - 2]?, ops[ops.size - 1]? with
  | some o, some o' => match o.op, o'.op with
    | .store _ (.tmp x) _, .store _ (.tmp y) _ => rootsApart S x y
    | _, _ => false
  | _, _ => false

def inTail (id k : Nat) : Bool :=
  match cx.tl f id with
  | some m => decide (m ≤ k)
  | none => false

noncomputable def stepD (id : Nat) (ops : Array Oper) (k : Nat) (S : SU) (o : Oper) : Option SU :=
  if inTail cx f id k then (if k + 2 = ops.size && !tailCk S ops then none else stepOp cx f call S ops o)
  else stepD0 cx f call id ops k S o

noncomputable def stepsD (id : Nat) (ops : Array Oper) : Nat → List Oper → SU → Option SU
  | _, [], S => some S
  | k, o :: os, S => (stepD cx f call id ops k S o).bind fun S' => stepsD id ops (k + 1) os S'

def isPut : Op → Bool
  | .assign _ => false
  | .store _ _ _ => false
  | _ => true

def prep (S : SU) : List Oper → SU
  | [] => S
  | o :: os => match o.dst with
    | some d => if isPut o.op && isVar cx f d then (let S1 := kill (.sl d) [] S; prep { S1 with s := upd S1.s d .undef } os) else prep S os
    | none => prep S os

def remap (π : List Nat) (o : Oper) : Oper := { o with after := o.after.map fun e => { e with on := π.idxOf e.on }, guard := o.guard.map fun q => (π.idxOf q.1, q.2) }

def prmOps (π : List Nat) (ops : Array Oper) : Array Oper := if π.isEmpty then ops else (π.map fun i => remap π ((ops[i]?).getD default)).toArray

inductive Ex where
  | nrm
  | exit (id : Nat)
  | ret

def iter : Nat → (SU → Option (Ex × SU)) → SU → Option (Ex × SU)
  | 0, _, _ => none
  | n + 1, g, S => match g S with
    | some (.nrm, S') => iter n g S'
    | r => r

noncomputable def execC (lf : Nat) : Code → SU → Option (Ex × SU)
  | .skip, S => some (.nrm, S)
  | .region id ops draw, S => (if draw then stepsD cx f call id (prmOps (cx.prm f id) ops) 0 (prmOps (cx.prm f id) ops).toList (prep cx f S ops.toList) else stepOps cx f call ops ops.toList (prep cx f S ops.toList)).map fun S' => (.nrm, S')
  | .seq a b, S => match execC lf a S with
    | some (.nrm, S') => execC lf b S'
    | r => r
  | .cond c x y, S => match boolOf (opv cx f S 0 c) with
    | some true => execC lf x S
    | some false => execC lf y S
    | none => none
  | .block id c, S => match execC lf c S with
    | some (.exit id', S') => if id' = id then some (.nrm, S') else some (.exit id', S')
    | r => r
  | .loop c, S => iter lf (execC lf c) S
  | .exit id, S => some (.exit id, S)
  | .ret, S => some (.ret, S)
  | _, _ => none

def finC : CU → SU → Option (CU × SU)
  | .bor a (.sl d) p i off sz n, S => (takeAt S a (.sl d) p i off sz n).map fun r => (.t r.1, r.2)
  | .lst a sz n cs, S => (settle (.lst a sz n cs) S).map fun r => (.t r.1, r.2)
  | .ptr _ (.sl _) _ _, S => some (.t (.dead ()), S)
  | .fn g caps, S => if (rootsCs true caps).all isEx then some (.fn g caps, S) else none
  | c, S => some (c, S)

def finCs : List CU → SU → Option (List CU × SU)
  | [], S => some ([], S)
  | c :: cs, S => (finC c S).bind fun r => (finCs cs r.2).map fun q => (r.1 :: q.1, q.2)

def finX : XU → SU → Option (XU × SU)
  | .c (.ptr _ (.sl d) [] 0), S => match (kill (.sl d) [] S).s d with
    | .box a cs => (finCs cs { kill (.sl d) [] S with s := upd (kill (.sl d) [] S).s d .undef }).map fun r => (.box a r.1, r.2)
    | _ => none
  | .c x, S => (finC x S).map fun r => (.c r.1, r.2)
  | .agg cs, S => (finCs cs S).map fun r => (.agg r.1, r.2)
  | .box a cs, S => (finCs cs S).map fun r => (.box a r.1, r.2)
  | _, _ => none

def resV (S : SU) : ResultVar → Option (XU × SU)
  | .tmp t => (opv cx f S 0 (.tmp t)).map fun x => (x, clr cx f S (.tmp t))
  | .cell a t => match opv cx f S 0 (.tmp a) with
    | some (.c (.ptr _ r p off)) => if (cx.ty t).ok then (loadN S r p off (cx.ty t).sz).bind fun cs => (mkX cx t cs).map fun x => (x, S) else none
    | _ => none

def resVs (S : SU) : List ResultVar → Option (List XU × SU)
  | [] => some ([], S)
  | r :: rs => (resV cx f S r).bind fun x => (finX x.1 x.2).bind fun q => (resVs q.2 rs).map fun u => (q.1 :: u.1, u.2)

def aliveX (S : SU) : XU → Bool
  | .c c => alive S c
  | .agg cs => alives S cs
  | .box _ cs => alives S cs
  | _ => false

def packX : List XU → XU
  | [x] => x
  | xs => .tup xs

end

def slots0 {α : Type} (args : List (X α)) : Nat → X α := fun i => args.getD i .undef

noncomputable def runBody (cx : Ctx) (f : Nat) (call : Callee) (lf : Nat) (fn : Func) (c : Code) (args : List XU) (ext : List (List CU)) : Option (XU × List (List CU)) :=
  if args.length ≤ fn.ntmps then match execC cx f call lf c ⟨slots0 args, ext⟩ with
  | some (.nrm, S) | some (.ret, S) => (resVs cx f S fn.results.toList).bind fun r => if r.1.all (aliveX r.2) && r.2.e.all (fun cs => (rootsCs true cs).all isEx) then some (packX r.1, r.2.e) else none
  | _ => none
  else none

noncomputable def run (P : Program) (cx : Ctx) : Nat → Callee
  | 0 => fun _ _ _ => none
  | k + 1 => fun f args ext => match cx.orc f with
    | some h => match ext with
      | [] => (h args).map fun x => (x, [])
      | _ => none
    | none => match P.funcs[f]? with
      | some fn => match fn.body with
        | some c => if cx.good f then runBody cx f (run P cx k) k fn c args ext else none
        | none => none
      | none => none

end Go.Proofs.YtlkjnlfddadlmaaDoor.V

namespace Go.Proofs.YtlkjnlfddadlmaaDoor.V

section
variable {α β : Type} (g : α → β)

mutual
def mapT : T α → T β
  | .int k n => .int k n
  | .bool b => .bool b
  | .str s => .str s
  | .sl a tag sz n cs => .sl (g a) tag sz n (mapTs cs)
  | .dead a => .dead (g a)
  | .nili => .nili
  | .ifc a => .ifc (g a)
def mapTs : List (T α) → List (T β)
  | [] => []
  | x :: xs => mapT x :: mapTs xs
end

mutual
def mapC : C α → C β
  | .t x => .t (mapT g x)
  | .ptr a r p off => .ptr (g a) r p off
  | .bor a r p i off sz n => .bor (g a) r p i off sz n
  | .rptr a cs => .rptr (g a) (mapTs g cs)
  | .nilp => .nilp
  | .fn f caps => .fn f (mapCs caps)
  | .nilf => .nilf
  | .lst a sz n cs => .lst (g a) sz n (mapCs cs)
def mapCs : List (C α) → List (C β)
  | [] => []
  | x :: xs => mapC x :: mapCs xs
end

mutual
def mapX : X α → X β
  | .c x => .c (mapC g x)
  | .agg cs => .agg (mapCs g cs)
  | .box a cs => .box (g a) (mapCs g cs)
  | .tup xs => .tup (mapXs xs)
  | .undef => .undef
def mapXs : List (X α) → List (X β)
  | [] => []
  | x :: xs => mapX x :: mapXs xs
end

def mapS (S : St α) : St β := { s := fun i => mapX g (S.s i), e := S.e.map (mapCs g) }

theorem mapTs_eq : ∀ xs : List (T α), mapTs g xs = xs.map (mapT g)
  | [] => by simp [mapTs]
  | x :: xs => by simp [mapTs, mapTs_eq xs]
theorem mapCs_eq : ∀ xs : List (C α), mapCs g xs = xs.map (mapC g)
  | [] => by simp [mapCs]
  | x :: xs => by simp [mapCs, mapCs_eq xs]
theorem mapXs_eq : ∀ xs : List (X α), mapXs g xs = xs.map (mapX g)
  | [] => by simp [mapXs]
  | x :: xs => by simp [mapXs, mapXs_eq xs]

theorem killCs_eq (r : Root) (q : List Nat) : ∀ xs : List (C α), killCs r q xs = xs.map (killC r q)
  | [] => by simp [killCs]
  | x :: xs => by simp [killCs, killCs_eq r q xs]
theorem killXs_eq (r : Root) (q : List Nat) : ∀ xs : List (X α), killXs r q xs = xs.map (killX r q)
  | [] => by simp [killXs]
  | x :: xs => by simp [killXs, killXs_eq r q xs]
theorem retags_eq : ∀ xs : List (T α), retags xs = xs.map retag
  | [] => by simp [retags]
  | x :: xs => by simp [retags, retags_eq xs]

theorem sub_map : ∀ (p : List Nat) (cs : List (T α)), sub (cs.map (mapT g)) p = (sub cs p).map (·.map (mapT g))
  | [], cs => by simp [sub]
  | i :: p, cs => by
    simp only [sub, List.getElem?_map]
    cases h : cs[i]? with
    | none => simp
    | some x =>
      cases x with
      | sl a tag sz n ds =>
        cases tag with
        | zero => simp only [Option.map_some, mapT, mapTs_eq, sub_map p ds]
        | succ m => simp [mapT]
      | _ => simp [mapT]

theorem setT_map : ∀ (p : List Nat) (cs : List (T α)) (off : Nat) (y : T α), setT (cs.map (mapT g)) p off (mapT g y) = (setT cs p off y).map (·.map (mapT g))
  | [], cs, off, y => by
    simp only [setT, List.length_map]
    split <;> simp [List.map_set]
  | i :: p, cs, off, y => by
    simp only [setT, List.getElem?_map]
    cases h : cs[i]? with
    | none => simp
    | some x =>
      cases x with
      | sl a tag sz n ds =>
        cases tag with
        | zero =>
          simp only [Option.map_some, mapT, mapTs_eq, setT_map p ds off y, Option.map_map]
          cases setT ds p off y with
          | none => simp
          | some ds' => simp [List.map_set, mapT, mapTs_eq]
        | succ m => simp [mapT]
      | _ => simp [mapT]

theorem subC_map (cs : List (C α)) (p : List Nat) : subC (cs.map (mapC g)) p = (subC cs p).map (·.map (mapC g)) := by
  cases p with
  | nil => simp [subC]
  | cons i p =>
    simp only [subC, List.getElem?_map]
    cases h : cs[i]? with
    | none => simp
    | some x =>
      cases x with
      | t x =>
        cases x with
        | sl a tag sz n ds =>
          cases tag with
          | zero =>
            simp only [Option.map_some, mapC, mapT, mapTs_eq, sub_map, Option.map_map]
            cases sub ds p with
            | none => simp
            | some es => simp [mapC, Function.comp_def]
          | succ m => simp [mapC, mapT]
        | _ => simp [mapC, mapT]
      | _ => simp [mapC]

theorem setC_map (cs : List (C α)) (p : List Nat) (off : Nat) (y : C α) : setC (cs.map (mapC g)) p off (mapC g y) = (setC cs p off y).map (·.map (mapC g)) := by
  cases p with
  | nil =>
    simp only [setC, List.length_map]
    split <;> simp [List.map_set]
  | cons i p =>
    cases y with
    | t y =>
      simp only [mapC, setC, List.getElem?_map]
      cases h : cs[i]? with
      | none => simp
      | some x =>
        cases x with
        | t x =>
          cases x with
          | sl a tag sz n ds =>
            cases tag with
            | zero =>
              simp only [Option.map_some, mapC, mapT, mapTs_eq, setT_map, Option.map_map]
              cases setT ds p off y with
              | none => simp
              | some ds' => simp [List.map_set, mapC, mapT, mapTs_eq]
            | succ m => simp [mapC, mapT]
          | _ => simp [mapC, mapT]
        | _ => simp [mapC]
    | _ => simp [mapC, setC]

theorem flatX_map : ∀ xs : List (X α), flatX (xs.map (mapX g)) = (flatX xs).map (mapC g)
  | [] => by simp [flatX]
  | x :: xs => by cases x <;> simp [flatX, mapX, flatX_map xs, mapCs_eq]

theorem rootCells_map (S : St α) (r : Root) : rootCells (mapS g S) r = (rootCells S r).map (·.map (mapC g)) := by
  cases r with
  | sl d => simp only [rootCells, mapS]; cases h : S.s d <;> simp [mapX, mapCs_eq, mapXs_eq, flatX_map]
  | ex j =>
    simp only [rootCells, mapS, List.getElem?_map]
    cases S.e[j]? <;> simp [mapCs_eq]

theorem at_map (S : St α) (r : Root) (p : List Nat) (off : Nat) : at_ (mapS g S) r p off = (at_ S r p off).map (mapC g) := by
  simp only [at_, rootCells_map]
  cases rootCells S r with
  | none => simp
  | some cs =>
    simp only [Option.map_some, Option.bind_some, subC_map]
    cases subC cs p with
    | none => simp
    | some ds => simp

theorem rdc_map (r : Root) (p : List Nat) (i : Nat) (c : C α) : rdc r p i (mapC g c) = mapC g (rdc r p i c) := by
  cases c with
  | t x =>
    cases x with
    | sl a tag sz n ds => cases tag <;> simp [rdc, mapC, mapT]
    | _ => simp [rdc, mapC, mapT]
  | _ => simp [rdc, mapC, mapT]

theorem loadN_map (S : St α) (r : Root) (p : List Nat) : ∀ (n off : Nat), loadN (mapS g S) r p off n = (loadN S r p off n).map (·.map (mapC g))
  | 0, off => by simp [loadN]
  | n + 1, off => by
    simp only [loadN, at_map, loadN_map S r p n]
    cases at_ S r p off with
    | none => simp
    | some c =>
      cases loadN S r p (off + 1) n with
      | none => simp
      | some cs => simp [rdc_map]

theorem splitX_map : ∀ (xs : List (X α)) (cs : List (C α)), splitX (xs.map (mapX g)) (cs.map (mapC g)) = (splitX xs cs).map (mapX g)
  | [], cs => by simp [splitX]
  | x :: xs, cs => by
    have ih := splitX_map xs
    cases x with
    | c x =>
      have := ih cs.tail
      simp only [List.map_tail] at this
      cases cs <;> simp_all [splitX, mapX]
    | agg ds =>
      have h1 := ih (cs.drop ds.length)
      simp only [List.map_drop] at h1
      simp [splitX, mapX, mapCs_eq, h1, List.map_take]
    | _ => simp [splitX, mapX, ih]

theorem setX_map (x : X α) (cs : List (C α)) : setX (mapX g x) (cs.map (mapC g)) = mapX g (setX x cs) := by
  cases x with
  | c x =>
    cases cs with
    | nil => simp [setX, mapX]
    | cons y ys => cases ys <;> simp [setX, mapX]
  | agg ds => simp [setX, mapX, mapCs_eq]
  | box a ds => simp [setX, mapX, mapCs_eq]
  | tup xs => simp [setX, mapX, mapXs_eq, splitX_map]
  | undef => simp [setX, mapX]

theorem upd_map (s : Nat → X α) (d : Nat) (x : X α) : (fun i => mapX g (upd s d x i)) = upd (fun i => mapX g (s i)) d (mapX g x) := by
  funext i
  simp only [upd]
  split <;> rfl

theorem setRoot_map (S : St α) (r : Root) (cs : List (C α)) : setRoot (mapS g S) r (cs.map (mapC g)) = mapS g (setRoot S r cs) := by
  cases r with
  | sl d => simp only [setRoot, mapS, setX_map, upd_map]
  | ex j => simp [setRoot, mapS, mapCs_eq, List.map_set]

theorem putCell_map (S : St α) (r : Root) (p : List Nat) (off : Nat) (c : C α) : putCell (mapS g S) r p off (mapC g c) = (putCell S r p off c).map (mapS g) := by
  simp only [putCell, rootCells_map]
  cases rootCells S r with
  | none => simp
  | some cs =>
    simp only [Option.map_some, Option.bind_some, setC_map]
    cases setC cs p off c with
    | none => simp
    | some ds => simp [setRoot_map]

mutual
theorem killC_map (r : Root) (q : List Nat) : ∀ c : C α, killC r q (mapC g c) = mapC g (killC r q c)
  | .t x => by simp [killC, mapC]
  | .ptr a r' p off => by simp only [mapC, killC]; split <;> simp [mapC, mapT]
  | .bor a r' p i off sz n => by simp only [mapC, killC]; split <;> simp [mapC, mapT]
  | .rptr a cs => by simp [killC, mapC]
  | .nilp => by simp [killC, mapC]
  | .fn f caps => by simp [killC, mapC, killCs_map r q caps]
  | .nilf => by simp [killC, mapC]
  | .lst a sz n cs => by simp [killC, mapC, killCs_map r q cs]
theorem killCs_map (r : Root) (q : List Nat) : ∀ cs : List (C α), killCs r q (mapCs g cs) = mapCs g (killCs r q cs)
  | [] => by simp [killCs, mapCs]
  | c :: cs => by simp [killCs, mapCs, killC_map r q c, killCs_map r q cs]
end

mutual
theorem killX_map (r : Root) (q : List Nat) : ∀ x : X α, killX r q (mapX g x) = mapX g (killX r q x)
  | .c x => by simp [killX, mapX, killC_map]
  | .agg cs => by simp [killX, mapX, killCs_map]
  | .box a cs => by simp [killX, mapX, killCs_map]
  | .tup xs => by simp [killX, mapX, killXs_map r q xs]
  | .undef => by simp [killX, mapX]
theorem killXs_map (r : Root) (q : List Nat) : ∀ xs : List (X α), killXs r q (mapXs g xs) = mapXs g (killXs r q xs)
  | [] => by simp [killXs, mapXs]
  | x :: xs => by simp [killXs, mapXs, killX_map r q x, killXs_map r q xs]
end

theorem kill_map (S : St α) (r : Root) (q : List Nat) : kill r q (mapS g S) = mapS g (kill r q S) := by
  simp only [kill, mapS, killX_map]
  congr 1
  simp [killCs_map, Function.comp_def]

mutual
theorem retag_map : ∀ x : T α, retag (mapT g x) = mapT g (retag x)
  | .sl a tag sz n cs => by simp [mapT, retag, retags_map cs]
  | .int _ _ => by simp [retag, mapT]
  | .bool _ => by simp [retag, mapT]
  | .str _ => by simp [retag, mapT]
  | .dead _ => by simp [retag, mapT]
  | .nili => by simp [retag, mapT]
  | .ifc _ => by simp [retag, mapT]
theorem retags_map : ∀ xs : List (T α), retags (mapTs g xs) = mapTs g (retags xs)
  | [] => by simp [retags, mapTs]
  | x :: xs => by simp [retags, mapTs, retag_map x, retags_map xs]
end

mutual
theorem down_map : ∀ x : T α, down (mapT g x) = (down x).map (mapT g)
  | .sl a tag sz n cs => by
    simp only [mapT, down]
    split
    · simp
    · rw [downs_map cs]
      cases downs cs <;> simp [mapT]
  | .int _ _ => by simp [down, mapT]
  | .bool _ => by simp [down, mapT]
  | .str _ => by simp [down, mapT]
  | .dead _ => by simp [down, mapT]
  | .nili => by simp [down, mapT]
  | .ifc _ => by simp [down, mapT]
theorem downs_map : ∀ xs : List (T α), downs (mapTs g xs) = (downs xs).map (mapTs g)
  | [] => by simp [downs, mapTs]
  | x :: xs => by
    simp only [mapTs, downs, down_map x, downs_map xs]
    cases down x with
    | none => simp
    | some y => cases downs xs <;> simp [mapTs]
end

theorem listAt_map (S : St α) (r : Root) (p : List Nat) (i off m : Nat) : listAt (mapS g S) r p i off m = (listAt S r p i off m).map (·.map (mapT g)) := by
  simp only [listAt, at_map]
  cases at_ S r p i with
  | none => simp
  | some c =>
    cases c with
    | t x =>
      cases x with
      | sl a tag sz n ds =>
        cases tag with
        | zero =>
          simp only [Option.map_some, mapC, mapT, mapTs_eq, List.length_map]
          split <;> simp [List.map_take, List.map_drop]
        | succ m => simp [mapC, mapT]
      | _ => simp [mapC, mapT]
    | _ => simp [mapC]

theorem isOwn_map (c : C α) : isOwn (mapC g c) = isOwn c := by
  cases c with
  | t x =>
    cases x with
    | sl a tag sz n ds => cases tag <;> simp [isOwn, mapC, mapT]
    | _ => simp [isOwn, mapC, mapT]
  | _ => simp [isOwn, mapC]

theorem anyOwn_map (cs : List (C α)) : (cs.map (mapC g)).any isOwn = cs.any isOwn := by
  induction cs with
  | nil => rfl
  | cons c cs ih => simp [isOwn_map, ih]

theorem hasOwn_map (x : X α) : hasOwn (mapX g x) = hasOwn x := by
  cases x with
  | c x => simp [hasOwn, mapX, isOwn_map]
  | agg cs => simp only [hasOwn, mapX, mapCs_eq, anyOwn_map]
  | box a cs => simp [hasOwn, mapX]
  | tup xs =>
    simp only [hasOwn, mapX, mapXs_eq]
    induction xs with
    | nil => rfl
    | cons x xs ih =>
      simp only [List.map_cons, List.any_cons, ih]
      congr 1
      cases x <;> simp [ownX1, mapX, isOwn_map, mapCs_eq, Function.comp_def]
  | undef => simp [hasOwn, mapX]

theorem takeAt_map (S : St α) (a : α) (r : Root) (p : List Nat) (i off sz n : Nat) :
    takeAt (mapS g S) (g a) r p i off sz n = (takeAt S a r p i off sz n).map fun q => (mapT g q.1, mapS g q.2) := by
  simp only [takeAt, at_map]
  cases at_ S r p i with
  | none => simp
  | some c =>
    cases c with
    | t x =>
      cases x with
      | sl b tag sz' n' ds =>
        cases tag with
        | zero =>
          simp only [Option.map_some, mapC, mapT, mapTs_eq, List.length_map]
          split
          · have := putCell_map g S r p i (.t (.dead b))
            simp only [mapC, mapT] at this
            rw [this]
            cases putCell S r p i (.t (.dead b)) with
            | none => simp
            | some S' => simp [mapT, mapTs_eq, List.map_take, List.map_drop, kill_map]
          · simp
        | succ m => simp [mapC, mapT]
      | _ => simp [mapC, mapT]
    | _ => simp [mapC]

end
end Go.Proofs.YtlkjnlfddadlmaaDoor.V

namespace Go.Proofs.YtlkjnlfddadlmaaDoor.V
open Go.RowKit

abbrev TV := T Value
abbrev CV := C Value
abbrev XV := X Value
abbrev SV := St Value

def er0 : Value → Unit := fun _ => ()
abbrev erT : TV → TU := mapT er0
abbrev erC : CV → CU := mapC er0
abbrev erX : XV → XU := mapX er0
abbrev erS : SV → SU := mapS er0

def valT : TV → Value
  | .int k n => .int k n
  | .bool b => .bool b
  | .str s => .string ⟨s.toArray⟩
  | .sl a _ _ _ _ => a
  | .dead a => a
  | .nili => .nilIface
  | .ifc a => a

mutual
def valC : CV → Value
  | .t x => valT x
  | .ptr a _ _ _ => a
  | .bor a _ _ _ _ _ _ => a
  | .rptr a _ => a
  | .nilp => .pointer none
  | .fn f caps => .func (.func f) #[] (valCs caps).toArray
  | .nilf => .nilFunc
  | .lst a _ _ _ => a
def valCs : List CV → List Value
  | [] => []
  | c :: cs => valC c :: valCs cs
end

mutual
def valX : XV → Value
  | .c x => valC x
  | .agg cs => .agg (valCs cs).toArray
  | .box a _ => a
  | .tup xs => .tuple (valXs xs).toArray
  | .undef => undef
def valXs : List XV → List Value
  | [] => []
  | x :: xs => valX x :: valXs xs
end

theorem valCs_eq : ∀ cs : List CV, valCs cs = cs.map valC
  | [] => by simp [valCs]
  | c :: cs => by simp [valCs, valCs_eq cs]
theorem valXs_eq : ∀ cs : List XV, valXs cs = cs.map valX
  | [] => by simp [valXs]
  | c :: cs => by simp [valXs, valXs_eq cs]

def cellsAt (w : World) (b o : Nat) (vs : List Value) : Prop := ∀ j v, vs[j]? = some v → w.cell? ⟨b, o + j, none⟩ = some v

def Win (b o lim sz n : Nat) (a : Value) : Prop :=
  ∃ ad cap, a = .slice (some ad) n cap ∧ n ≤ cap ∧ ad.spot = none ∧ ad.block = b ∧ (cap = 0 ∨ (ad.off = o ∧ o + cap * sz ≤ lim))

def OwnAt (w : World) (a : Value) (sz n : Nat) (vs : List Value) : Prop :=
  (a = .slice none 0 0 ∧ n = 0) ∨
  ∃ b o cur e, Win b o cur.size sz n a ∧ w.heap[b]? = some (.cells cur e (0, 0)) ∧ ∀ j v, vs[j]? = some v → cur[o + j]? = some v

def ShrAt (w : World) (R : Nat → Prop) (a : Value) (n : Nat) (vs : List Value) : Prop :=
  ∃ A cap, a = .slice A n cap ∧ n ≤ cap ∧ (n = 0 ∨ ∃ ad, A = some ad ∧ ad.spot = none ∧ R ad.block ∧ cellsAt w ad.block ad.off vs)

mutual
def shT (g : Nat) : TV → Prop
  | .sl _ tag _ _ cs => 1 ≤ tag ∧ g ≤ tag ∧ shTs g cs
  | _ => True
def shTs (g : Nat) : List TV → Prop
  | [] => True
  | x :: xs => shT g x ∧ shTs g xs
end

mutual
def okT (w : World) (P : Nat → Nat → Prop) (R : Nat → Prop) : TV → Prop
  | .sl a tag sz n cs => cs.length = n * sz ∧ okTs w P R cs ∧
      (if tag = 0 then OwnAt w a sz n (cs.map valT) else ShrAt w (P tag) a n (cs.map valT) ∧ 1 ≤ tag ∧ shTs tag cs)
  | .dead a => (∃ A n c, a = .slice A n c) ∨ ∃ p, a = .pointer p
  | .ifc a => ∃ t v, a = .iface t v
  | _ => True
def okTs (w : World) (P : Nat → Nat → Prop) (R : Nat → Prop) : List TV → Prop
  | [] => True
  | x :: xs => okT w P R x ∧ okTs w P R xs
end

def hdr : Value → List Nat
  | .slice (some ad) _ _ => [ad.block]
  | .pointer (some ad) => [ad.block]
  | _ => []

mutual
def blkT : TV → List Nat
  | .sl a tag _ _ cs => if tag = 0 then hdr a ++ blkTs cs else []
  | _ => []
def blkTs : List TV → List Nat
  | [] => []
  | x :: xs => blkT x ++ blkTs xs
end

mutual
def blkC : CV → List Nat
  | .t x => blkT x
  | .lst a _ _ cs => hdr a ++ blkCs cs
  | _ => []
def blkCs : List CV → List Nat
  | [] => []
  | x :: xs => blkC x ++ blkCs xs
end

mutual
def blkX : XV → List Nat
  | .c x => blkC x
  | .agg cs => blkCs cs
  | .box a cs => hdr a ++ blkCs cs
  | .tup xs => blkXs xs
  | .undef => []
def blkXs : List XV → List Nat
  | [] => []
  | x :: xs => blkX x ++ blkXs xs
end

theorem shTs_iff {g : Nat} : ∀ {xs : List TV}, shTs g xs ↔ ∀ x ∈ xs, shT g x
  | [] => by simp [shTs]
  | x :: xs => by simp [shTs, shTs_iff (xs := xs)]
theorem okTs_iff {w : World} {P : Nat → Nat → Prop} {R : Nat → Prop} : ∀ {xs : List TV}, okTs w P R xs ↔ ∀ x ∈ xs, okT w P R x
  | [] => by simp [okTs]
  | x :: xs => by simp [okTs, okTs_iff (xs := xs)]
theorem blkTs_eq : ∀ xs : List TV, blkTs xs = xs.flatMap blkT
  | [] => by simp [blkTs]
  | x :: xs => by simp [blkTs, blkTs_eq xs]
theorem blkCs_eq : ∀ xs : List CV, blkCs xs = xs.flatMap blkC
  | [] => by simp [blkCs]
  | x :: xs => by simp [blkCs, blkCs_eq xs]
inductive EA where
  | box (ad : Addr)
  | row (vs : List Value)

def EA.ad : EA → Option Addr
  | .box ad => some ad
  | .row _ => none

def rootAd (S : SV) (ea : List EA) : Root → Option Addr
  | .sl d => match S.s d with
    | .box (.pointer (some ad)) _ => some ad
    | _ => none
  | .ex j => (ea[j]?).bind EA.ad

def hdrAt (S : SV) (r : Root) (p : List Nat) (i : Nat) : Option Value :=
  match at_ S r p i with
  | some (.t (.sl a 0 _ _ _)) => some a
  | _ => none

def placeAd (S : SV) (ea : List EA) (r : Root) (p : List Nat) : Option Addr :=
  if p = [] then rootAd S ea r else match hdrAt S r p.dropLast (p.getLast?.getD 0) with
    | some (.slice (some ad) _ _) => some ad
    | _ => none

def PtrOk (S : SV) (ea : List EA) (r : Root) (p : List Nat) (off : Nat) (a : Value) : Prop :=
  ∃ ad, placeAd S ea r p = some ad ∧ a = .pointer (some ⟨ad.block, ad.off + off, none⟩)

def BorOk (S : SV) (r : Root) (p : List Nat) (i off sz n : Nat) (a : Value) : Prop :=
  ∃ b m ds, at_ S r p i = some (.t (.sl b 0 sz m ds)) ∧ off + n * sz ≤ ds.length ∧
    ((b = .slice none 0 0 ∧ a = .slice none 0 0 ∧ n = 0) ∨
     ∃ ad cap, b = .slice (some ad) m cap ∧ Win ad.block (ad.off + off) (ad.off + cap * sz) sz n a)

mutual
def okC (w : World) (P : Nat → Nat → Prop) (R : Nat → Prop) (S : SV) (ea : List EA) : CV → Prop
  | .t x => okT w P R x
  | .ptr a r p off => PtrOk S ea r p off a
  | .bor a r p i off sz n => BorOk S r p i off sz n a
  | .rptr a cs => okTs w P R cs ∧ shTs 1 cs ∧ ∃ ad, a = .pointer (some ad) ∧ ad.spot = none ∧ (cs = [] ∨ (R ad.block ∧ cellsAt w ad.block ad.off (cs.map valT)))
  | .fn _ caps => okCs w P R S ea caps ∧ blkCs caps = []
  | .lst a sz n cs => cs.length = n * sz ∧ okCs w P R S ea cs ∧ OwnAt w a sz n (valCs cs)
  | .nilp => True
  | .nilf => True
def okCs (w : World) (P : Nat → Nat → Prop) (R : Nat → Prop) (S : SV) (ea : List EA) : List CV → Prop
  | [] => True
  | x :: xs => okC w P R S ea x ∧ okCs w P R S ea xs
end

def BoxAt (w : World) (ad : Addr) (cs : List CV) : Prop :=
  ad.off = 0 ∧ ad.spot = none ∧ ∃ cur e, w.heap[ad.block]? = some (.cells cur e (0, 0)) ∧ cur.toList = valCs cs

mutual
def okX (w : World) (P : Nat → Nat → Prop) (R : Nat → Prop) (S : SV) (ea : List EA) : XV → Prop
  | .c x => okC w P R S ea x
  | .agg cs => okCs w P R S ea cs
  | .box a cs => okCs w P R S ea cs ∧ ∃ ad, a = .pointer (some ad) ∧ BoxAt w ad cs
  | .tup xs => okXs w P R S ea xs
  | .undef => True
def okXs (w : World) (P : Nat → Nat → Prop) (R : Nat → Prop) (S : SV) (ea : List EA) : List XV → Prop
  | [] => True
  | x :: xs => okX w P R S ea x ∧ okXs w P R S ea xs
end

theorem okCs_iff {w : World} {P : Nat → Nat → Prop} {R : Nat → Prop} {S : SV} {ea : List EA} : ∀ {xs : List CV}, okCs w P R S ea xs ↔ ∀ x ∈ xs, okC w P R S ea x
  | [] => by simp [okCs]
  | x :: xs => by simp [okCs, okCs_iff (xs := xs)]
theorem okXs_iff {w : World} {P : Nat → Nat → Prop} {R : Nat → Prop} {S : SV} {ea : List EA} : ∀ {xs : List XV}, okXs w P R S ea xs ↔ ∀ x ∈ xs, okX w P R S ea x
  | [] => by simp [okXs]
  | x :: xs => by simp [okXs, okXs_iff (xs := xs)]

mutual
def refsC : CV → List Root
  | .ptr _ r _ _ => [r]
  | .bor _ r _ _ _ _ _ => [r]
  | .fn _ caps => refsCs caps
  | .lst _ _ _ cs => refsCs cs
  | _ => []
def refsCs : List CV → List Root
  | [] => []
  | c :: cs => refsC c ++ refsCs cs
end

mutual
def refsX : XV → List Root
  | .c x => refsC x
  | .agg cs => refsCs cs
  | .box _ cs => refsCs cs
  | .tup xs => refsXs xs
  | .undef => []
def refsXs : List XV → List Root
  | [] => []
  | x :: xs => refsX x ++ refsXs xs
end

theorem refsCs_eq : ∀ xs : List CV, refsCs xs = xs.flatMap refsC
  | [] => by simp [refsCs]
  | x :: xs => by simp [refsCs, refsCs_eq xs]
theorem refsXs_eq : ∀ xs : List XV, refsXs xs = xs.flatMap refsX
  | [] => by simp [refsXs]
  | x :: xs => by simp [refsXs, refsXs_eq xs]

theorem cell_same {w w' : World} {b o : Nat} (h : w'.heap[b]? = w.heap[b]?) : w'.cell? ⟨b, o, none⟩ = w.cell? ⟨b, o, none⟩ := World.cell?_of_block (a := ⟨b, o, none⟩) h

theorem cellsAt_same {w w' : World} {b o : Nat} {vs : List Value} (h : w'.heap[b]? = w.heap[b]?) (hc : cellsAt w b o vs) : cellsAt w' b o vs :=
  fun j v hv => (cell_same h).trans (hc j v hv)

theorem OwnAt.same {w w' : World} {a : Value} {sz n : Nat} {vs : List Value} (h : OwnAt w a sz n vs) (hb : ∀ b ∈ hdr a, w'.heap[b]? = w.heap[b]?) : OwnAt w' a sz n vs := by
  rcases h with h | ⟨b, o, cur, e, hw, hh, hv⟩
  · exact .inl h
  · refine .inr ⟨b, o, cur, e, hw, ?_, hv⟩
    obtain ⟨ad, cap, rfl, _, _, rfl, _⟩ := hw
    exact (hb _ (by simp [hdr])).trans hh

theorem ShrAt.same {w w' : World} {R : Nat → Prop} {a : Value} {n : Nat} {vs : List Value} (h : ShrAt w R a n vs) (hR : ∀ b, R b → w'.heap[b]? = w.heap[b]?) : ShrAt w' R a n vs := by
  obtain ⟨A, cap, ha, hc, h⟩ := h
  refine ⟨A, cap, ha, hc, h.imp id fun ⟨ad, h1, h2, h3, h4⟩ => ⟨ad, h1, h2, h3, cellsAt_same (hR _ h3) h4⟩⟩

mutual
theorem okT_same {w w' : World} {P : Nat → Nat → Prop} {R : Nat → Prop} (hP : ∀ t b, P t b → w'.heap[b]? = w.heap[b]?) (hR : ∀ b, R b → w'.heap[b]? = w.heap[b]?) :
    ∀ {x : TV}, okT w P R x → (∀ b ∈ blkT x, w'.heap[b]? = w.heap[b]?) → okT w' P R x
  | .sl a tag sz n cs, h, hb => by
    simp only [okT] at h ⊢
    obtain ⟨h1, h2, h3⟩ := h
    simp only [blkT] at hb
    by_cases ht : tag = 0
    · rw [if_pos ht] at h3 hb ⊢
      exact ⟨h1, okTs_same hP hR h2 (fun b h => hb b (List.mem_append_right _ h)), h3.same (fun b h => hb b (List.mem_append_left _ h))⟩
    · rw [if_neg ht] at h3 ⊢
      have hsh : ∀ x ∈ cs, shT tag x := shTs_iff.1 h3.2.2
      refine ⟨h1, ?_, h3.1.same ?_, h3.2⟩
      · exact okTs_same_sh hP hR h2 h3.2.2
      · exact fun b hb' => hP tag b hb'
  | .dead a, h, _ => by simpa [okT] using h
  | .ifc a, h, _ => by simpa [okT] using h
  | .int _ _, _, _ => by simp [okT]
  | .bool _, _, _ => by simp [okT]
  | .str _, _, _ => by simp [okT]
  | .nili, _, _ => by simp [okT]
theorem okTs_same {w w' : World} {P : Nat → Nat → Prop} {R : Nat → Prop} (hP : ∀ t b, P t b → w'.heap[b]? = w.heap[b]?) (hR : ∀ b, R b → w'.heap[b]? = w.heap[b]?) :
    ∀ {xs : List TV}, okTs w P R xs → (∀ b ∈ blkTs xs, w'.heap[b]? = w.heap[b]?) → okTs w' P R xs
  | [], _, _ => by simp [okTs]
  | x :: xs, h, hb => by
    simp only [okTs, blkTs] at h hb ⊢
    exact ⟨okT_same hP hR h.1 (fun b h => hb b (List.mem_append_left _ h)), okTs_same hP hR h.2 (fun b h => hb b (List.mem_append_right _ h))⟩
theorem okT_same_sh {w w' : World} {P : Nat → Nat → Prop} {R : Nat → Prop} (hP : ∀ t b, P t b → w'.heap[b]? = w.heap[b]?) (hR : ∀ b, R b → w'.heap[b]? = w.heap[b]?) :
    ∀ {g : Nat} {x : TV}, okT w P R x → shT g x → okT w' P R x
  | g, .sl a tag sz n cs, h, hs => by
    simp only [okT, shT] at h hs ⊢
    obtain ⟨h1, h2, h3⟩ := h
    have ht : tag ≠ 0 := by omega
    rw [if_neg ht] at h3 ⊢
    refine ⟨h1, okTs_same_sh hP hR h2 hs.2.2, h3.1.same ?_, h3.2⟩
    exact fun b hb' => hP tag b hb'
  | _, .dead a, h, _ => by simpa [okT] using h
  | _, .ifc a, h, _ => by simpa [okT] using h
  | _, .int _ _, _, _ => by simp [okT]
  | _, .bool _, _, _ => by simp [okT]
  | _, .str _, _, _ => by simp [okT]
  | _, .nili, _, _ => by simp [okT]
theorem okTs_same_sh {w w' : World} {P : Nat → Nat → Prop} {R : Nat → Prop} (hP : ∀ t b, P t b → w'.heap[b]? = w.heap[b]?) (hR : ∀ b, R b → w'.heap[b]? = w.heap[b]?) :
    ∀ {g : Nat} {xs : List TV}, okTs w P R xs → shTs g xs → okTs w' P R xs
  | _, [], _, _ => by simp [okTs]
  | g, x :: xs, h, hs => by
    simp only [okTs, shTs] at h hs ⊢
    exact ⟨okT_same_sh hP hR h.1 hs.1, okTs_same_sh hP hR h.2 hs.2⟩
end

theorem at_root {S S' : SV} {r : Root} (h : rootCells S' r = rootCells S r) (p : List Nat) (i : Nat) : at_ S' r p i = at_ S r p i := by simp [at_, h]

mutual
theorem okC_same {w w' : World} {P : Nat → Nat → Prop} {R : Nat → Prop} {S S' : SV} {ea : List EA} (hP : ∀ t b, P t b → w'.heap[b]? = w.heap[b]?) (hR : ∀ b, R b → w'.heap[b]? = w.heap[b]?) :
    ∀ {c : CV}, okC w P R S ea c → (∀ b ∈ blkC c, w'.heap[b]? = w.heap[b]?) → (∀ r ∈ refsC c, rootCells S' r = rootCells S r ∧ rootAd S' ea r = rootAd S ea r) → okC w' P R S' ea c
  | .t x, h, hb, _ => by simp only [okC, blkC] at h hb ⊢; exact okT_same hP hR h hb
  | .ptr a r p off, h, _, hr => by
    simp only [okC, PtrOk, refsC, placeAd, hdrAt] at h hr ⊢
    obtain ⟨h1, h2⟩ := hr r (by simp)
    simpa only [at_root h1, h2] using h
  | .bor a r p i off sz n, h, _, hr => by
    simp only [okC, BorOk, refsC] at h hr ⊢
    obtain ⟨h1, h2⟩ := hr r (by simp)
    simpa only [at_root h1] using h
  | .rptr a cs, h, _, _ => by
    simp only [okC] at h ⊢
    obtain ⟨h1, h2, ad, h3, h4, h5⟩ := h
    exact ⟨okTs_same_sh hP hR h1 h2, h2, ad, h3, h4, h5.imp id fun h => ⟨h.1, cellsAt_same (hR _ h.1) h.2⟩⟩
  | .fn f caps, h, _, hr => by
    simp only [okC, refsC] at h hr ⊢
    exact ⟨okCs_same hP hR h.1 (fun b hb => by rw [h.2] at hb; simp at hb) hr, h.2⟩
  | .lst a sz n cs, h, hb, hr => by
    simp only [okC, blkC, refsC] at h hb hr ⊢
    exact ⟨h.1, okCs_same hP hR h.2.1 (fun b h => hb b (List.mem_append_right _ h)) hr, h.2.2.same (fun b h => hb b (List.mem_append_left _ h))⟩
  | .nilp, _, _, _ => by simp [okC]
  | .nilf, _, _, _ => by simp [okC]
theorem okCs_same {w w' : World} {P : Nat → Nat → Prop} {R : Nat → Prop} {S S' : SV} {ea : List EA} (hP : ∀ t b, P t b → w'.heap[b]? = w.heap[b]?) (hR : ∀ b, R b → w'.heap[b]? = w.heap[b]?) :
    ∀ {cs : List CV}, okCs w P R S ea cs → (∀ b ∈ blkCs cs, w'.heap[b]? = w.heap[b]?) → (∀ r ∈ refsCs cs, rootCells S' r = rootCells S r ∧ rootAd S' ea r = rootAd S ea r) → okCs w' P R S' ea cs
  | [], _, _, _ => by simp [okCs]
  | c :: cs, h, hb, hr => by
    simp only [okCs, blkCs, refsCs] at h hb hr ⊢
    exact ⟨okC_same hP hR h.1 (fun b h => hb b (List.mem_append_left _ h)) (fun r h => hr r (List.mem_append_left _ h)),
      okCs_same hP hR h.2 (fun b h => hb b (List.mem_append_right _ h)) (fun r h => hr r (List.mem_append_right _ h))⟩
end

mutual
theorem okX_same {w w' : World} {P : Nat → Nat → Prop} {R : Nat → Prop} {S S' : SV} {ea : List EA} (hP : ∀ t b, P t b → w'.heap[b]? = w.heap[b]?) (hR : ∀ b, R b → w'.heap[b]? = w.heap[b]?) :
    ∀ {x : XV}, okX w P R S ea x → (∀ b ∈ blkX x, w'.heap[b]? = w.heap[b]?) → (∀ r ∈ refsX x, rootCells S' r = rootCells S r ∧ rootAd S' ea r = rootAd S ea r) → okX w' P R S' ea x
  | .c x, h, hb, hr => by simp only [okX, blkX, refsX] at h hb hr ⊢; exact okC_same hP hR h hb hr
  | .agg cs, h, hb, hr => by simp only [okX, blkX, refsX] at h hb hr ⊢; exact okCs_same hP hR h hb hr
  | .box a cs, h, hb, hr => by
    simp only [okX, blkX, refsX] at h hb hr ⊢
    obtain ⟨h1, ad, rfl, h2, h3, cur, e, h4, h5⟩ := h
    exact ⟨okCs_same hP hR h1 (fun b h => hb b (List.mem_append_right _ h)) hr, ad, rfl, h2, h3, cur, e, (hb _ (by simp [hdr])).trans h4, h5⟩
  | .tup xs, h, hb, hr => by simp only [okX, blkX, refsX] at h hb hr ⊢; exact okXs_same hP hR h hb hr
  | .undef, _, _, _ => by simp [okX]
theorem okXs_same {w w' : World} {P : Nat → Nat → Prop} {R : Nat → Prop} {S S' : SV} {ea : List EA} (hP : ∀ t b, P t b → w'.heap[b]? = w.heap[b]?) (hR : ∀ b, R b → w'.heap[b]? = w.heap[b]?) :
    ∀ {xs : List XV}, okXs w P R S ea xs → (∀ b ∈ blkXs xs, w'.heap[b]? = w.heap[b]?) → (∀ r ∈ refsXs xs, rootCells S' r = rootCells S r ∧ rootAd S' ea r = rootAd S ea r) → okXs w' P R S' ea xs
  | [], _, _, _ => by simp [okXs]
  | x :: xs, h, hb, hr => by
    simp only [okXs, blkXs, refsXs] at h hb hr ⊢
    exact ⟨okX_same hP hR h.1 (fun b h => hb b (List.mem_append_left _ h)) (fun r h => hr r (List.mem_append_left _ h)),
      okXs_same hP hR h.2 (fun b h => hb b (List.mem_append_right _ h)) (fun r h => hr r (List.mem_append_right _ h))⟩
end

def blkR (S : SV) (ea : List EA) : Root → List Nat
  | .sl d => blkX (S.s d)
  | .ex j => (match (ea[j]?).bind EA.ad with | some ad => [ad.block] | none => []) ++ (match S.e[j]? with | some cs => blkCs cs | none => [])

structure Frm (E : Nat → Prop) (w w' : World) : Prop where
  os : w'.os = w.os
  tape : w'.tape = w.tape
  output : w'.output = w.output
  size : w.heap.size ≤ w'.heap.size
  block : ∀ k, k < w.heap.size → ¬ E k → w'.heap[k]? = w.heap[k]?

theorem Frm.refl (E : Nat → Prop) (w : World) : Frm E w w := ⟨rfl, rfl, rfl, Nat.le_refl _, fun _ _ _ => rfl⟩
theorem Frm.trans {E : Nat → Prop} {a b c : World} (h : Frm E a b) (k : Frm (fun x => E x ∨ a.heap.size ≤ x) b c) : Frm E a c :=
  ⟨k.os.trans h.os, k.tape.trans h.tape, k.output.trans h.output, Nat.le_trans h.size k.size, fun i hi hE =>
    (k.block i (Nat.lt_of_lt_of_le hi h.size) (fun h' => h'.elim hE (fun h' => by omega))).trans (h.block i hi hE)⟩
theorem Frm.mono {E E' : Nat → Prop} {a b : World} (h : Frm E a b) (hE : ∀ k, E k → E' k) : Frm E' a b :=
  ⟨h.os, h.tape, h.output, h.size, fun k hk hn => h.block k hk (fun h' => hn (hE k h'))⟩

structure Rel (isv : Nat → Bool) (w0 : World) (E0 : Nat → Prop) (P : Nat → Nat → Prop) (R : Nat → Prop) (ea : List EA) (w : World) (S : SV) (tmps : Array Value) : Prop where
  val : ∀ d, d < tmps.size → S.s d = .undef ∨ tmps[d]? = some (valX (S.s d))
  hi : ∀ d, tmps.size ≤ d → S.s d = .undef
  okS : ∀ d, okX w P R S ea (S.s d)
  okE : ∀ (j : Nat) cs, S.e[j]? = some cs → okCs w P R S ea cs ∧ ∀ ad, (ea[j]?).bind EA.ad = some ad → BoxAt w ad cs
  eaL : ea.length = S.e.length
  row : ∀ (j : Nat) vs cs, ea[j]? = some (.row vs) → S.e[j]? = some cs → valCs cs = vs
  refS : ∀ d d', Root.sl d' ∈ refsX (S.s d) → isv d' = true
  refE : ∀ (j : Nat) cs d', S.e[j]? = some cs → Root.sl d' ∈ refsCs cs → isv d' = true
  dis : ∀ r r' b, b ∈ blkR S ea r → b ∈ blkR S ea r' → r = r'
  nd : ∀ r, (blkR S ea r).Nodup
  lt : ∀ r b, b ∈ blkR S ea r → b < w.heap.size
  own : ∀ r b, b ∈ blkR S ea r → E0 b ∨ w0.heap.size ≤ b
  notR : ∀ r b, b ∈ blkR S ea r → ¬ R b
  PR : ∀ t b, P t b → R b
  ltR : ∀ b, R b → b < w.heap.size
  frm : Frm E0 w0 w

end Go.Proofs.YtlkjnlfddadlmaaDoor.V

namespace Go.Proofs.YtlkjnlfddadlmaaDoor.V
open Go.RowKit

section
variable {isv : Nat → Bool} {w0 : World} {E0 : Nat → Prop} {P : Nat → Nat → Prop} {R : Nat → Prop} {ea : List EA} {w w' : World} {S S' : SV} {tmps : Array Value}

structure Grow (w w' : World) : Prop where
  os : w'.os = w.os
  tape : w'.tape = w.tape
  output : w'.output = w.output
  size : w.heap.size ≤ w'.heap.size
  block : ∀ k, k < w.heap.size → w'.heap[k]? = w.heap[k]?

theorem Grow.refl (w : World) : Grow w w := ⟨rfl, rfl, rfl, Nat.le_refl _, fun _ _ => rfl⟩
theorem Grow.trans {a b c : World} (h : Grow a b) (k : Grow b c) : Grow a c :=
  ⟨k.os.trans h.os, k.tape.trans h.tape, k.output.trans h.output, Nat.le_trans h.size k.size, fun i hi => (k.block i (Nat.lt_of_lt_of_le hi h.size)).trans (h.block i hi)⟩
theorem Grow.alloc (w : World) (o : Obj) : Grow w (w.alloc o) := ⟨rfl, rfl, rfl, by simp, fun k hk => Below.heap_alloc w o k hk⟩
theorem Grow.drew (w : World) : Grow w w.drew := ⟨rfl, rfl, rfl, Nat.le_refl _, fun _ _ => rfl⟩
theorem Grow.frm {E : Nat → Prop} {a : World} (h : Grow w w') (k : Frm E a w) : Frm E a w' :=
  ⟨h.os.trans k.os, h.tape.trans k.tape, h.output.trans k.output, Nat.le_trans k.size h.size, fun i hi hE => (h.block i (Nat.lt_of_lt_of_le hi k.size)).trans (k.block i hi hE)⟩

theorem Rel.ltP (h : Rel isv w0 E0 P R ea w S tmps) : ∀ t b, P t b → b < w.heap.size := fun t b hb => h.ltR b (h.PR t b hb)

theorem blk_ex {j : Nat} {cs : List CV} (h : S.e[j]? = some cs) {b : Nat} (hb : b ∈ blkCs cs) : b ∈ blkR S ea (.ex j) := by
  simp only [blkR, h]; exact List.mem_append_right _ hb
theorem blk_ea {j : Nat} {ad : Addr} (h : (ea[j]?).bind EA.ad = some ad) : ad.block ∈ blkR S ea (.ex j) := by
  simp [blkR, h]

theorem BoxAt.same {ad : Addr} {cs : List CV} (h : BoxAt w ad cs) (hb : w'.heap[ad.block]? = w.heap[ad.block]?) : BoxAt w' ad cs := by
  obtain ⟨h1, h2, cur, e, h3, h4⟩ := h
  exact ⟨h1, h2, cur, e, hb.trans h3, h4⟩

theorem Rel.grow (h : Rel isv w0 E0 P R ea w S tmps) (hg : Grow w w') : Rel isv w0 E0 P R ea w' S tmps where
  val := h.val
  hi := h.hi
  okS d := okX_same (fun _ b hb => hg.block b (h.ltP _ b hb)) (fun b hb => hg.block b (h.ltR b hb)) (h.okS d) (fun b hb => hg.block b (h.lt (.sl d) b hb)) (fun _ _ => ⟨rfl, rfl⟩)
  okE j cs hj := ⟨okCs_same (fun _ b hb => hg.block b (h.ltP _ b hb)) (fun b hb => hg.block b (h.ltR b hb)) (h.okE j cs hj).1 (fun b hb => hg.block b (h.lt (.ex j) b (blk_ex hj hb))) (fun _ _ => ⟨rfl, rfl⟩),
    fun ad had => ((h.okE j cs hj).2 ad had).same (hg.block _ (h.lt (.ex j) _ (blk_ea had)))⟩
  eaL := h.eaL
  row := h.row
  refS := h.refS
  refE := h.refE
  dis := h.dis
  nd := h.nd
  lt r b hb := Nat.lt_of_lt_of_le (h.lt r b hb) hg.size
  own := h.own
  notR := h.notR
  PR := h.PR
  ltR b hb := Nat.lt_of_lt_of_le (h.ltR b hb) hg.size
  frm := hg.frm h.frm

theorem at_some {r : Root} {p : List Nat} {i : Nat} {c : CV} (h : at_ S r p i = some c) : ∃ cs, rootCells S r = some cs := by
  cases hr : rootCells S r with
  | some cs => exact ⟨cs, rfl⟩
  | none => simp [at_, hr] at h

theorem ad_root {r : Root} {ad : Addr} (he : ea.length = S.e.length) (h : rootAd S ea r = some ad) : ∃ cs, rootCells S r = some cs := by
  cases r with
  | sl d =>
    simp only [rootAd] at h
    simp only [rootCells]
    split at h
    · rename_i heq; simp [heq]
    · cases h
  | ex j =>
    simp only [rootAd] at h
    simp only [rootCells]
    cases hj : ea[j]? with
    | none => simp [hj] at h
    | some o =>
      have hlt : j < ea.length := (List.getElem?_eq_some_iff.1 hj).1
      exact ⟨_, List.getElem?_eq_getElem (by omega)⟩

theorem ptr_root {r : Root} {p : List Nat} {off : Nat} {a : Value} (he : ea.length = S.e.length) (h : PtrOk S ea r p off a) : ∃ cs, rootCells S r = some cs := by
  obtain ⟨ad, h, _⟩ := h
  simp only [placeAd] at h
  split at h
  · exact ad_root he h
  · split at h
    · rename_i heq
      simp only [hdrAt] at heq
      split at heq
      · rename_i h2; exact at_some h2
      · cases heq
    · cases h

mutual
theorem okC_root (he : ea.length = S.e.length) : ∀ {c : CV}, okC w P R S ea c → ∀ r ∈ refsC c, ∃ cs, rootCells S r = some cs
  | .t x, _, r, hr => by simp [refsC] at hr
  | .ptr a r' p off, h, r, hr => by
    simp only [refsC, List.mem_singleton] at hr
    subst hr
    exact ptr_root he (by simpa [okC] using h)
  | .bor a r' p i off sz n, h, r, hr => by
    simp only [refsC, List.mem_singleton] at hr
    subst hr
    simp only [okC, BorOk] at h
    obtain ⟨b, m, ds, h1, _⟩ := h
    exact at_some h1
  | .rptr a cs, _, r, hr => by simp [refsC] at hr
  | .fn f caps, h, r, hr => by
    simp only [refsC, okC] at hr h
    exact okCs_root he h.1 r hr
  | .lst a sz n cs, h, r, hr => by
    simp only [refsC, okC] at hr h
    exact okCs_root he h.2.1 r hr
  | .nilp, _, r, hr => by simp [refsC] at hr
  | .nilf, _, r, hr => by simp [refsC] at hr
theorem okCs_root (he : ea.length = S.e.length) : ∀ {cs : List CV}, okCs w P R S ea cs → ∀ r ∈ refsCs cs, ∃ ds, rootCells S r = some ds
  | [], _, r, hr => by simp [refsCs] at hr
  | c :: cs, h, r, hr => by
    simp only [refsCs, List.mem_append, okCs] at hr h
    exact hr.elim (okC_root he h.1 r) (okCs_root he h.2 r)
end

mutual
theorem okX_root (he : ea.length = S.e.length) : ∀ {x : XV}, okX w P R S ea x → ∀ r ∈ refsX x, ∃ cs, rootCells S r = some cs
  | .c x, h, r, hr => by simp only [okX, refsX] at h hr; exact okC_root he h r hr
  | .agg cs, h, r, hr => by simp only [okX, refsX] at h hr; exact okCs_root he h r hr
  | .box a cs, h, r, hr => by simp only [okX, refsX] at h hr; exact okCs_root he h.1 r hr
  | .tup xs, h, r, hr => by simp only [okX, refsX] at h hr; exact okXs_root he h r hr
  | .undef, _, r, hr => by simp [refsX] at hr
theorem okXs_root (he : ea.length = S.e.length) : ∀ {xs : List XV}, okXs w P R S ea xs → ∀ r ∈ refsXs xs, ∃ cs, rootCells S r = some cs
  | [], _, r, hr => by simp [refsXs] at hr
  | x :: xs, h, r, hr => by
    simp only [refsXs, List.mem_append, okXs] at hr h
    exact hr.elim (okX_root he h.1 r) (okXs_root he h.2 r)
end

structure NoMen (S : SV) (d : Nat) : Prop where
  s : ∀ i, Root.sl d ∉ refsX (S.s i)
  e : ∀ (j : Nat) cs, S.e[j]? = some cs → Root.sl d ∉ refsCs cs

theorem Rel.noMen (h : Rel isv w0 E0 P R ea w S tmps) {d : Nat} (hd : isv d = true → S.s d = .undef) : NoMen S d := by
  by_cases hv : isv d = true
  · have hu := hd hv
    have hn : ∀ cs, rootCells S (.sl d) ≠ some cs := fun cs => by simp [rootCells, hu]
    refine ⟨fun i hi => ?_, fun j cs hj hi => ?_⟩
    · obtain ⟨cs, hc⟩ := okX_root h.eaL (h.okS i) _ hi; exact hn cs hc
    · obtain ⟨cs, hc⟩ := okCs_root h.eaL (h.okE j cs hj).1 _ hi; exact hn cs hc
  · exact ⟨fun i hi => hv (h.refS i d hi), fun j cs hj hi => hv (h.refE j cs d hj hi)⟩

theorem roots_upd {r : Root} {d : Nat} {x : XV} (h : r ≠ .sl d) : rootCells { S with s := upd S.s d x } r = rootCells S r ∧ rootAd { S with s := upd S.s d x } ea r = rootAd S ea r := by
  cases r with
  | sl d' =>
    have : d' ≠ d := fun e => h (e ▸ rfl)
    simp [rootCells, rootAd, upd, this]
  | ex j => simp [rootCells, rootAd]

structure New (isv : Nat → Bool) (w0 : World) (E0 : Nat → Prop) (P : Nat → Nat → Prop) (R : Nat → Prop) (ea : List EA) (w : World) (S : SV) (x : XV) : Prop where
  ok : okX w P R S ea x
  refs : ∀ d', Root.sl d' ∈ refsX x → isv d' = true
  nd : (blkX x).Nodup
  sep : ∀ r b, b ∈ blkX x → b ∉ blkR S ea r
  lt : ∀ b ∈ blkX x, b < w.heap.size
  own : ∀ b ∈ blkX x, E0 b ∨ w0.heap.size ≤ b
  notR : ∀ b ∈ blkX x, ¬ R b

theorem blkR_upd {r : Root} {d : Nat} {x : XV} (h : r ≠ .sl d) : blkR { S with s := upd S.s d x } ea r = blkR S ea r := by
  cases r with
  | sl d' =>
    have : d' ≠ d := fun e => h (e ▸ rfl)
    simp [blkR, upd, this]
  | ex j => simp [blkR]

theorem Rel.put (h : Rel isv w0 E0 P R ea w S tmps) {d : Nat} {x : XV} (hx : New isv w0 E0 P R ea w S x) (hd : isv d = true → S.s d = .undef) (hlt : d < tmps.size) :
    Rel isv w0 E0 P R ea w { S with s := upd S.s d x } (tmps.setIfInBounds d (valX x)) := by
  have hn := h.noMen hd
  have hxn : Root.sl d ∉ refsX x := by
    intro hi
    have hv := hx.refs d hi
    obtain ⟨cs, hc⟩ := okX_root h.eaL hx.ok _ hi
    simp [rootCells, hd hv] at hc
  have hroot : ∀ r, r ≠ Root.sl d → rootCells { S with s := upd S.s d x } r = rootCells S r ∧ rootAd { S with s := upd S.s d x } ea r = rootAd S ea r := fun r hr => roots_upd hr
  constructor
  case val =>
    intro i hi
    by_cases e : i = d
    · subst e; right; simp [upd, hlt]
    · simp only [upd, if_neg e, Array.getElem?_setIfInBounds_ne (Ne.symm e)]
      exact h.val i (by simpa using hi)
  case hi =>
    intro i hi
    have : i ≠ d := by simp at hi; omega
    simp only [upd, if_neg this]
    exact h.hi i (by simpa using hi)
  case okS =>
    intro i
    by_cases e : i = d
    · subst e
      simp only [upd, if_true]
      exact okX_same (fun _ _ _ => rfl) (fun _ _ => rfl) hx.ok (fun _ _ => rfl) (fun r hr => hroot r (fun e => hxn (e ▸ hr)))
    · simp only [upd, if_neg e]
      exact okX_same (fun _ _ _ => rfl) (fun _ _ => rfl) (h.okS i) (fun _ _ => rfl) (fun r hr => hroot r (fun e => hn.s i (e ▸ hr)))
  case okE =>
    intro j cs hj
    exact ⟨okCs_same (fun _ _ _ => rfl) (fun _ _ => rfl) (h.okE j cs hj).1 (fun _ _ => rfl) (fun r hr => hroot r (fun e => hn.e j cs hj (e ▸ hr))), (h.okE j cs hj).2⟩
  case eaL => exact h.eaL
  case row => exact h.row
  case refS =>
    intro i d' hi
    by_cases e : i = d
    · subst e; simp only [upd, if_true] at hi; exact hx.refs d' hi
    · simp only [upd, if_neg e] at hi; exact h.refS i d' hi
  case refE => exact h.refE
  case dis =>
    intro r r' b hb hb'
    by_cases e : r = .sl d
    · by_cases e' : r' = .sl d
      · rw [e, e']
      · rw [blkR_upd e'] at hb'
        subst e
        simp only [blkR, upd, if_true] at hb
        exact absurd hb' (hx.sep r' b hb)
    · rw [blkR_upd e] at hb
      by_cases e' : r' = .sl d
      · subst e'
        simp only [blkR, upd, if_true] at hb'
        exact absurd hb (hx.sep r b hb')
      · rw [blkR_upd e'] at hb'
        exact h.dis r r' b hb hb'
  case nd =>
    intro r
    by_cases e : r = .sl d
    · subst e; simp only [blkR, upd, if_true]; exact hx.nd
    · rw [blkR_upd e]; exact h.nd r
  case lt =>
    intro r b hb
    by_cases e : r = .sl d
    · subst e; simp only [blkR, upd, if_true] at hb; exact hx.lt b hb
    · rw [blkR_upd e] at hb; exact h.lt r b hb
  case own =>
    intro r b hb
    by_cases e : r = .sl d
    · subst e; simp only [blkR, upd, if_true] at hb; exact hx.own b hb
    · rw [blkR_upd e] at hb; exact h.own r b hb
  case notR =>
    intro r b hb
    by_cases e : r = .sl d
    · subst e; simp only [blkR, upd, if_true] at hb; exact hx.notR b hb
    · rw [blkR_upd e] at hb; exact h.notR r b hb
  case PR => exact h.PR
  case ltR => exact h.ltR
  case frm => exact h.frm

theorem Rel.clear (h : Rel isv w0 E0 P R ea w S tmps) {d : Nat} (hn : NoMen S d) : Rel isv w0 E0 P R ea w { S with s := upd S.s d .undef } tmps := by
  have hroot : ∀ r, r ≠ Root.sl d → rootCells { S with s := upd S.s d .undef } r = rootCells S r ∧ rootAd { S with s := upd S.s d .undef } ea r = rootAd S ea r := fun r hr => roots_upd hr
  have hsub : ∀ r b, b ∈ blkR { S with s := upd S.s d .undef } ea r → b ∈ blkR S ea r := by
    intro r b hb
    by_cases e : r = .sl d
    · subst e; simp [blkR, upd, blkX] at hb
    · rwa [blkR_upd e] at hb
  constructor
  case val =>
    intro i hi
    by_cases e : i = d
    · subst e; left; simp [upd]
    · simp only [upd, if_neg e]; exact h.val i hi
  case hi =>
    intro i hi
    by_cases e : i = d
    · subst e; simp [upd]
    · simp only [upd, if_neg e]; exact h.hi i hi
  case okS =>
    intro i
    by_cases e : i = d
    · subst e; simp [upd, okX]
    · simp only [upd, if_neg e]
      exact okX_same (fun _ _ _ => rfl) (fun _ _ => rfl) (h.okS i) (fun _ _ => rfl) (fun r hr => hroot r (fun e => hn.s i (e ▸ hr)))
  case okE =>
    intro j cs hj
    exact ⟨okCs_same (fun _ _ _ => rfl) (fun _ _ => rfl) (h.okE j cs hj).1 (fun _ _ => rfl) (fun r hr => hroot r (fun e => hn.e j cs hj (e ▸ hr))), (h.okE j cs hj).2⟩
  case eaL => exact h.eaL
  case row => exact h.row
  case refS =>
    intro i d' hi
    by_cases e : i = d
    · subst e; simp [upd, refsX] at hi
    · simp only [upd, if_neg e] at hi; exact h.refS i d' hi
  case refE => exact h.refE
  case dis => exact fun r r' b hb hb' => h.dis r r' b (hsub r b hb) (hsub r' b hb')
  case nd =>
    intro r
    by_cases e : r = .sl d
    · subst e; simp [blkR, upd, blkX]
    · rw [blkR_upd e]; exact h.nd r
  case lt => exact fun r b hb => h.lt r b (hsub r b hb)
  case own => exact fun r b hb => h.own r b (hsub r b hb)
  case notR => exact fun r b hb => h.notR r b (hsub r b hb)
  case PR => exact h.PR
  case ltR => exact h.ltR
  case frm => exact h.frm
end
end Go.Proofs.YtlkjnlfddadlmaaDoor.V

namespace Go.Proofs.YtlkjnlfddadlmaaDoor.V
open Go.RowKit

def isAggV : Value → Bool
  | .agg _ => true
  | _ => false

def isAggD : TypeDesc → Bool
  | .struct _ => true
  | .array _ _ => true
  | _ => false

def fsIs (d : TypeDesc) (l : List (Nat × Nat)) : Bool :=
  match d with
  | .struct fs => fs.toList.map (fun f => (f.offset, f.type)) == l
  | _ => l == []

def elIs (d : TypeDesc) (o : Option Nat) : Bool :=
  match d with
  | .slice e => o == some e
  | _ => o == none

def kindIs (P : Program) (d : TypeDesc) : Nat → Bool
  | 1 => (match d with | .int .i64 => true | _ => false)
  | 2 => (match d with | .int .u8 => true | _ => false)
  | 3 => (match d with | .string => true | _ => false)
  | 4 => (match d with | .slice e => (match P.underlying e with | some (.int .u8) => true | _ => false) | _ => false)
  | 5 => (match d with | .bool => true | _ => false)
  | 6 => (match d with | .pointer _ => true | _ => false)
  | 7 => (match d with | .interface _ => true | _ => false)
  | _ => true

def tyCk (P : Program) (ty : Nat → Ty) (t : Nat) : Bool :=
  match P.info? t, P.underlying t with
  | some i, some d =>
    ((ty t).zs.length == (ty t).sz && i.size == (ty t).sz) && i.bytes == (ty t).bytes && (isAggD d == (ty t).agg) &&
    (match i.zero with
     | some z => zerosAre (ty t).zs z.cells.toList && (isAggV z == (ty t).agg)
     | none => false) &&
    fsIs d (ty t).fs && elIs d (ty t).el && kindIs P d (ty t).kind
  | _, _ => false

def TyOk (P : Program) (ty : Nat → Ty) : Prop := ∀ t, (ty t).ok = true → tyCk P ty t = true

def zG : CU → CV
  | .t (.int k n) => .t (.int k n)
  | .t (.bool b) => .t (.bool b)
  | .t (.str s) => .t (.str s)
  | .t (.sl _ tag sz n _) => .t (.sl (.slice none 0 0) tag sz n [])
  | .t .nili => .t .nili
  | .nilp => .nilp
  | .nilf => .nilf
  | _ => .nilp

theorem zeroIs_val {c : CU} {v : Value} (h : zeroIs c v = true) : valC (zG c) = v ∧ erC (zG c) = c ∧ blkC (zG c) = [] ∧ refsC (zG c) = [] ∧ ∀ (w : World) (P : Nat → Nat → Prop) (R : Nat → Prop) (S : SV) (ea : List EA), okC w P R S ea (zG c) := by
  unfold zeroIs at h
  split at h
  · simp only [Bool.and_eq_true, decide_eq_true_eq] at h
    obtain ⟨rfl, rfl⟩ := h
    simp [zG, valC, valT, erC, mapC, mapT, blkC, blkT, refsC, okC, okT]
  · simp only [beq_iff_eq] at h
    subst h
    simp [zG, valC, valT, erC, mapC, mapT, blkC, blkT, refsC, okC, okT]
  · rename_i s
    simp only [beq_iff_eq] at h
    obtain ⟨d⟩ := s
    simp only at h
    subst h
    simp [zG, valC, valT, erC, mapC, mapT, blkC, blkT, refsC, okC, okT]
  · simp [zG, valC, valT, erC, mapC, mapT, mapTs, blkC, blkT, blkTs, refsC, okC, okT, okTs, hdr, OwnAt, er0]
  · simp [zG, valC, valT, erC, mapC, mapT, blkC, blkT, refsC, okC, okT]
  · simp [zG, valC, erC, mapC, blkC, refsC, okC]
  · simp [zG, valC, erC, mapC, blkC, refsC, okC]
  · cases h

theorem zerosAre_val : ∀ {cs : List CU} {vs : List Value}, zerosAre cs vs = true → (cs.map zG).map valC = vs ∧ (cs.map zG).map erC = cs ∧ blkCs (cs.map zG) = [] ∧ refsCs (cs.map zG) = [] ∧
    ∀ (w : World) (P : Nat → Nat → Prop) (R : Nat → Prop) (S : SV) (ea : List EA), okCs w P R S ea (cs.map zG)
  | [], [], _ => by simp [blkCs, refsCs, okCs]
  | [], _ :: _, h => by simp [zerosAre] at h
  | _ :: _, [], h => by simp [zerosAre] at h
  | c :: cs, v :: vs, h => by
    simp only [zerosAre, Bool.and_eq_true] at h
    obtain ⟨h1, h2, h3, h4, h5⟩ := zeroIs_val h.1
    obtain ⟨i1, i2, i3, i4, i5⟩ := zerosAre_val h.2
    refine ⟨by simp [h1, i1], by simp [h2, i2], by simp [blkCs, h3, i3], by simp [refsCs, h4, i4], fun w P R S ea => ⟨h5 w P R S ea, i5 w P R S ea⟩⟩

theorem zerosAre_len : ∀ {cs : List CU} {vs : List Value}, zerosAre cs vs = true → cs.length = vs.length
  | [], [], _ => rfl
  | [], _ :: _, h => by simp [zerosAre] at h
  | _ :: _, [], h => by simp [zerosAre] at h
  | c :: cs, v :: vs, h => by simp only [zerosAre, Bool.and_eq_true] at h; simp [zerosAre_len h.2]

structure TyFacts (P : Program) (ty : Nat → Ty) (t : Nat) (i : TypeInfo) (d : TypeDesc) (z : Value) : Prop where
  info : P.info? t = some i
  und : P.underlying t = some d
  zlen : (ty t).zs.length = (ty t).sz
  size : i.size = (ty t).sz
  bytes : i.bytes = (ty t).bytes
  agg : isAggD d = (ty t).agg
  zero : i.zero = some z
  zs : zerosAre (ty t).zs z.cells.toList = true
  zagg : isAggV z = (ty t).agg
  fs : fsIs d (ty t).fs = true
  el : elIs d (ty t).el = true
  kind : kindIs P d (ty t).kind = true

theorem TyOk.facts {P : Program} {ty : Nat → Ty} (h : TyOk P ty) {t : Nat} (ht : (ty t).ok = true) : ∃ i d z, TyFacts P ty t i d z := by
  have hc := h t ht
  unfold tyCk at hc
  split at hc
  · rename_i i d hi hd
    simp only [Bool.and_eq_true, beq_iff_eq] at hc
    obtain ⟨⟨⟨⟨⟨⟨⟨h0, h1⟩, h2⟩, h3⟩, h4⟩, h5⟩, h6⟩, h7⟩ := hc
    cases hz : i.zero with
    | none => simp [hz] at h4
    | some z =>
      simp only [hz, Bool.and_eq_true, beq_iff_eq] at h4
      exact ⟨i, d, z, hi, hd, h0, h1, h2, h3, hz, h4.1, h4.2, h5, h6, h7⟩
  · cases hc

theorem TyFacts.slice {P : Program} {ty : Nat → Ty} {t : Nat} {i : TypeInfo} {d : TypeDesc} {z : Value} (h : TyFacts P ty t i d z) {e : Nat} (he : (ty t).el = some e) : d = .slice e := by
  have := h.el
  rw [he] at this
  cases d <;> simp [elIs] at this
  subst this
  rfl

theorem TyFacts.field {P : Program} {ty : Nat → Ty} {t : Nat} {i : TypeInfo} {d : TypeDesc} {z : Value} (h : TyFacts P ty t i d z) {k off ft : Nat} (he : (ty t).fs[k]? = some (off, ft)) :
    ∃ fs fd, d = .struct fs ∧ fs[k]? = some fd ∧ fd.offset = off ∧ fd.type = ft := by
  have := h.fs
  cases d with
  | struct fs =>
    simp only [fsIs, beq_iff_eq] at this
    rw [← this, List.getElem?_map] at he
    cases hf : fs.toList[k]? with
    | none => simp [hf] at he
    | some fd =>
      simp only [hf, Option.map_some, Option.some.injEq, Prod.mk.injEq] at he
      exact ⟨fs, fd, rfl, by simpa using hf, he.1, he.2⟩
  | _ => simp only [fsIs, beq_iff_eq] at this; rw [this] at he; simp at he

section
variable {cx : Ctx} {f : Nat} {w0 : World} {E0 : Nat → Prop} {P : Nat → Nat → Prop} {R : Nat → Prop} {ea : List EA} {w w' : World} {S : SV} {tmps : Array Value} {Pr : Program}

theorem clr_map (o : Operand) : erS (clr cx f S o) = clr cx f (erS S) o := by
  cases o with
  | tmp d =>
    simp only [clr]
    split
    · rfl
    · have h : hasOwn ((erS S).s d) = hasOwn (S.s d) := hasOwn_map er0 (S.s d)
      rw [h]
      split
      · simp only [erS, mapS, upd_map, mapX]
      · rfl
  | _ => rfl

theorem New.plain {x : XV} (hok : okX w P R S ea x) (hb : blkX x = []) (hr : refsX x = []) {isv : Nat → Bool} : New isv w0 E0 P R ea w S x :=
  ⟨hok, fun d' h => by rw [hr] at h; simp at h, by rw [hb]; exact List.nodup_nil, fun r b h => by rw [hb] at h; simp at h, fun b h => by rw [hb] at h; simp at h, fun b h => by rw [hb] at h; simp at h, fun b h => by rw [hb] at h; simp at h⟩

theorem isOwn_blk {c : CV} (hok : okC w P R S ea c) (h : isOwn c = false) : blkC c = [] := by
  cases c with
  | t x =>
    cases x with
    | sl a tag sz n cs =>
      cases tag with
      | zero => simp [isOwn] at h
      | succ m => simp [blkC, blkT]
    | _ => simp [blkC, blkT]
  | fn g caps => simp [blkC]
  | lst a sz n cs => simp [isOwn] at h
  | _ => simp [blkC]

theorem anyOwn_blk : ∀ {cs : List CV}, okCs w P R S ea cs → cs.any isOwn = false → blkCs cs = []
  | [], _, _ => by simp [blkCs]
  | c :: cs, h, ho => by
    simp only [List.any_cons, Bool.or_eq_false_iff] at ho
    simp only [blkCs, isOwn_blk h.1 ho.1, anyOwn_blk h.2 ho.2, List.append_nil]

mutual
theorem hasOwn_blk : ∀ {x : XV}, okX w P R S ea x → hasOwn x = false → blkX x = []
  | .c x, h, ho => by simp only [okX, hasOwn, blkX] at h ho ⊢; exact isOwn_blk h ho
  | .agg cs, h, ho => by simp only [okX, hasOwn, blkX] at h ho ⊢; exact anyOwn_blk h ho
  | .box a cs, h, ho => by simp [hasOwn] at ho
  | .tup xs, h, ho => by simp only [okX, hasOwn, blkX] at h ho ⊢; exact hasOwns_blk h ho
  | .undef, _, _ => by simp [blkX]
theorem hasOwns_blk : ∀ {xs : List XV}, okXs w P R S ea xs → xs.any ownX1 = false → blkXs xs = []
  | [], _, _ => by simp [blkXs]
  | x :: xs, h, ho => by
    simp only [List.any_cons, Bool.or_eq_false_iff] at ho
    simp only [blkXs]
    rw [hasOwns_blk h.2 ho.2, List.append_nil]
    refine hasOwn_blk h.1 ?_
    cases x <;> first | exact ho.1 | rfl | exact absurd ho.1 (by simp [ownX1])
end
end
end Go.Proofs.YtlkjnlfddadlmaaDoor.V

namespace Go.Proofs.YtlkjnlfddadlmaaDoor.V
open Go.RowKit

section
variable {cx : Ctx} {f : Nat} {w0 : World} {E0 : Nat → Prop} {P : Nat → Nat → Prop} {R : Nat → Prop} {ea : List EA} {w w' : World} {S : SV} {tmps : Array Value} {Pr : Program}

theorem bor_whole {r : Root} {p : List Nat} {i sz n : Nat} {a : Value} {cs : List TV} (hat : at_ S r p i = some (.t (.sl a 0 sz n cs))) (hok : okT w P R (.sl a 0 sz n cs)) : BorOk S r p i 0 sz n a := by
  simp only [okT, if_true] at hok
  obtain ⟨h1, _, h3⟩ := hok
  refine ⟨a, n, cs, hat, by omega, ?_⟩
  rcases h3 with ⟨rfl, hn⟩ | ⟨b, o, cur, e, ⟨ad, cap, rfl, hc, hs, hb, hr⟩, _, _⟩
  · exact .inl ⟨rfl, rfl, hn⟩
  · exact .inr ⟨ad, cap, rfl, ad, cap, rfl, hc, hs, rfl, .inr ⟨rfl, by omega⟩⟩

theorem oneCell_sl {a : Value} {tag sz n : Nat} {cs : List TV} (h : okT w P R (.sl a tag sz n cs)) : a.oneCell' = true := by
  simp only [okT] at h
  obtain ⟨_, _, h⟩ := h
  split at h
  · rcases h with ⟨rfl, _⟩ | ⟨b, o, cur, e, ⟨ad, cap, rfl, _⟩, _⟩ <;> rfl
  · obtain ⟨⟨A, cap, rfl, _⟩, _⟩ := h; rfl

theorem oneCell_own {a : Value} {sz n : Nat} {vs : List Value} (h : OwnAt w a sz n vs) : a.oneCell' = true := by
  rcases h with ⟨rfl, _⟩ | ⟨b, o, cur, e, ⟨ad, cap, rfl, _⟩, _⟩ <;> rfl

theorem slice_own {a : Value} {sz n : Nat} {vs : List Value} (h : OwnAt w a sz n vs) : ∃ A n c, a = .slice A n c := by
  rcases h with ⟨rfl, _⟩ | ⟨b, o, cur, e, ⟨ad, cap, rfl, _⟩, _⟩ <;> exact ⟨_, _, _, rfl⟩

theorem rdc_ok {r : Root} {p : List Nat} {i : Nat} {c : CV} (hat : at_ S r p i = some c) (hok : okC w P R S ea c) :
    okC w P R S ea (rdc r p i c) ∧ valC (rdc r p i c) = valC c ∧ blkC (rdc r p i c) = [] ∧ ∀ q ∈ refsC (rdc r p i c), q = r ∨ q ∈ refsC c := by
  cases c with
  | t x =>
    cases x with
    | sl a tag sz n cs =>
      cases tag with
      | zero =>
        refine ⟨?_, by simp [rdc, valC, valT], by simp [rdc, blkC], by simp [rdc, refsC]⟩
        simp only [rdc, okC] at hok ⊢
        exact bor_whole hat hok
      | succ m => exact ⟨by simpa [rdc] using hok, by simp [rdc], by simp [rdc, blkC, blkT], by simp [rdc, refsC]⟩
    | _ => exact ⟨by simpa [rdc] using hok, by simp [rdc], by simp [rdc, blkC, blkT], by simp [rdc, refsC]⟩
  | lst a sz n cs =>
    simp only [okC] at hok
    refine ⟨?_, by simp [rdc, valC, valT], by simp [rdc, blkC, blkT], by simp [rdc, refsC]⟩
    simp only [rdc, okC, okT]
    exact .inl (slice_own hok.2.2)
  | fn g caps => exact ⟨by simpa [rdc] using hok, by simp [rdc], by simp [rdc, blkC], fun q hq => .inr (by simpa [rdc] using hq)⟩
  | _ => exact ⟨by simpa [rdc] using hok, by simp [rdc], by simp [rdc, blkC], fun q hq => .inr (by simpa [rdc] using hq)⟩

theorem rdcs_ok {r : Root} : ∀ {cs : List CV} {i : Nat}, (∀ k c, cs[k]? = some c → at_ S r [] (i + k) = some c) → okCs w P R S ea cs →
    okCs w P R S ea (rdcs r i cs) ∧ valCs (rdcs r i cs) = valCs cs ∧ blkCs (rdcs r i cs) = [] ∧ ∀ q ∈ refsCs (rdcs r i cs), q = r ∨ q ∈ refsCs cs
  | [], i, _, _ => by simp [rdcs, okCs, valCs, blkCs, refsCs]
  | c :: cs, i, hat, hok => by
    obtain ⟨h1, h2, h3, h4⟩ := rdc_ok (hat 0 c (by simp)) hok.1
    simp only [Nat.add_zero] at h1 h2 h3 h4
    obtain ⟨i1, i2, i3, i4⟩ := rdcs_ok (cs := cs) (i := i + 1) (fun k c' hk => by have := hat (k + 1) c' (by simpa using hk); rwa [show i + (k + 1) = i + 1 + k by omega] at this) hok.2
    refine ⟨⟨h1, i1⟩, by simp [rdcs, valCs, h2, i2], by simp [rdcs, blkCs, h3, i3], ?_⟩
    intro q hq
    simp only [rdcs, refsCs, List.mem_append] at hq ⊢
    rcases hq with hq | hq
    · exact (h4 q hq).imp id .inl
    · exact (i4 q hq).imp id .inr

theorem rdcs_map {α β : Type} (g : α → β) (r : Root) : ∀ (cs : List (C α)) (i : Nat), rdcs r i (cs.map (mapC g)) = (rdcs r i cs).map (mapC g)
  | [], i => by simp [rdcs]
  | c :: cs, i => by simp [rdcs, rdc_map, rdcs_map g r cs (i + 1)]

theorem rdS_map {α β : Type} (g : α → β) (v : Bool) (t : Nat) (x : X α) : rdS v t (mapX g x) = (rdS v t x).map (mapX g) := by
  cases x with
  | c x => cases v <;> simp [rdS, mapX, rdc_map]
  | agg cs => cases v <;> simp [rdS, mapX, rdcs_map, mapCs_eq]
  | box a cs => cases v <;> simp [rdS, mapX, mapC]
  | tup xs => cases v <;> simp [rdS, mapX]
  | undef => simp [rdS, mapX]

theorem Rel.clr (h : Rel (isVar cx f) w0 E0 P R ea w S tmps) (o : Operand) : Rel (isVar cx f) w0 E0 P R ea w (clr cx f S o) tmps := by
  cases o with
  | tmp d =>
    simp only [V.clr]
    split
    · exact h
    · rename_i hv
      split
      · exact h.clear (h.noMen (fun h' => absurd h' hv))
      · exact h
  | _ => exact h

structure Opv (cx : Ctx) (f : Nat) (w0 : World) (E0 : Nat → Prop) (P : Nat → Nat → Prop) (R : Nat → Prop) (ea : List EA) (w : World) (S : SV) (a : Act) (o : Operand) (x : XU) (xG : XV) : Prop where
  er : erX xG = x
  val : a.eval o = valX xG
  ok : okX w P R S ea xG
  new : New (isVar cx f) w0 E0 P R ea w (clr cx f S o) xG
  src : ∀ b ∈ blkX xG, ∃ r, b ∈ blkR S ea r

theorem Rel.slot (h : Rel (isVar cx f) w0 E0 P R ea w S tmps) {d : Nat} (hu : S.s d ≠ .undef) : tmps[d]? = some (valX (S.s d)) := by
  have hlt : d < tmps.size := by
    rcases Nat.lt_or_ge d tmps.size with h' | h'
    · exact h'
    · exact absurd (h.hi d h') hu
  exact (h.val d hlt).resolve_left hu

theorem Rel.opTmp (h : Rel (isVar cx f) w0 E0 P R ea w S tmps) {a : Act} (ha : a.tmps = tmps) {d : Nat} {x : XU} (hx : rdS (isVar cx f d) d ((erS S).s d) = some x) :
    ∃ xG, Opv cx f w0 E0 P R ea w S a (.tmp d) x xG := by
  have hm : rdS (isVar cx f d) d ((erS S).s d) = (rdS (isVar cx f d) d (S.s d)).map erX := rdS_map er0 _ _ _
  rw [hm] at hx
  cases hr : rdS (isVar cx f d) d (S.s d) with
  | none => simp [hr] at hx
  | some xG =>
    simp only [hr, Option.map_some, Option.some.injEq] at hx
    have hu : S.s d ≠ .undef := by intro e; simp [e, rdS] at hr
    have hslot := h.slot hu
    have hval : a.eval (.tmp d) = valX (S.s d) := by simp [Act.eval, ha, hslot]
    have hd := h.okS d
    by_cases hv : isVar cx f d = true
    · -- a name's slot: what is owned is referred to
      have hclr : V.clr cx f S (.tmp d) = S := by simp [V.clr, hv]
      have key : okX w P R S ea xG ∧ valX xG = valX (S.s d) ∧ blkX xG = [] ∧ ∀ q ∈ refsX xG, q = Root.sl d ∨ q ∈ refsX (S.s d) := by
        rw [hv] at hr
        cases hs : S.s d with
        | undef => simp [hs, rdS] at hr
        | box b cs =>
          simp only [hs, rdS, if_true, Option.some.injEq] at hr
          subst hr
          rw [hs] at hd
          simp only [okX] at hd
          obtain ⟨_, ad, rfl, h1, h2, _⟩ := hd
          refine ⟨?_, by simp [valX, valC], by simp [blkX, blkC], by simp [refsX, refsC]⟩
          simp only [okX, okC, PtrOk, placeAd, if_true, rootAd, hs]
          refine ⟨ad, rfl, ?_⟩
          obtain ⟨b', o', s'⟩ := ad
          simp only at h1 h2
          subst h1; subst h2
          rfl
        | c c0 =>
          simp only [hs, rdS, if_true, Option.some.injEq] at hr
          subst hr
          rw [hs] at hd
          have hat : at_ S (.sl d) [] 0 = some c0 := by simp [at_, rootCells, hs, subC]
          obtain ⟨k1, k2, k3, k4⟩ := rdc_ok hat (by simpa [okX] using hd)
          exact ⟨by simpa [okX] using k1, by simpa [valX] using k2, by simpa [blkX] using k3, by simpa [refsX] using k4⟩
        | agg cs =>
          simp only [hs, rdS, if_true, Option.some.injEq] at hr
          subst hr
          rw [hs] at hd
          have hat : ∀ k c, cs[k]? = some c → at_ S (.sl d) [] (0 + k) = some c := fun k c hk => by simp [at_, rootCells, hs, subC, hk]
          obtain ⟨k1, k2, k3, k4⟩ := rdcs_ok hat (by simpa [okX] using hd)
          exact ⟨by simpa [okX] using k1, by simp [valX, k2], by simpa [blkX] using k3, by simpa [refsX] using k4⟩
        | tup xs => simp [hs, rdS] at hr
      obtain ⟨k1, k2, k3, k4⟩ := key
      refine ⟨xG, hx, by rw [hval, k2], k1, ?_, fun b hb => by rw [k3] at hb; simp at hb⟩
      rw [hclr]
      refine ⟨k1, ?_, by rw [k3]; exact List.nodup_nil, fun r b hb => by rw [k3] at hb; simp at hb, fun b hb => by rw [k3] at hb; simp at hb, fun b hb => by rw [k3] at hb; simp at hb, fun b hb => by rw [k3] at hb; simp at hb⟩
      intro d' hd'
      rcases k4 _ hd' with e | e
      · simp only [Root.sl.injEq] at e; rw [e]; exact hv
      · exact h.refS d d' e
    · -- a temporary: its content itself
      have hvf : isVar cx f d = false := by simpa using hv
      have hxs : xG = S.s d := by
        rw [hvf] at hr
        cases hs : S.s d <;> simp [hs, rdS] at hr ⊢ <;> exact hr.symm
      subst hxs
      refine ⟨S.s d, hx, hval, hd, ?_, fun b hb => ⟨.sl d, hb⟩⟩
      have hnm := h.noMen (d := d) (fun h' => absurd h' hv)
      by_cases ho : hasOwn (S.s d) = true
      · have hclr : V.clr cx f S (.tmp d) = { S with s := upd S.s d .undef } := by simp [V.clr, hvf, ho]
        rw [hclr]
        refine ⟨okX_same (fun _ _ _ => rfl) (fun _ _ => rfl) hd (fun _ _ => rfl) (fun r hr => roots_upd (fun e => hnm.s d (e ▸ hr))), fun d' hd' => h.refS d d' hd', h.nd (.sl d), ?_, h.lt (.sl d), h.own (.sl d), h.notR (.sl d)⟩
        intro r b hb hb'
        by_cases e : r = .sl d
        · subst e; simp [blkR, upd, blkX] at hb'
        · rw [blkR_upd e] at hb'
          exact e (h.dis _ _ b hb' hb)
      · have hof : hasOwn (S.s d) = false := by simpa using ho
        have hclr : V.clr cx f S (.tmp d) = S := by simp [V.clr, hvf, hof]
        rw [hclr]
        have hb := hasOwn_blk hd hof
        exact ⟨hd, fun d' hd' => h.refS d d' hd', by rw [hb]; exact List.nodup_nil, fun r b hb' => by rw [hb] at hb'; simp at hb', fun b hb' => by rw [hb] at hb'; simp at hb', fun b hb' => by rw [hb] at hb'; simp at hb', fun b hb' => by rw [hb] at hb'; simp at hb'⟩

theorem constX_ok (t : Nat) (v : Value) {x : XU} (hx : constX cx t v = some x) : ∃ xG, erX xG = x ∧ valX xG = v ∧ blkX xG = [] ∧ refsX xG = [] ∧ ∀ (w : World) (P : Nat → Nat → Prop) (R : Nat → Prop) (S : SV) (ea : List EA), okX w P R S ea xG := by
  unfold constX at hx
  split at hx <;> (try simp only [Option.some.injEq] at hx)
  · subst hx; rename_i k n; exact ⟨.c (.t (.int k n)), by simp [erX, mapX, mapC, mapT], rfl, by simp [blkX, blkC, blkT], by simp [refsX, refsC], by simp [okX, okC, okT]⟩
  · subst hx; rename_i b; exact ⟨.c (.t (.bool b)), by simp [erX, mapX, mapC, mapT], rfl, by simp [blkX, blkC, blkT], by simp [refsX, refsC], by simp [okX, okC, okT]⟩
  · subst hx; rename_i s; exact ⟨.c (.t (.str s.data.toList)), by simp [erX, mapX, mapC, mapT], by simp [valX, valC, valT], by simp [blkX, blkC, blkT], by simp [refsX, refsC], by simp [okX, okC, okT]⟩
  · split at hx
    · simp only [Option.some.injEq] at hx
      subst hx
      exact ⟨.c (.t (.sl (.slice none 0 0) 0 (elSz cx t) 0 [])), by simp [erX, mapX, mapC, mapT, mapTs, er0], rfl, by simp [blkX, blkC, blkT, blkTs, hdr], by simp [refsX, refsC], by simp [okX, okC, okT, okTs, OwnAt]⟩
    · cases hx
  · subst hx; exact ⟨.c (.t .nili), by simp [erX, mapX, mapC, mapT], rfl, by simp [blkX, blkC, blkT], by simp [refsX, refsC], by simp [okX, okC, okT]⟩
  · subst hx; exact ⟨.c .nilp, by simp [erX, mapX, mapC], rfl, by simp [blkX, blkC], by simp [refsX, refsC], by simp [okX, okC]⟩
  · subst hx; exact ⟨.c .nilf, by simp [erX, mapX, mapC], rfl, by simp [blkX, blkC], by simp [refsX, refsC], by simp [okX, okC]⟩
  · split at hx
    · next vs hc =>
      simp only [Option.some.injEq] at hx
      subst hx
      simp only [Bool.and_eq_true] at hc
      obtain ⟨h1, h2, h3, h4, h5⟩ := zerosAre_val hc.2
      refine ⟨.agg ((cx.ty t).zs.map zG), ?_, ?_, by simp only [blkX]; exact h3, by simp only [refsX]; exact h4, fun w P R S ea => by simp only [okX]; exact h5 w P R S ea⟩
      · simp only [erX, mapX, mapCs_eq]; exact congrArg _ h2
      · simp only [valX, valCs_eq, h1, Array.toArray_toList]
    · cases hx
  · cases hx

theorem Rel.opv (h : Rel (isVar cx f) w0 E0 P R ea w S tmps) {a : Act} (ha : a.tmps = tmps) {t : Nat} {o : Operand} {x : XU} (hx : opv cx f (erS S) t o = some x) :
    ∃ xG, Opv cx f w0 E0 P R ea w S a o x xG := by
  cases o with
  | tmp d => exact h.opTmp ha hx
  | const v =>
    obtain ⟨xG, h1, h2, h3, h4, h5⟩ := constX_ok t v hx
    exact ⟨xG, h1, by simp [Act.eval, h2], h5 _ _ _ _ _, New.plain (h5 _ _ _ _ _) h3 h4, fun b hb => by rw [h3] at hb; simp at hb⟩
  | func g =>
    simp only [V.opv, Option.some.injEq] at hx
    subst hx
    exact ⟨.c (.fn g []), by simp [erX, mapX, mapC, mapCs], by simp [Act.eval, valX, valC, valCs], by simp [okX, okC, okCs, blkCs],
      New.plain (by simp [okX, okC, okCs, blkCs]) (by simp [blkX, blkC]) (by simp [refsX, refsC, refsCs]), fun b hb => by simp [blkX, blkC] at hb⟩
  | global g => simp [V.opv] at hx
end
end Go.Proofs.YtlkjnlfddadlmaaDoor.V

namespace Go.Proofs.YtlkjnlfddadlmaaDoor.V
open Go.RowKit

section
variable {isv : Nat → Bool} {w0 : World} {E0 : Nat → Prop} {P : Nat → Nat → Prop} {R : Nat → Prop} {ea : List EA} {w w' : World} {S : SV} {tmps : Array Value} {α : Type}

theorem sub_snoc : ∀ (p : List Nat) (cs : List (T α)) (i : Nat), sub cs (p ++ [i]) = (sub cs p).bind fun ds => match ds[i]? with
    | some (.sl _ 0 _ _ es) => some es
    | _ => none
  | [], cs, i => by
    simp only [List.nil_append, sub, Option.bind_some]
    try (split <;> simp_all [sub])
  | k :: p, cs, i => by
    simp only [List.cons_append, sub]
    split
    · rename_i heq; exact sub_snoc p _ i
    · simp

theorem subC_snoc (p : List Nat) (cs : List (C α)) (i : Nat) : subC cs (p ++ [i]) = (subC cs p).bind fun ds => match ds[i]? with
    | some (.t (.sl _ 0 _ _ es)) => some (es.map .t)
    | _ => none := by
  cases p with
  | nil =>
    simp only [List.nil_append, subC, Option.bind_some]
    split <;> simp_all [sub]
  | cons k p =>
    simp only [List.cons_append, subC]
    split
    · rename_i ds heq
      rw [sub_snoc]
      cases hs : sub ds p with
      | none => simp
      | some es =>
        simp only [Option.bind_some, Option.map_some, List.getElem?_map]
        cases hi : es[i]? with
        | none => simp
        | some x =>
          cases x with
          | sl a tag sz n fs => cases tag <;> simp
          | _ => simp
    · simp

theorem at_snoc (S : St α) (r : Root) (p : List Nat) (i off : Nat) : at_ S r (p ++ [i]) off = match at_ S r p i with
    | some (.t (.sl _ 0 _ _ ds)) => (ds[off]?).map .t
    | _ => none := by
  simp only [at_]
  cases rootCells S r with
  | none => simp
  | some cs =>
    simp only [Option.bind_some, subC_snoc]
    cases subC cs p with
    | none => simp
    | some ds =>
      simp only [Option.bind_some]
      cases ds[i]? with
      | none => simp
      | some c =>
        cases c with
        | t x =>
          cases x with
          | sl a tag sz n fs => cases tag <;> simp
          | _ => simp
        | _ => simp

theorem sub_ok : ∀ {p : List Nat} {cs ds : List TV}, okTs w P R cs → sub cs p = some ds → okTs w P R ds
  | [], cs, ds, h, hs => by simp only [sub, Option.some.injEq] at hs; exact hs ▸ h
  | i :: p, cs, ds, h, hs => by
    simp only [sub] at hs
    split at hs
    · rename_i a sz n es heq
      have := okTs_iff.1 h _ (List.mem_of_getElem? heq)
      simp only [okT] at this
      exact sub_ok this.2.1 hs
    · cases hs

theorem subC_ok {p : List Nat} {cs ds : List CV} (h : okCs w P R S ea cs) (hs : subC cs p = some ds) : okCs w P R S ea ds := by
  cases p with
  | nil => simp only [subC, Option.some.injEq] at hs; exact hs ▸ h
  | cons i p =>
    simp only [subC] at hs
    split at hs
    · rename_i a sz n es heq
      have := okCs_iff.1 h _ (List.mem_of_getElem? heq)
      simp only [okC, okT] at this
      cases hf : sub es p with
      | none => simp [hf] at hs
      | some fs =>
        simp only [hf, Option.map_some, Option.some.injEq] at hs
        subst hs
        refine okCs_iff.2 ?_
        intro c hc
        obtain ⟨x, hx, rfl⟩ := List.mem_map.1 hc
        simp only [okC]
        exact okTs_iff.1 (sub_ok this.2.1 hf) x hx
    · cases hs

theorem flatX_ok : ∀ {xs : List XV}, okXs w P R S ea xs → okCs w P R S ea (flatX xs)
  | [], _ => by simp [flatX, okCs]
  | x :: xs, h => by
    have ih := flatX_ok h.2
    cases x with
    | c x => exact ⟨h.1, ih⟩
    | agg cs =>
      simp only [flatX]
      refine okCs_iff.2 ?_
      intro c hc
      rcases List.mem_append.1 hc with hc | hc
      · exact okCs_iff.1 h.1 c hc
      · exact okCs_iff.1 ih c hc
    | _ => simpa [flatX] using ih

theorem Rel.root_ok (h : Rel isv w0 E0 P R ea w S tmps) {r : Root} {cs : List CV} (hr : rootCells S r = some cs) : okCs w P R S ea cs := by
  cases r with
  | sl d =>
    simp only [rootCells] at hr
    have hd := h.okS d
    cases hs : S.s d with
    | undef => simp [hs] at hr
    | c x => simp only [hs, Option.some.injEq] at hr; subst hr; rw [hs] at hd; exact ⟨hd, trivial⟩
    | agg xs => simp only [hs, Option.some.injEq] at hr; subst hr; rw [hs] at hd; exact hd
    | box a xs => simp only [hs, Option.some.injEq] at hr; subst hr; rw [hs] at hd; exact hd.1
    | tup xs => simp only [hs, Option.some.injEq] at hr; subst hr; rw [hs] at hd; exact flatX_ok hd
  | ex j => exact (h.okE j cs hr).1

theorem Rel.at_ok (h : Rel isv w0 E0 P R ea w S tmps) {r : Root} {p : List Nat} {i : Nat} {c : CV} (ha : at_ S r p i = some c) : okC w P R S ea c := by
  simp only [at_] at ha
  cases hr : rootCells S r with
  | none => simp [hr] at ha
  | some cs =>
    simp only [hr, Option.bind_some] at ha
    cases hs : subC cs p with
    | none => simp [hs] at ha
    | some ds =>
      simp only [hs, Option.bind_some] at ha
      exact okCs_iff.1 (subC_ok (h.root_ok hr) hs) c (List.mem_of_getElem? ha)

theorem dropLast_snoc {p : List Nat} (hp : p ≠ []) : p = p.dropLast ++ [p.getLast?.getD 0] := by
  rw [List.getLast?_eq_some_getLast hp]
  simp only [Option.getD_some]
  exact (List.dropLast_concat_getLast hp).symm

theorem own_cell {a : Value} {sz n : Nat} {cs : List Value} {ad : Addr} {cap : Nat} (hl : cs.length = n * sz) (ho : OwnAt w a sz n cs) (ha : a = .slice (some ad) n cap) {j : Nat} {v : Value} (hj : cs[j]? = some v) :
    w.cell? ⟨ad.block, ad.off + j, none⟩ = some v ∧ w.frozen? ⟨ad.block, ad.off + j, none⟩ = false ∧ ∃ cur e, w.heap[ad.block]? = some (.cells cur e (0, 0)) ∧ ad.off + cap * sz ≤ cur.size := by
  subst ha
  rcases ho with ⟨h1, _⟩ | ⟨b, o, cur, e, ⟨ad', cap', h1, h2, h3, rfl, h4⟩, hh, hv⟩
  · cases h1
  · simp only [Value.slice.injEq, Option.some.injEq] at h1
    obtain ⟨rfl, _, rfl⟩ := h1
    have hpos : j < n * sz := by rw [← hl]; exact (List.getElem?_eq_some_iff.1 hj).1
    have hcap : cap ≠ 0 := by
      intro e0
      have : n = 0 := by omega
      subst this; simp at hpos
    obtain ⟨rfl, h5⟩ := h4.resolve_left hcap
    refine ⟨?_, ?_, cur, e, hh, h5⟩
    · simp only [World.cell?, hh, Option.isSome_none, Bool.false_eq_true, if_false]; exact hv j v hj
    · simp [World.frozen?, hh]

theorem box_cell {ad : Addr} {cs : List CV} (h : BoxAt w ad cs) {j : Nat} {c : CV} (hj : cs[j]? = some c) :
    w.cell? ⟨ad.block, ad.off + j, none⟩ = some (valC c) ∧ w.frozen? ⟨ad.block, ad.off + j, none⟩ = false := by
  obtain ⟨h1, h2, cur, e, h3, h4⟩ := h
  have hc : cur[j]? = some (valC c) := by
    rw [← Array.getElem?_toList, h4, valCs_eq, List.getElem?_map, hj]
    rfl
  constructor
  · simp only [World.cell?, h3, h1, Nat.zero_add, Option.isSome_none, Bool.false_eq_true, if_false, hc]
  · simp [World.frozen?, h3]

theorem Rel.box_at (h : Rel isv w0 E0 P R ea w S tmps) {r : Root} {ad : Addr} (hr : rootAd S ea r = some ad) : ∃ cs, rootCells S r = some cs ∧ BoxAt w ad cs := by
  cases r with
  | sl d =>
    simp only [rootAd] at hr
    split at hr
    · rename_i ad' cs heq
      simp only [Option.some.injEq] at hr
      subst hr
      have hd := h.okS d
      rw [heq] at hd
      simp only [okX] at hd
      obtain ⟨_, ad2, h2, h3⟩ := hd
      simp only [Value.pointer.injEq, Option.some.injEq] at h2
      subst h2
      exact ⟨cs, by simp [rootCells, heq], h3⟩
    · cases hr
  | ex j =>
    obtain ⟨cs, hcs⟩ := ad_root h.eaL hr
    exact ⟨cs, hcs, (h.okE j cs hcs).2 ad hr⟩

theorem Rel.cell_at (h : Rel isv w0 E0 P R ea w S tmps) {r : Root} {p : List Nat} {off : Nat} {ad : Addr} {c : CV} (hp : placeAd S ea r p = some ad) (hat : at_ S r p off = some c) :
    w.cell? ⟨ad.block, ad.off + off, none⟩ = some (valC c) ∧ w.frozen? ⟨ad.block, ad.off + off, none⟩ = false := by
  simp only [placeAd] at hp
  by_cases he : p = []
  · subst he
    simp only [if_true] at hp
    obtain ⟨cs, hcs, hb⟩ := h.box_at hp
    simp only [at_, hcs, Option.bind_some, subC] at hat
    exact box_cell hb hat
  · rw [if_neg he] at hp
    have hsn := dropLast_snoc he
    rw [hsn, at_snoc] at hat
    simp only [hdrAt] at hp
    generalize hq : at_ S r p.dropLast (p.getLast?.getD 0) = q at hat hp
    split at hat
    · rename_i a sz n ds
      have hok := h.at_ok hq
      simp only [okC, okT, if_true] at hok
      simp only at hp
      split at hp
      · rename_i ad' len cap heq
        simp only [Option.some.injEq] at hp heq
        subst hp; subst heq
        cases hj : ds[off]? with
        | none => simp [hj] at hat
        | some x =>
          simp only [hj, Option.map_some, Option.some.injEq] at hat
          subst hat
          have hlen : len = n := by
            rcases hok.2.2 with ⟨h1, _⟩ | ⟨b, o, cur, e, ⟨_, _, h1, _⟩, _⟩
            · cases h1
            · simp only [Value.slice.injEq] at h1; exact h1.2.1
          subst hlen
          have := own_cell (by simpa using hok.1) hok.2.2 rfl (j := off) (v := valT x) (by simp [hj])
          exact ⟨this.1, this.2.1⟩
      · cases hp
    · cases hat
end
end Go.Proofs.YtlkjnlfddadlmaaDoor.V

namespace Go.Proofs.YtlkjnlfddadlmaaDoor.V
open Go.RowKit

structure QRes (cx : Ctx) (f : Nat) (w0 : World) (E0 : Nat → Prop) (P : Nat → Nat → Prop) (R : Nat → Prop) (ea : List EA) (w : World) (tmps : Array Value) (x : XU) (Su : SU) (w' : World) (S' : SV) (xG : XV) : Prop where
  grow : Grow w w'
  er : erX xG = x
  erS : erS S' = Su
  rel : Rel (isVar cx f) w0 E0 P R ea w' S' tmps
  new : New (isVar cx f) w0 E0 P R ea w' S' xG

theorem er_c {xG : XV} {c : CU} (h : erX xG = .c c) : ∃ cG, xG = .c cG ∧ erC cG = c := by
  cases xG <;> simp [erX, mapX] at h
  exact ⟨_, rfl, h⟩
theorem er_agg {xG : XV} {cs : List CU} (h : erX xG = .agg cs) : ∃ cG, xG = .agg cG ∧ cG.map erC = cs := by
  cases xG <;> simp [erX, mapX, mapCs_eq] at h
  exact ⟨_, rfl, h⟩
theorem er_t {cG : CV} {x : TU} (h : erC cG = .t x) : ∃ y, cG = .t y ∧ erT y = x := by
  cases cG <;> simp [erC, mapC] at h
  exact ⟨_, rfl, h⟩
theorem er_int {y : TV} {k : IntKind} {n : Int} (h : erT y = .int k n) : y = .int k n := by
  cases y <;> simp [erT, mapT] at h
  obtain ⟨rfl, rfl⟩ := h; rfl
theorem er_bool {y : TV} {b : Bool} (h : erT y = .bool b) : y = .bool b := by
  cases y <;> simp [erT, mapT] at h
  subst h; rfl
theorem er_str {y : TV} {s : List UInt8} (h : erT y = .str s) : y = .str s := by
  cases y <;> simp [erT, mapT] at h
  subst h; rfl
theorem er_nili {y : TV} (h : erT y = .nili) : y = .nili := by
  cases y <;> simp [erT, mapT] at h
  rfl
theorem er_ifc {y : TV} {a : Unit} (h : erT y = .ifc a) : ∃ v, y = .ifc v := by
  cases y <;> simp [erT, mapT] at h
  exact ⟨_, rfl⟩
theorem er_sl {y : TV} {a : Unit} {tag sz n : Nat} {cs : List TU} (h : erT y = .sl a tag sz n cs) : ∃ v ds, y = .sl v tag sz n ds ∧ ds.map erT = cs := by
  cases y <;> simp [erT, mapT, mapTs_eq] at h
  obtain ⟨rfl, rfl, rfl, rfl⟩ := h
  exact ⟨_, _, rfl, rfl⟩
theorem er_nilp {cG : CV} (h : erC cG = .nilp) : cG = .nilp := by
  cases cG <;> simp [erC, mapC] at h
  rfl
theorem er_ptr {cG : CV} {a : Unit} {r : Root} {p : List Nat} {off : Nat} (h : erC cG = .ptr a r p off) : ∃ v, cG = .ptr v r p off := by
  cases cG <;> simp [erC, mapC] at h
  obtain ⟨rfl, rfl, rfl⟩ := h
  exact ⟨_, rfl⟩
theorem er_bor {cG : CV} {a : Unit} {r : Root} {p : List Nat} {i off sz n : Nat} (h : erC cG = .bor a r p i off sz n) : ∃ v, cG = .bor v r p i off sz n := by
  cases cG <;> simp [erC, mapC] at h
  obtain ⟨rfl, rfl, rfl, rfl, rfl, rfl⟩ := h
  exact ⟨_, rfl⟩
theorem er_rptr {cG : CV} {a : Unit} {cs : List TU} (h : erC cG = .rptr a cs) : ∃ v ds, cG = .rptr v ds ∧ ds.map erT = cs := by
  cases cG <;> simp [erC, mapC, mapTs_eq] at h
  exact ⟨_, _, rfl, h⟩
theorem er_fn {cG : CV} {g : Nat} {cs : List CU} (h : erC cG = .fn g cs) : ∃ ds, cG = .fn g ds ∧ ds.map erC = cs := by
  cases cG <;> simp [erC, mapC, mapCs_eq] at h
  obtain ⟨rfl, rfl⟩ := h
  exact ⟨_, rfl, rfl⟩
theorem er_lst {cG : CV} {a : Unit} {sz n : Nat} {cs : List CU} (h : erC cG = .lst a sz n cs) : ∃ v ds, cG = .lst v sz n ds ∧ ds.map erC = cs := by
  cases cG <;> simp [erC, mapC, mapCs_eq] at h
  obtain ⟨rfl, rfl, rfl⟩ := h
  exact ⟨_, _, rfl, rfl⟩

section
variable {cx : Ctx} {f : Nat} {w0 : World} {E0 : Nat → Prop} {P : Nat → Nat → Prop} {R : Nat → Prop} {ea : List EA} {w w' : World} {S : SV} {tmps : Array Value} {Pr : Program} {a : Act}

theorem wp_value {o : Oper} {v : Value} {K : Act → World → Prop} {Q : Exit → Act → World → Prop} (hr : (execOp a.eval o).run Pr w = .ok (.value v) w') (hk : K (a.put o.dst v) w') : o.wp Pr a w K Q := by
  simp only [Oper.wp, Oper.upon, hr]; exact hk

theorem wp_skip' {o : Oper} {K : Act → World → Prop} {Q : Exit → Act → World → Prop} (hr : (execOp a.eval o).run Pr w = .ok .skip w') (hk : K (a.put o.dst undef) w') : o.wp Pr a w K Q := by
  simp only [Oper.wp, Oper.upon, hr]; exact hk

theorem QRes.data (h : Rel (isVar cx f) w0 E0 P R ea w S tmps) {y : TV} (hok : okT w P R y) (hb : blkT y = []) : QRes cx f w0 E0 P R ea w tmps (.c (.t (erT y))) (V.erS S) w S (.c (.t y)) :=
  ⟨Grow.refl w, by simp [erX, mapX, mapC, erT], rfl, h, New.plain (by simpa [okX, okC] using hok) (by simpa [blkX, blkC] using hb) (by simp [refsX, refsC])⟩

def liftT : TU → TV
  | .int k n => .int k n
  | .bool b => .bool b
  | .str s => .str s
  | _ => .nili

def isScal : TU → Bool
  | .int _ _ => true
  | .bool _ => true
  | .str _ => true
  | _ => false

theorem lift_er {y : TU} (h : isScal y = true) : erT (liftT y) = y := by cases y <;> simp [isScal] at h <;> simp [liftT, erT, mapT]
theorem lift_ok (y : TU) : okT w P R (liftT y) := by cases y <;> simp [liftT, okT]
theorem lift_blk (y : TU) : blkT (liftT y) = [] := by cases y <;> simp [liftT, blkT]

theorem QRes.scal (h : Rel (isVar cx f) w0 E0 P R ea w S tmps) {y : TU} (hy : isScal y = true) : QRes cx f w0 E0 P R ea w tmps (.c (.t y)) (V.erS S) w S (.c (.t (liftT y))) := by
  have := QRes.data h (lift_ok (w := w) (P := P) (R := R) y) (lift_blk y)
  rwa [lift_er hy] at this

theorem intOp_scal {op : BinOp} {k : IntKind} {x y : Int} {z : TU} (h : intOp op k x y = some z) : isScal z = true := by
  cases op <;> simp only [intOp, bvOp] at h <;> (try split at h) <;> simp at h <;> subst h <;> rfl
theorem shOp_scal {op : BinOp} {k : IntKind} {x y : Int} {z : TU} (h : shOp op k x y = some z) : isScal z = true := by
  simp only [shOp] at h
  split at h
  · cases h
  · cases op <;> simp at h <;> subst h <;> rfl
theorem strOp_scal {op : BinOp} {x y : List UInt8} {z : TU} (h : strOp op x y = some z) : isScal z = true := by
  cases op <;> simp only [strOp] at h <;> (try split at h) <;> simp at h <;> subst h <;> rfl
theorem nilOp_scal {op : BinOp} {b : Bool} {z : TU} (h : nilOp op b = some z) : isScal z = true := by
  cases op <;> simp [nilOp] at h <;> subst h <;> rfl

theorem run_intOp (t : TypeId) (x y : Operand) {op : BinOp} {k : IntKind} {a b : Int} {z : TU} (h : intOp op k a b = some z) :
    (do eqGuard op t x y (.int k a) (.int k b); binOp op t (.int k a) (.int k b) : Sem Value).run Pr w = .ok (valT (liftT z)) w := by
  simp only [eqGuard_at_int]
  cases op <;> simp only [intOp, bvOp] at h <;> (try split at h) <;> simp only [Option.some.injEq, reduceCtorEq] at h <;>
    subst h <;> simp [binOp, Op.intArith, Op.intDiv, Op.intBits, Op.intCmp, liftT, valT, *]

theorem run_shOp (t : TypeId) (x y : Operand) {op : BinOp} (ho : op = .shl ∨ op = .shr) {k k' : IntKind} {a b : Int} {z : TU} (h : shOp op k a b = some z) :
    (do eqGuard op t x y (.int k a) (.int k' b); binOp op t (.int k a) (.int k' b) : Sem Value).run Pr w = .ok (valT (liftT z)) w := by
  simp only [eqGuard_at_int]
  simp only [shOp] at h
  split at h
  · cases h
  · rename_i hb
    rcases ho with rfl | rfl <;> simp only [Option.some.injEq] at h <;> subst h <;> simp [binOp, Op.shift, hb, liftT, valT]

theorem run_strOp (t : TypeId) (x y : Operand) {op : BinOp} {a b : List UInt8} {z : TU} (h : strOp op a b = some z) :
    (do eqGuard op t x y (.string ⟨a.toArray⟩) (.string ⟨b.toArray⟩); binOp op t (.string ⟨a.toArray⟩) (.string ⟨b.toArray⟩) : Sem Value).run Pr w = .ok (valT (liftT z)) w := by
  simp only [eqGuard_at_string]
  cases op <;> simp only [strOp] at h <;> (try split at h) <;> simp only [Option.some.injEq, reduceCtorEq] at h <;> subst h
  · rename_i hl
    have h1 : ((⟨a.toArray⟩ : ByteArray).size : Int) + ((⟨b.toArray⟩ : ByteArray).size : Int) ≤ 9223372036854775807 := by
      have e1 : (⟨a.toArray⟩ : ByteArray).size = a.length := by simp [ByteArray.size]
      have e2 : (⟨b.toArray⟩ : ByteArray).size = b.length := by simp [ByteArray.size]
      rw [e1, e2]
      unfold maxLen at hl
      omega
    have h2 : (⟨a.toArray⟩ ++ ⟨b.toArray⟩ : ByteArray) = ⟨(a ++ b).toArray⟩ := by
      apply ByteArray.ext
      simp
    simp [binOp, Op.stringOp, h1, h2, liftT, valT]
  all_goals simp [binOp, Op.stringOp, liftT, valT]
end
end Go.Proofs.YtlkjnlfddadlmaaDoor.V

namespace Go.Proofs.YtlkjnlfddadlmaaDoor.V
open Go.RowKit

section
variable {cx : Ctx} {f : Nat} {w0 : World} {E0 : Nat → Prop} {P : Nat → Nat → Prop} {R : Nat → Prop} {ea : List EA} {w w' : World} {S : SV} {tmps : Array Value} {Pr : Program} {a : Act}

def QOk (cx : Ctx) (f : Nat) (w0 : World) (E0 : Nat → Prop) (P : Nat → Nat → Prop) (R : Nat → Prop) (ea : List EA) (w : World) (tmps : Array Value) (Pr : Program) (a : Act) (o : Oper) (x : XU) (Su : SU) : Prop :=
  ∃ w' S' xG, QRes cx f w0 E0 P R ea w tmps x Su w' S' xG ∧ (execOp a.eval o).run Pr w = .ok (.value (valX xG)) w'

def QOkW (cx : Ctx) (f : Nat) (w0 : World) (E0 : Nat → Prop) (P : Nat → Nat → Prop) (R : Nat → Prop) (ea : List EA) (w : World) (tmps : Array Value) (Pr : Program) (a : Act) (o : Oper) (x : XU) (Su : SU) : Prop :=
  ∃ S' xG, QRes cx f w0 E0 P R ea w tmps x Su w S' xG ∧ (execOp a.eval o).run Pr w = .ok (.value (valX xG)) w

def QOkA (cx : Ctx) (f : Nat) (w0 : World) (E0 : Nat → Prop) (P : Nat → Nat → Prop) (R : Nat → Prop) (ea : List EA) (w : World) (tmps : Array Value) (Pr : Program) (a : Act) (o : Oper) (x : XU) (Su : SU) : Prop :=
  ∃ S' xG, QRes cx f w0 E0 P R ea w tmps x Su w S' xG ∧ ∀ w', (execOp a.eval o).run Pr w' = .ok (.value (valX xG)) w'

theorem QOkA.ww {o : Oper} {x : XU} {Su : SU} (h : QOkA cx f w0 E0 P R ea w tmps Pr a o x Su) : QOkW cx f w0 E0 P R ea w tmps Pr a o x Su :=
  let ⟨S', xG, h1, h2⟩ := h; ⟨S', xG, h1, h2 w⟩

theorem QOkW.ok {o : Oper} {x : XU} {Su : SU} (h : QOkW cx f w0 E0 P R ea w tmps Pr a o x Su) : QOk cx f w0 E0 P R ea w tmps Pr a o x Su :=
  let ⟨S', xG, h1, h2⟩ := h; ⟨w, S', xG, h1, h2⟩

theorem Opv.keep (h : Rel (isVar cx f) w0 E0 P R ea w S tmps) {o : Operand} {x : XU} {xG : XV} (hx : Opv cx f w0 E0 P R ea w S a o x xG) : QRes cx f w0 E0 P R ea w tmps x (V.clr cx f (V.erS S) o) w (V.clr cx f S o) xG :=
  ⟨Grow.refl w, hx.er, clr_map o, h.clr o, hx.new⟩

theorem move_okA (h : Rel (isVar cx f) w0 E0 P R ea w S tmps) (ha : a.tmps = tmps) {o : Oper} {x : Operand} (ho : o.op = .move x) {y : XU} (hy : opv cx f (V.erS S) o.type x = some y) :
    QOkA cx f w0 E0 P R ea w tmps Pr a o y (V.clr cx f (V.erS S) x) := by
  obtain ⟨xG, hx⟩ := h.opv ha hy
  exact ⟨_, xG, hx.keep h, fun w' => by simp [execOp, ho, hx.val]⟩
theorem move_ok (h : Rel (isVar cx f) w0 E0 P R ea w S tmps) (ha : a.tmps = tmps) {o : Oper} {x : Operand} (ho : o.op = .move x) {y : XU} (hy : opv cx f (V.erS S) o.type x = some y) :
    QOkW cx f w0 E0 P R ea w tmps Pr a o y (V.clr cx f (V.erS S) x) := (move_okA h ha ho hy).ww

theorem opv_int (h : Rel (isVar cx f) w0 E0 P R ea w S tmps) (ha : a.tmps = tmps) {t : Nat} {o : Operand} {n : Int} (hy : intOf (opv cx f (V.erS S) t o) = some n) : ∃ k, a.eval o = .int k n := by
  cases ho : opv cx f (V.erS S) t o with
  | none => simp [ho, intOf] at hy
  | some x =>
    obtain ⟨xG, hx⟩ := h.opv ha ho
    rw [ho] at hy
    unfold intOf at hy
    split at hy
    · rename_i k m heq
      simp only [Option.some.injEq] at hy heq
      subst hy; subst heq
      obtain ⟨cG, rfl, hc⟩ := er_c hx.er
      obtain ⟨y, rfl, hy⟩ := er_t hc
      have := er_int hy
      subst this
      exact ⟨k, by simpa [valX, valC, valT] using hx.val⟩
    · cases hy

theorem opv_bool (h : Rel (isVar cx f) w0 E0 P R ea w S tmps) (ha : a.tmps = tmps) {t : Nat} {o : Operand} {b : Bool} (hy : boolOf (opv cx f (V.erS S) t o) = some b) : a.eval o = .bool b := by
  cases ho : opv cx f (V.erS S) t o with
  | none => simp [ho, boolOf] at hy
  | some x =>
    obtain ⟨xG, hx⟩ := h.opv ha ho
    rw [ho] at hy
    unfold boolOf at hy
    split at hy
    · rename_i m heq
      simp only [Option.some.injEq] at hy heq
      subst hy; subst heq
      obtain ⟨cG, rfl, hc⟩ := er_c hx.er
      obtain ⟨y, rfl, hy⟩ := er_t hc
      have := er_bool hy
      subst this
      simpa [valX, valC, valT] using hx.val
    · cases hy

variable {call : Callee}

theorem pick_ok (h : Rel (isVar cx f) w0 E0 P R ea w S tmps) (ha : a.tmps = tmps) {o : Oper} {c x y : Operand} (ho : o.op = .pick c x y) {z : XU} {Su : SU}
    (hq : qval cx f call (V.erS S) o.type (.pick c x y) = some (z, Su)) : QOkW cx f w0 E0 P R ea w tmps Pr a o z Su := by
  simp only [qval] at hq
  split at hq
  · rename_i hb
    have hc := opv_bool h ha hb
    cases hx : opv cx f (V.erS S) o.type x with
    | none => simp [hx] at hq
    | some x' =>
      simp only [hx, Option.map_some, Option.some.injEq, Prod.mk.injEq] at hq
      obtain ⟨rfl, rfl⟩ := hq
      obtain ⟨xG, hxG⟩ := h.opv ha hx
      exact ⟨_, xG, hxG.keep h, by simp [execOp, ho, hc, hxG.val, asBool]⟩
  · rename_i hb
    have hc := opv_bool h ha hb
    cases hx : opv cx f (V.erS S) o.type y with
    | none => simp [hx] at hq
    | some x' =>
      simp only [hx, Option.map_some, Option.some.injEq, Prod.mk.injEq] at hq
      obtain ⟨rfl, rfl⟩ := hq
      obtain ⟨xG, hxG⟩ := h.opv ha hx
      exact ⟨_, xG, hxG.keep h, by simp [execOp, ho, hc, hxG.val, asBool]⟩
  · cases hq

theorem opv_c (h : Rel (isVar cx f) w0 E0 P R ea w S tmps) (ha : a.tmps = tmps) {t : Nat} {o : Operand} {c : CU} (hy : opv cx f (V.erS S) t o = some (.c c)) :
    ∃ cG, erC cG = c ∧ a.eval o = valC cG ∧ okC w P R S ea cG ∧ ∀ d', Root.sl d' ∈ refsC cG → isVar cx f d' = true := by
  obtain ⟨xG, hx⟩ := h.opv ha hy
  obtain ⟨cG, rfl, hc⟩ := er_c hx.er
  exact ⟨cG, hc, by simpa [valX] using hx.val, by simpa [okX] using hx.ok, fun d' hd' => hx.new.refs d' (by simpa [refsX] using hd')⟩

theorem kindOf_und (hty : TyOk Pr cx.ty) {t k : Nat} (hk0 : 0 < k) (hk : kindOf cx t = k) : ∃ d, Pr.underlying t = some d ∧ kindIs Pr d k = true := by
  simp only [kindOf] at hk
  split at hk
  · rename_i hok
    obtain ⟨i, d, z, hf⟩ := hty.facts hok
    exact ⟨d, hf.und, hk ▸ hf.kind⟩
  · omega

theorem run_nilOp (t : TypeId) (x y : Operand) {op : BinOp} {va vb : Value} {same : Bool} {z : TU} (hg : eqGuard op t x y va vb = pure ())
    (h1 : binOp .eql t va vb = (do pure (.bool (← Op.equal t va vb)))) (h2 : binOp .neq t va vb = (do pure (.bool (!(← Op.equal t va vb)))))
    (he : (Op.equal t va vb).run Pr w = .ok same w) (h : nilOp op same = some z) :
    (do eqGuard op t x y va vb; binOp op t va vb : Sem Value).run Pr w = .ok (valT (liftT z)) w := by
  rw [hg]
  cases op <;> simp only [nilOp, Option.some.injEq, reduceCtorEq] at h
  · subst h; simp [h1, he, liftT, valT]
  · subst h; simp [h2, he, liftT, valT]

theorem eqIn_bool (d t : Nat) (p q : Bool) (hd : Pr.underlying t = some .bool) : (Op.equalIn (d + 1) t (.bool p) (.bool q)).run Pr w = .ok (p == q) w := by
  simp [Op.equalIn, run_underlying hd]
theorem eqIn_ptr (d t e : Nat) (p q : Option Addr) (hd : Pr.underlying t = some (.pointer e)) (hn : p = none ∨ q = none) : (Op.equalIn (d + 1) t (.pointer p) (.pointer q)).run Pr w = .ok (p.isNone && q.isNone) w := by
  rcases hn with rfl | rfl
  · simp [Op.equalIn, run_underlying hd]
  · cases p <;> simp [Op.equalIn, run_underlying hd]
theorem eqIn_nili (d t : Nat) (e : Array (String × TypeId)) (hd : Pr.underlying t = some (.interface e)) : (Op.equalIn (d + 1) t .nilIface .nilIface).run Pr w = .ok true w := by
  simp [Op.equalIn, run_underlying hd]
theorem eqIn_nili_l (d t : Nat) (e : Array (String × TypeId)) (t' : TypeId) (v : Value) (hd : Pr.underlying t = some (.interface e)) : (Op.equalIn (d + 1) t .nilIface (.iface t' v)).run Pr w = .ok false w := by
  simp [Op.equalIn, run_underlying hd]
theorem eqIn_nili_r (d t : Nat) (e : Array (String × TypeId)) (t' : TypeId) (v : Value) (hd : Pr.underlying t = some (.interface e)) : (Op.equalIn (d + 1) t (.iface t' v) .nilIface).run Pr w = .ok false w := by
  simp [Op.equalIn, run_underlying hd]
theorem run_equal_bool (t : TypeId) (p q : Bool) (hd : Pr.underlying t = some .bool) : (Op.equal t (.bool p) (.bool q)).run Pr w = .ok (p == q) w := eqIn_bool 9999 t p q hd
theorem run_equal_ptr (t e : TypeId) (p q : Option Addr) (hd : Pr.underlying t = some (.pointer e)) (hn : p = none ∨ q = none) : (Op.equal t (.pointer p) (.pointer q)).run Pr w = .ok (p.isNone && q.isNone) w := eqIn_ptr 9999 t e p q hd hn
theorem run_equal_nili (t : TypeId) (e : Array (String × TypeId)) (hd : Pr.underlying t = some (.interface e)) : (Op.equal t .nilIface .nilIface).run Pr w = .ok true w := eqIn_nili 9999 t e hd
theorem run_equal_nili_l (t : TypeId) (e : Array (String × TypeId)) (t' : TypeId) (v : Value) (hd : Pr.underlying t = some (.interface e)) : (Op.equal t .nilIface (.iface t' v)).run Pr w = .ok false w := eqIn_nili_l 9999 t e t' v hd
theorem run_equal_nili_r (t : TypeId) (e : Array (String × TypeId)) (t' : TypeId) (v : Value) (hd : Pr.underlying t = some (.interface e)) : (Op.equal t (.iface t' v) .nilIface).run Pr w = .ok false w := eqIn_nili_r 9999 t e t' v hd

theorem bin_ok (hty : TyOk Pr cx.ty) (h : Rel (isVar cx f) w0 E0 P R ea w S tmps) (ha : a.tmps = tmps) {o : Oper} {op : BinOp} {xt yt : Nat} {x y : Operand} (ho : o.op = .binOp op xt x y yt) {z : XU} {Su : SU}
    (hq : qval cx f call (V.erS S) o.type (.binOp op xt x y yt) = some (z, Su)) : QOkW cx f w0 E0 P R ea w tmps Pr a o z Su := by
  simp only [qval] at hq
  split at hq
  · rename_i A B hA hB
    obtain ⟨aG, haG, hav, haok, _⟩ := opv_c h ha hA
    obtain ⟨bG, hbG, hbv, hbok, _⟩ := opv_c h ha hB
    cases hz : binV (kindOf cx xt) (isConstO x || isConstO y) op A B with
    | none => simp [hz] at hq
    | some z' =>
      simp only [hz, Option.map_some, Option.some.injEq, Prod.mk.injEq] at hq
      obtain ⟨rfl, rfl⟩ := hq
      have fin : isScal z' = true → (do eqGuard op xt x y (a.eval x) (a.eval y); binOp op xt (a.eval x) (a.eval y) : Sem Value).run Pr w = .ok (valT (liftT z')) w → QOkW cx f w0 E0 P R ea w tmps Pr a o (.c (.t z')) (V.erS S) := by
        intro hs hr
        refine ⟨S, _, QRes.scal h hs, ?_⟩
        have : (execOp a.eval o).run Pr w = ((do eqGuard op xt x y (a.eval x) (a.eval y); binOp op xt (a.eval x) (a.eval y) : Sem Value) >>= fun v => pure (Next.value v)).run Pr w := by simp [execOp, ho]
        rw [this, Sem.run_bind, hr]
        simp [valX, valC]
      unfold binV at hz
      split at hz
      · obtain ⟨u, rfl, hu⟩ := er_t haG
        obtain ⟨v, rfl, hv⟩ := er_t hbG
        have := er_int hu; subst this
        have := er_int hv; subst this
        simp only [valC, valT] at hav hbv
        rw [hav, hbv] at fin
        split at hz
        · exact fin (shOp_scal hz) (run_shOp xt x y (.inl rfl) hz)
        · exact fin (shOp_scal hz) (run_shOp xt x y (.inr rfl) hz)
        · split at hz
          · rename_i hk
            subst hk
            exact fin (intOp_scal hz) (run_intOp xt x y hz)
          · cases hz
      · obtain ⟨u, rfl, hu⟩ := er_t haG
        obtain ⟨v, rfl, hv⟩ := er_t hbG
        have := er_str hu; subst this
        have := er_str hv; subst this
        simp only [valC, valT] at hav hbv
        rw [hav, hbv] at fin
        exact fin (strOp_scal hz) (run_strOp xt x y hz)
      · obtain ⟨u, rfl, hu⟩ := er_t haG
        obtain ⟨v, rfl, hv⟩ := er_t hbG
        have := er_bool hu; subst this
        have := er_bool hv; subst this
        simp only [valC, valT] at hav hbv
        rw [hav, hbv] at fin
        split at hz
        · rename_i hk
          obtain ⟨d, hd, hkd⟩ := kindOf_und hty (t := xt) (by omega) hk
          have hdb : d = .bool := by cases d <;> simp [kindIs] at hkd <;> rfl
          subst hdb
          exact fin (nilOp_scal hz) (run_nilOp xt x y (by cases op <;> rfl) (by simp [binOp]) (by simp [binOp]) (run_equal_bool xt _ _ hd) hz)
        · cases hz
      · have h1 := er_nilp haG; subst h1
        have h2 := er_nilp hbG; subst h2
        simp only [valC] at hav hbv
        rw [hav, hbv] at fin
        split at hz
        · rename_i hk
          obtain ⟨d, hd, hkd⟩ := kindOf_und hty (t := xt) (by omega) hk
          obtain ⟨e, rfl⟩ : ∃ e, d = .pointer e := by cases d <;> simp [kindIs] at hkd <;> exact ⟨_, rfl⟩
          exact fin (nilOp_scal hz) (run_nilOp xt x y (by cases op <;> rfl) (by simp [binOp]) (by simp [binOp]) (run_equal_ptr xt e _ _ hd (.inl rfl)) hz)
        · cases hz
      · have h1 := er_nilp haG; subst h1
        obtain ⟨v, rfl⟩ := er_ptr hbG
        simp only [okC, PtrOk] at hbok
        obtain ⟨ad, _, rfl⟩ := hbok
        simp only [valC] at hav hbv
        rw [hav, hbv] at fin
        split at hz
        · rename_i hk
          obtain ⟨d, hd, hkd⟩ := kindOf_und hty (t := xt) (by omega) hk
          obtain ⟨e, rfl⟩ : ∃ e, d = .pointer e := by cases d <;> simp [kindIs] at hkd <;> exact ⟨_, rfl⟩
          exact fin (nilOp_scal hz) (run_nilOp xt x y (by cases op <;> rfl) (by simp [binOp]) (by simp [binOp]) (run_equal_ptr xt e _ _ hd (.inl rfl)) hz)
        · cases hz
      · have h1 := er_nilp hbG; subst h1
        obtain ⟨v, rfl⟩ := er_ptr haG
        simp only [okC, PtrOk] at haok
        obtain ⟨ad, _, rfl⟩ := haok
        simp only [valC] at hav hbv
        rw [hav, hbv] at fin
        split at hz
        · rename_i hk
          obtain ⟨d, hd, hkd⟩ := kindOf_und hty (t := xt) (by omega) hk
          obtain ⟨e, rfl⟩ : ∃ e, d = .pointer e := by cases d <;> simp [kindIs] at hkd <;> exact ⟨_, rfl⟩
          exact fin (nilOp_scal hz) (run_nilOp xt x y (by cases op <;> rfl) (by simp [binOp]) (by simp [binOp]) (run_equal_ptr xt e _ _ hd (.inr rfl)) hz)
        · cases hz
      · obtain ⟨u, rfl, hu⟩ := er_t haG
        obtain ⟨v, rfl, hv⟩ := er_t hbG
        have := er_nili hu; subst this
        have := er_nili hv; subst this
        simp only [valC, valT] at hav hbv
        rw [hav, hbv] at fin
        split at hz
        · rename_i hk
          simp only [Bool.and_eq_true, decide_eq_true_eq, Bool.or_eq_true] at hk
          obtain ⟨hk, hc⟩ := hk
          obtain ⟨d, hd, hkd⟩ := kindOf_und hty (t := xt) (by omega) hk
          obtain ⟨e, rfl⟩ : ∃ e, d = .interface e := by cases d <;> simp [kindIs] at hkd <;> exact ⟨_, rfl⟩
          refine fin (nilOp_scal hz) (run_nilOp xt x y ?_ (by simp [binOp]) (by simp [binOp]) (run_equal_nili xt e hd) hz)
          rcases hc with hc | hc
          · cases x <;> simp [isConstO] at hc; exact eqGuard_nil_constL _ _ _ _
          · cases y <;> simp [isConstO] at hc; exact eqGuard_nil_constR _ _ _ _
        · cases hz
      · obtain ⟨u, rfl, hu⟩ := er_t haG
        obtain ⟨v, rfl, hv⟩ := er_t hbG
        have := er_nili hu; subst this
        obtain ⟨b, rfl⟩ := er_ifc hv
        simp only [okC, okT] at hbok
        obtain ⟨t', v', rfl⟩ := hbok
        simp only [valC, valT] at hav hbv
        rw [hav, hbv] at fin
        split at hz
        · rename_i hk
          obtain ⟨d, hd, hkd⟩ := kindOf_und hty (t := xt) (by omega) hk
          obtain ⟨e, rfl⟩ : ∃ e, d = .interface e := by cases d <;> simp [kindIs] at hkd <;> exact ⟨_, rfl⟩
          exact fin (nilOp_scal hz) (run_nilOp xt x y (by cases op <;> rfl) (by simp [binOp]) (by simp [binOp]) (run_equal_nili_l xt e t' v' hd) hz)
        · cases hz
      · obtain ⟨u, rfl, hu⟩ := er_t haG
        obtain ⟨v, rfl, hv⟩ := er_t hbG
        have := er_nili hv; subst this
        obtain ⟨b, rfl⟩ := er_ifc hu
        simp only [okC, okT] at haok
        obtain ⟨t', v', rfl⟩ := haok
        simp only [valC, valT] at hav hbv
        rw [hav, hbv] at fin
        split at hz
        · rename_i hk
          obtain ⟨d, hd, hkd⟩ := kindOf_und hty (t := xt) (by omega) hk
          obtain ⟨e, rfl⟩ : ∃ e, d = .interface e := by cases d <;> simp [kindIs] at hkd <;> exact ⟨_, rfl⟩
          exact fin (nilOp_scal hz) (run_nilOp xt x y (by cases op <;> rfl) (by simp [binOp]) (by simp [binOp]) (run_equal_nili_r xt e t' v' hd) hz)
        · cases hz
      · cases hz
  · cases hq
end
end Go.Proofs.YtlkjnlfddadlmaaDoor.V

namespace Go.Proofs.YtlkjnlfddadlmaaDoor.V
open Go.RowKit

section
variable {cx : Ctx} {f : Nat} {w0 : World} {E0 : Nat → Prop} {P : Nat → Nat → Prop} {R : Nat → Prop} {ea : List EA} {w w' : World} {S : SV} {tmps : Array Value} {Pr : Program} {a : Act} {call : Callee}

theorem un_ok (h : Rel (isVar cx f) w0 E0 P R ea w S tmps) (ha : a.tmps = tmps) {o : Oper} {op : UnOp} {xt : Nat} {x : Operand} (ho : o.op = .unOp op xt x) {z : XU} {Su : SU}
    (hq : qval cx f call (V.erS S) o.type (.unOp op xt x) = some (z, Su)) : QOkW cx f w0 E0 P R ea w tmps Pr a o z Su := by
  simp only [qval] at hq
  split at hq
  · rename_i A hA
    obtain ⟨aG, haG, hav, haok, _⟩ := opv_c h ha hA
    cases hz : unV op A with
    | none => simp [hz] at hq
    | some z' =>
      simp only [hz, Option.map_some, Option.some.injEq, Prod.mk.injEq] at hq
      obtain ⟨rfl, rfl⟩ := hq
      unfold unV at hz
      split at hz
      · obtain ⟨u, rfl, hu⟩ := er_t haG
        have := er_bool hu; subst this
        simp only [valC, valT] at hav
        split at hz
        · rename_i hop; subst hop
          simp only [Option.some.injEq] at hz; subst hz
          exact ⟨S, _, QRes.scal h rfl, by simp [execOp, ho, hav, Op.unary, valX, valC, liftT, valT]⟩
        · cases hz
      · obtain ⟨u, rfl, hu⟩ := er_t haG
        have := er_int hu; subst this
        simp only [valC, valT] at hav
        split at hz
        · simp only [Option.some.injEq] at hz; subst hz
          exact ⟨S, _, QRes.scal h rfl, by simp [execOp, ho, hav, Op.unary, Op.intArith, valX, valC, liftT, valT]⟩
        · cases hz
      · cases hz
  · cases hq

theorem QRes.ref (h : Rel (isVar cx f) w0 E0 P R ea w S tmps) {c : CV} (hok : okC w P R S ea c) (hb : blkC c = []) (hr : ∀ d', Root.sl d' ∈ refsC c → isVar cx f d' = true) :
    QRes cx f w0 E0 P R ea w tmps (.c (erC c)) (V.erS S) w S (.c c) :=
  ⟨Grow.refl w, by simp [erX, mapX, erC], rfl, h,
    ⟨by simpa [okX] using hok, fun d' hd' => hr d' (by simpa [refsX] using hd'), by simp [blkX, hb], fun r b hb' => by simp [blkX, hb] at hb', fun b hb' => by simp [blkX, hb] at hb', fun b hb' => by simp [blkX, hb] at hb', fun b hb' => by simp [blkX, hb] at hb'⟩⟩

theorem nilCheck_okA (h : Rel (isVar cx f) w0 E0 P R ea w S tmps) (ha : a.tmps = tmps) {o : Oper} {x : Operand} (ho : o.op = .nilCheck x) {z : XU} {Su : SU}
    (hq : qval cx f call (V.erS S) o.type (.nilCheck x) = some (z, Su)) : QOkA cx f w0 E0 P R ea w tmps Pr a o z Su := by
  simp only [qval] at hq
  split at hq
  · next v r p off hx =>
    simp only [Option.some.injEq, Prod.mk.injEq] at hq
    obtain ⟨rfl, rfl⟩ := hq
    obtain ⟨cG, h1, h2, h3, h4⟩ := opv_c h ha hx
    obtain ⟨v', rfl⟩ := er_ptr h1
    have hv : ∃ ad, a.eval x = .pointer (some ad) := by
      simp only [okC] at h3
      obtain ⟨ad, _, rfl⟩ := h3
      exact ⟨_, by rw [h2]; rfl⟩
    obtain ⟨ad, hv⟩ := hv
    refine ⟨S, .c (.ptr v' r p off), .ref h h3 (by simp [blkC]) h4, ?_⟩
    rw [show valX (.c (.ptr v' r p off)) = a.eval x from h2.symm]
    intro w'; simp [execOp, ho, hv]
  · next v cs hx =>
    simp only [Option.some.injEq, Prod.mk.injEq] at hq
    obtain ⟨rfl, rfl⟩ := hq
    obtain ⟨cG, h1, h2, h3, h4⟩ := opv_c h ha hx
    obtain ⟨v', ds, rfl, rfl⟩ := er_rptr h1
    have hv : ∃ ad, a.eval x = .pointer (some ad) := by
      simp only [okC] at h3
      obtain ⟨_, _, ad, rfl, _⟩ := h3
      exact ⟨_, by rw [h2]; rfl⟩
    obtain ⟨ad, hv⟩ := hv
    refine ⟨S, .c (.rptr v' ds), ?_, ?_⟩
    · have := QRes.ref h h3 (by simp [blkC]) h4
      simpa only [erC, mapC, mapTs_eq] using this
    · rw [show valX (.c (.rptr v' ds)) = a.eval x from h2.symm]
      intro w'; simp [execOp, ho, hv]
  · cases hq
theorem nilCheck_ok (h : Rel (isVar cx f) w0 E0 P R ea w S tmps) (ha : a.tmps = tmps) {o : Oper} {x : Operand} (ho : o.op = .nilCheck x) {z : XU} {Su : SU}
    (hq : qval cx f call (V.erS S) o.type (.nilCheck x) = some (z, Su)) : QOkW cx f w0 E0 P R ea w tmps Pr a o z Su := (nilCheck_okA h ha ho hq).ww

theorem okTs_drop {n : Nat} {cs : List TV} (h : okTs w P R cs) : okTs w P R (cs.drop n) := okTs_iff.2 fun x hx => okTs_iff.1 h x (List.mem_of_mem_drop hx)
theorem okTs_take {n : Nat} {cs : List TV} (h : okTs w P R cs) : okTs w P R (cs.take n) := okTs_iff.2 fun x hx => okTs_iff.1 h x (List.mem_of_mem_take hx)
theorem shTs_drop {g n : Nat} {cs : List TV} (h : shTs g cs) : shTs g (cs.drop n) := shTs_iff.2 fun x hx => shTs_iff.1 h x (List.mem_of_mem_drop hx)
theorem shTs_take {g n : Nat} {cs : List TV} (h : shTs g cs) : shTs g (cs.take n) := shTs_iff.2 fun x hx => shTs_iff.1 h x (List.mem_of_mem_take hx)
theorem shT_le {g g' : Nat} (hg : g' ≤ g) : ∀ {x : TV}, shT g x → shT g' x := by
  have key : (∀ x : TV, shT g x → shT g' x) ∧ True := by
    refine ⟨?_, trivial⟩
    intro x
    exact T.rec (motive_1 := fun x => shT g x → shT g' x) (motive_2 := fun xs => shTs g xs → shTs g' xs)
      (fun _ _ _ => by simp [shT]) (fun _ _ => by simp [shT]) (fun _ _ => by simp [shT])
      (fun a tag sz n cs ih h => by simp only [shT] at h ⊢; exact ⟨h.1, Nat.le_trans hg h.2.1, ih h.2.2⟩)
      (fun _ _ => by simp [shT]) (fun _ => by simp [shT]) (fun _ _ => by simp [shT])
      (fun _ => by simp [shTs]) (fun x xs ihx ihxs h => by simp only [shTs] at h ⊢; exact ⟨ihx h.1, ihxs h.2⟩) x
  exact fun {x} => key.1 x
theorem shTs_le {g g' : Nat} (hg : g' ≤ g) {xs : List TV} (h : shTs g xs) : shTs g' xs := shTs_iff.2 fun x hx => shT_le hg (shTs_iff.1 h x hx)

theorem cellsAt_drop {b o : Nat} {vs : List Value} (h : cellsAt w b o vs) (n : Nat) : cellsAt w b (o + n) (vs.drop n) := by
  intro j v hj
  rw [List.getElem?_drop] at hj
  have := h (n + j) v hj
  rwa [show o + (n + j) = o + n + j by omega] at this
theorem cellsAt_take {b o : Nat} {vs : List Value} (h : cellsAt w b o vs) (n : Nat) : cellsAt w b o (vs.take n) := by
  intro j v hj
  rw [List.getElem?_take] at hj
  split at hj
  · exact h j v hj
  · cases hj

theorem blk_of_sh {x : TV} {g : Nat} (h : shT g x) : blkT x = [] := by
  cases x with
  | sl a tag sz n cs => simp only [shT] at h; simp [blkT, show tag ≠ 0 by omega]
  | _ => simp [blkT]
theorem pt_eta {ad : Addr} (h : ad.spot = none) (n : Nat) : ad.add n = ⟨ad.block, ad.off + n, none⟩ := by
  obtain ⟨b, o, s⟩ := ad
  simp only at h
  subst h
  exact Addr.add_lit b o n

theorem addr_ok {c : CV} {n : Nat} {z : CU} (hok : okC w P R S ea c) (hz : addrV (erC c) n = some z) :
    ∃ c' ad, erC c' = z ∧ valC c = .pointer (some ad) ∧ valC c' = .pointer (some (ad.add n)) ∧ okC w P R S ea c' ∧ blkC c' = [] ∧ refsC c' = refsC c := by
  cases c with
  | ptr v r p off =>
    simp only [erC, mapC, addrV, Option.some.injEq] at hz
    subst hz
    simp only [okC, PtrOk] at hok
    obtain ⟨ad, h1, rfl⟩ := hok
    refine ⟨.ptr (.pointer (some ⟨ad.block, ad.off + (off + n), none⟩)) r p (off + n), ⟨ad.block, ad.off + off, none⟩, by simp [erC, mapC, er0], by simp [valC], ?_, ?_, by simp [blkC], by simp [refsC]⟩
    · simp [valC, Addr.add_lit, Nat.add_assoc]
    · simp only [okC, PtrOk]; exact ⟨ad, h1, rfl⟩
  | rptr v cs =>
    simp only [erC, mapC, mapTs_eq, addrV, List.length_map] at hz
    split at hz
    · rename_i hn
      simp only [Option.some.injEq] at hz
      subst hz
      simp only [okC] at hok
      obtain ⟨h1, h2, ad, rfl, h4, h5⟩ := hok
      refine ⟨.rptr (.pointer (some (ad.add n))) (cs.drop n), ad, by simp [erC, mapC, mapTs_eq, er0, List.map_drop], by simp [valC], by simp [valC], ?_, by simp [blkC], by simp [refsC]⟩
      simp only [okC]
      refine ⟨okTs_drop h1, shTs_drop h2, ad.add n, rfl, by rw [pt_eta h4], ?_⟩
      rcases h5 with rfl | ⟨h5, h6⟩
      · exact .inl (by simp)
      · refine .inr ?_
        rw [pt_eta h4]
        exact ⟨h5, by rw [List.map_drop]; exact cellsAt_drop h6 n⟩
    · cases hz
  | _ => simp [erC, mapC, addrV] at hz

theorem fieldAddr_okA (hty : TyOk Pr cx.ty) (h : Rel (isVar cx f) w0 E0 P R ea w S tmps) (ha : a.tmps = tmps) {o : Oper} {e i : Nat} {x : Operand} (ho : o.op = .fieldAddr e x i) {z : XU} {Su : SU}
    (hq : qval cx f call (V.erS S) o.type (.fieldAddr e x i) = some (z, Su)) : QOkA cx f w0 E0 P R ea w tmps Pr a o z Su := by
  simp only [qval] at hq
  split at hq
  · rename_i off ft y hfs hy
    split at hq
    · rename_i hok
      obtain ⟨aG, haG, hav, haok, har⟩ := opv_c h ha hy
      subst haG
      cases hz : addrV (erC aG) off with
      | none => simp [hz] at hq
      | some z' =>
        simp only [hz, Option.map_some, Option.some.injEq, Prod.mk.injEq] at hq
        obtain ⟨rfl, rfl⟩ := hq
        obtain ⟨c', ad, h1, h2, h3, h4, h5, h6⟩ := addr_ok haok hz
        obtain ⟨ti, d, zz, hf⟩ := hty.facts hok.1
        obtain ⟨fs, fd, rfl, hfd, hfo, hft⟩ := hf.field hfs
        obtain ⟨ti2, d2, zz2, hf2⟩ := hty.facts hok.2.1
        subst h1
        refine ⟨S, _, QRes.ref h h4 h5 (fun d' hd' => har d' (h6 ▸ hd')), ?_⟩
        have hsz : ∀ w', (sizeOf fd.type).run Pr w' = .ok (cx.ty ft).sz w' := by intro w'; rw [hft]; simp [sizeOf, typeInfo, hf2.info, hf2.size]
        have hne : (cx.ty ft).sz ≠ 0 := by omega
        intro w'
        simp [execOp, ho, hav, h2, Instr.fieldAt, run_underlying hf.und, hfd, Instr.sureAddr, fieldPlace, hsz, hne, hfo, valX, h3]
    · cases hq
  · cases hq
theorem fieldAddr_ok (hty : TyOk Pr cx.ty) (h : Rel (isVar cx f) w0 E0 P R ea w S tmps) (ha : a.tmps = tmps) {o : Oper} {e i : Nat} {x : Operand} (ho : o.op = .fieldAddr e x i) {z : XU} {Su : SU}
    (hq : qval cx f call (V.erS S) o.type (.fieldAddr e x i) = some (z, Su)) : QOkW cx f w0 E0 P R ea w tmps Pr a o z Su := (fieldAddr_okA hty h ha ho hq).ww

theorem index_ok (hty : TyOk Pr cx.ty) (h : Rel (isVar cx f) w0 E0 P R ea w S tmps) (ha : a.tmps = tmps) {o : Oper} {e : Nat} {x i : Operand} (ho : o.op = .index e x i) {z : XU} {Su : SU}
    (hq : qval cx f call (V.erS S) o.type (.index e x i) = some (z, Su)) : QOkW cx f w0 E0 P R ea w tmps Pr a o z Su := by
  simp only [qval] at hq
  split at hq
  · rename_i s k hs hk
    split at hq
    · rename_i hlt
      obtain ⟨hk3, hlt⟩ := hlt
      have hu : Pr.underlying e = some .string := by
        obtain ⟨d, hd, hkd⟩ := kindOf_und hty (t := e) (by omega) hk3
        rw [hd]
        cases d <;> simp [kindIs] at hkd <;> rfl
      simp only [Option.some.injEq, Prod.mk.injEq] at hq
      obtain ⟨rfl, rfl⟩ := hq
      obtain ⟨aG, haG, hav, _, _⟩ := opv_c h ha hs
      obtain ⟨u, rfl, hu'⟩ := er_t haG
      have := er_str hu'; subst this
      simp only [valC, valT] at hav
      obtain ⟨kk, hkv⟩ := opv_int h ha hk
      refine ⟨S, _, QRes.scal h rfl, ?_⟩
      have h1 : k.toNat < s.length := by omega
      have h2 : (⟨s.toArray⟩ : ByteArray)[k.toNat]? = some s[k.toNat] := by
        have : k.toNat < (⟨s.toArray⟩ : ByteArray).size := by simpa [ByteArray.size] using h1
        rw [getElem?_pos (⟨s.toArray⟩ : ByteArray) k.toNat this]
        rfl
      simp [execOp, ho, hav, hkv, Instr.index, asIntOf, run_underlying hu, hlt.1, h2, valX, valC, byteT, liftT, valT, List.getD, h1]
    · cases hq
  · cases hq

end
end Go.Proofs.YtlkjnlfddadlmaaDoor.V

namespace Go.Proofs.YtlkjnlfddadlmaaDoor.V
open Go.RowKit

section
variable {cx : Ctx} {f : Nat} {w0 : World} {E0 : Nat → Prop} {P : Nat → Nat → Prop} {R : Nat → Prop} {ea : List EA} {w w' : World} {S : SV} {tmps : Array Value} {Pr : Program} {a : Act} {call : Callee}

theorem indexAddr_okA (hty : TyOk Pr cx.ty) (h : Rel (isVar cx f) w0 E0 P R ea w S tmps) (ha : a.tmps = tmps) {o : Oper} {e : Nat} {x i : Operand} (ho : o.op = .indexAddr e x i) {z : XU} {Su : SU}
    (hq : qval cx f call (V.erS S) o.type (.indexAddr e x i) = some (z, Su)) : QOkA cx f w0 E0 P R ea w tmps Pr a o z Su := by
  simp only [qval] at hq
  split at hq
  · -- a list that is referred to
    rename_i el _ r p j off sz n k hel hx hk
    split at hq
    · rename_i hc
      obtain ⟨hse, h0, hlt, hsz, hok⟩ := hc
      obtain ⟨ti, d, zz, hf⟩ := hty.facts hse
      have hd := hf.slice hel
      subst hd
      simp only [Option.some.injEq, Prod.mk.injEq] at hq
      obtain ⟨rfl, rfl⟩ := hq
      obtain ⟨aG, haG, hav, haok, har⟩ := opv_c h ha hx
      obtain ⟨v, rfl⟩ := er_bor haG
      obtain ⟨kk, hkv⟩ := opv_int h ha hk
      obtain ⟨ti2, d2, zz2, hf2⟩ := hty.facts hok
      simp only [okC, BorOk] at haok
      obtain ⟨b, m, ds, hat, hl, hh⟩ := haok
      rcases hh with ⟨_, _, hn⟩ | ⟨ad, cap, rfl, hw⟩
      · omega
      · obtain ⟨ad2, cap2, rfl, hc2, hs2, hb2, hor⟩ := hw
        have hcap : cap2 ≠ 0 := by omega
        obtain ⟨ho2, _⟩ := hor.resolve_left hcap
        refine ⟨S, .c (.ptr (.pointer (some ⟨ad.block, ad.off + (off + k.toNat * sz), none⟩)) r (p ++ [j]) (off + k.toNat * sz)), ?_, ?_⟩
        · refine QRes.ref (c := .ptr (.pointer (some ⟨ad.block, ad.off + (off + k.toNat * sz), none⟩)) r (p ++ [j]) (off + k.toNat * sz)) h ?_ (by simp [blkC]) (fun d' hd' => har d' (by simpa [refsC] using hd'))
          simp only [okC, PtrOk]
          refine ⟨ad, ?_, rfl⟩
          simp [placeAd, hdrAt, hat]
        · have hszr : ∀ w', (sizeOf el).run Pr w' = .ok sz w' := by intro w'; rw [hsz]; simp [sizeOf, typeInfo, hf2.info, hf2.size]
          have hadd : ad2.add (k.toNat * sz) = ⟨ad.block, ad.off + (off + k.toNat * sz), none⟩ := by
            rw [pt_eta hs2, hb2, ho2, Nat.add_assoc]
          simp only [valC] at hav
          intro w'
          simp [execOp, ho, hav, hkv, Instr.indexAt, asIntOf, run_underlying hf.und, h0, hlt, hszr, hadd, valX, valC]
    · cases hq
  · rename_i el _ tag sz n cs k hel hx hk
    split at hq
    · rename_i hc
      obtain ⟨hse, h0, hlt, hsz, hok⟩ := hc
      obtain ⟨ti, d, zz, hf⟩ := hty.facts hse
      have hd := hf.slice hel
      subst hd
      simp only [Option.some.injEq, Prod.mk.injEq] at hq
      obtain ⟨rfl, rfl⟩ := hq
      obtain ⟨aG, haG, hav, haok, har⟩ := opv_c h ha hx
      obtain ⟨u, rfl, hu⟩ := er_t haG
      obtain ⟨v, ds, rfl, rfl⟩ := er_sl hu
      obtain ⟨kk, hkv⟩ := opv_int h ha hk
      obtain ⟨ti2, d2, zz2, hf2⟩ := hty.facts hok
      simp only [okC, okT, Nat.add_eq_zero_iff, Nat.succ_ne_self, and_false, if_false] at haok
      obtain ⟨hl, hts, ⟨A, cap, rfl, hc2, hor⟩, htag, hsh⟩ := haok
      obtain ⟨ad, rfl, hs2, hR, hcells⟩ := hor.resolve_left (by omega)
      have hRR : R ad.block := by
        exact h.PR _ _ hR
      refine ⟨S, .c (.rptr (.pointer (some (ad.add (k.toNat * sz)))) (ds.drop (k.toNat * sz))), ?_, ?_⟩
      · have := QRes.ref (c := .rptr (.pointer (some (ad.add (k.toNat * sz)))) (ds.drop (k.toNat * sz))) h ?_ (by simp [blkC]) (by simp [refsC])
        · simpa [erC, mapC, mapTs_eq, er0, List.map_drop] using this
        · simp only [okC]
          refine ⟨okTs_drop hts, shTs_drop (shTs_le htag hsh), _, rfl, by rw [pt_eta hs2], .inr ?_⟩
          rw [pt_eta hs2]
          exact ⟨hRR, by rw [List.map_drop]; exact cellsAt_drop hcells _⟩
      · have hszr : ∀ w', (sizeOf el).run Pr w' = .ok sz w' := by intro w'; rw [hsz]; simp [sizeOf, typeInfo, hf2.info, hf2.size]
        simp only [valC, valT] at hav
        intro w'
        simp [execOp, ho, hav, hkv, Instr.indexAt, asIntOf, run_underlying hf.und, h0, hlt, hszr, valX, valC]
    · cases hq
  · cases hq
theorem indexAddr_ok (hty : TyOk Pr cx.ty) (h : Rel (isVar cx f) w0 E0 P R ea w S tmps) (ha : a.tmps = tmps) {o : Oper} {e : Nat} {x i : Operand} (ho : o.op = .indexAddr e x i) {z : XU} {Su : SU}
    (hq : qval cx f call (V.erS S) o.type (.indexAddr e x i) = some (z, Su)) : QOkW cx f w0 E0 P R ea w tmps Pr a o z Su := (indexAddr_okA hty h ha ho hq).ww

theorem mem_flatX : ∀ {xs : List XV} {c : CV}, c ∈ flatX xs → ∀ r ∈ refsC c, r ∈ refsXs xs
  | [], c, hc, r, hr => by simp [flatX] at hc
  | x :: xs, c, hc, r, hr => by
    simp only [refsXs, List.mem_append]
    cases x with
    | c x =>
      simp only [flatX, List.mem_cons] at hc
      rcases hc with rfl | hc
      · exact .inl (by simpa [refsX] using hr)
      · exact .inr (mem_flatX hc r hr)
    | agg cs =>
      simp only [flatX, List.mem_append] at hc
      rcases hc with hc | hc
      · refine .inl ?_
        simp only [refsX, refsCs_eq, List.mem_flatMap]
        exact ⟨c, hc, hr⟩
      · exact .inr (mem_flatX hc r hr)
    | _ => exact .inr (mem_flatX (by simpa [flatX] using hc) r hr)

theorem Rel.root_refs (h : Rel (isVar cx f) w0 E0 P R ea w S tmps) {r : Root} {cs : List CV} (hr : rootCells S r = some cs) {c : CV} (hc : c ∈ cs) : ∀ d', Root.sl d' ∈ refsC c → isVar cx f d' = true := by
  intro d' hd'
  have hmem : ∀ cs : List CV, c ∈ cs → Root.sl d' ∈ refsCs cs := fun cs hc => by
    rw [refsCs_eq, List.mem_flatMap]; exact ⟨c, hc, hd'⟩
  cases r with
  | sl d =>
    simp only [rootCells] at hr
    refine h.refS d d' ?_
    cases hs : S.s d with
    | undef => simp [hs] at hr
    | c x =>
      simp only [hs, Option.some.injEq] at hr; subst hr
      simp only [List.mem_singleton] at hc; subst hc
      simpa [refsX] using hd'
    | agg xs => simp only [hs, Option.some.injEq] at hr; subst hr; simpa [refsX] using hmem _ hc
    | box b xs => simp only [hs, Option.some.injEq] at hr; subst hr; simpa [refsX] using hmem _ hc
    | tup xs => simp only [hs, Option.some.injEq] at hr; subst hr; simpa [refsX] using mem_flatX hc _ hd'
  | ex j => exact h.refE j cs d' hr (hmem _ hc)

theorem Rel.at_refs (h : Rel (isVar cx f) w0 E0 P R ea w S tmps) {r : Root} {p : List Nat} {i : Nat} {c : CV} (hat : at_ S r p i = some c) : ∀ d', Root.sl d' ∈ refsC c → isVar cx f d' = true := by
  by_cases he : p = []
  · subst he
    simp only [at_] at hat
    cases hr : rootCells S r with
    | none => simp [hr] at hat
    | some cs =>
      simp only [hr, Option.bind_some, subC] at hat
      exact h.root_refs hr (List.mem_of_getElem? hat)
  · rw [dropLast_snoc he, at_snoc] at hat
    split at hat
    · rename_i ds _
      cases hj : ds[i]? with
      | none => simp [hj] at hat
      | some x =>
        simp only [hj, Option.map_some, Option.some.injEq] at hat
        subst hat
        intro d' hd'
        simp [refsC] at hd'
    · cases hat

theorem loadN_ok (h : Rel (isVar cx f) w0 E0 P R ea w S tmps) {r : Root} {p : List Nat} (hv : ∀ d', r = .sl d' → isVar cx f d' = true) : ∀ {n off : Nat} {cs : List CV}, loadN S r p off n = some cs →
    cs.length = n ∧ okCs w P R S ea cs ∧ blkCs cs = [] ∧ (∀ d', Root.sl d' ∈ refsCs cs → isVar cx f d' = true) ∧
    ∀ ad, placeAd S ea r p = some ad → ∀ j c, cs[j]? = some c → w.cell? ⟨ad.block, ad.off + off + j, none⟩ = some (valC c)
  | 0, off, cs, hl => by
    simp only [loadN, Option.some.injEq] at hl
    subst hl
    simp [okCs, blkCs, refsCs]
  | n + 1, off, cs, hl => by
    simp only [loadN] at hl
    cases hat : at_ S r p off with
    | none => simp [hat] at hl
    | some c =>
      simp only [hat, Option.bind_some] at hl
      cases hn : loadN S r p (off + 1) n with
      | none => simp [hn] at hl
      | some ds =>
        simp only [hn, Option.map_some, Option.some.injEq] at hl
        subst hl
        obtain ⟨i1, i2, i3, i4, i5⟩ := loadN_ok h hv hn
        obtain ⟨k1, k2, k3, k4⟩ := rdc_ok hat (h.at_ok hat)
        refine ⟨by simp [i1], ⟨k1, i2⟩, by simp [blkCs, k3, i3], ?_, ?_⟩
        · intro d' hd'
          simp only [refsCs, List.mem_append] at hd'
          rcases hd' with hd' | hd'
          · rcases k4 _ hd' with e | e
            · exact hv d' e.symm
            · exact h.at_refs hat d' e
          · exact i4 d' hd'
        · intro ad had j c' hj
          cases j with
          | zero =>
            simp only [List.getElem?_cons_zero, Option.some.injEq] at hj
            subst hj
            rw [k2, Nat.add_zero]
            exact (h.cell_at had hat).1
          | succ j =>
            simp only [List.getElem?_cons_succ] at hj
            have := i5 ad had j c' hj
            rwa [show ad.off + (off + 1) + j = ad.off + off + (j + 1) by omega] at this

theorem run_isAgg (t : TypeId) (d : TypeDesc) (hd : Pr.underlying t = some d) : (isAgg t).run Pr w = .ok (isAggD d) w := by
  cases d <;> simp [isAgg, run_underlying hd, isAggD]

theorem mkX_ok {t : Nat} {cs : List CV} {x : XU} (hx : mkX cx t (cs.map erC) = some x) :
    ∃ xG, erX xG = x ∧ (((cx.ty t).agg = true ∧ cs.length = (cx.ty t).sz ∧ xG = .agg cs) ∨ ((cx.ty t).agg = false ∧ ∃ c, cs = [c] ∧ xG = .c c)) := by
  simp only [mkX, List.length_map] at hx
  split at hx
  · rename_i hagg
    split at hx
    · rename_i hl
      simp only [Option.some.injEq] at hx
      subst hx
      exact ⟨.agg cs, by simp [erX, mapX, mapCs_eq], .inl ⟨hagg, hl, rfl⟩⟩
    · cases hx
  · rename_i hagg
    cases cs with
    | nil => simp at hx
    | cons c cs =>
      cases cs with
      | nil =>
        simp only [List.map_cons, List.map_nil, Option.some.injEq] at hx
        subst hx
        exact ⟨.c c, by simp [erX, mapX, erC], .inr ⟨by simpa using hagg, c, rfl, rfl⟩⟩
      | cons c' cs => simp at hx

theorem run_load_cells (hty : TyOk Pr cx.ty) {e : Nat} (he : (cx.ty e).ok = true) {b o : Nat} {cs : List CV} {xG : XV} (hl : cs.length = (cx.ty e).sz)
    (hc : ∀ j c, cs[j]? = some c → w.cell? ⟨b, o + j, none⟩ = some (valC c))
    (hx : ((cx.ty e).agg = true ∧ cs.length = (cx.ty e).sz ∧ xG = .agg cs) ∨ ((cx.ty e).agg = false ∧ ∃ c, cs = [c] ∧ xG = .c c)) :
    (Instr.loadAt e (.pointer (some ⟨b, o, none⟩))).run Pr w = .ok (valX xG) w := by
  obtain ⟨ti, d, zz, hf⟩ := hty.facts he
  have hsz : (sizeOf e).run Pr w = .ok (cs.map valC).length w := by simp [sizeOf, typeInfo, hf.info, hf.size, hl]
  have hlc : (loadCells ⟨b, o, none⟩ (cs.map valC).length).run Pr w = .ok (cs.map valC).toArray w := by
    refine run_loadCells_list w _ _ ?_
    intro j v hj
    rw [List.getElem?_map] at hj
    cases hcj : cs[j]? with
    | none => simp [hcj] at hj
    | some c =>
      simp only [hcj, Option.map_some, Option.some.injEq] at hj
      subst hj
      rw [Addr.add_lit]
      exact hc j c hcj
  rcases hx with ⟨hagg, _, rfl⟩ | ⟨hagg, c, rfl, rfl⟩
  · have h1 := run_isAgg (w := w) e d hf.und
    rw [hf.agg, hagg] at h1
    simp [Instr.loadAt, Instr.sureAddr, loadVar, h1, hsz, hlc, valX, valCs_eq]
    simp only [List.length_map] at hlc
    simp [hlc]
  · have h1 := run_isAgg (w := w) e d hf.und
    rw [hf.agg, hagg] at h1
    have := hc 0 c rfl
    simp only [Nat.add_zero] at this
    simp [Instr.loadAt, Instr.sureAddr, loadVar, h1, this, valX]

theorem load_ok (hty : TyOk Pr cx.ty) (h : Rel (isVar cx f) w0 E0 P R ea w S tmps) (ha : a.tmps = tmps) {o : Oper} {e : Nat} {x : Operand} (ho : o.op = .load e x) {z : XU} {Su : SU}
    (hq : qval cx f call (V.erS S) o.type (.load e x) = some (z, Su)) : QOkW cx f w0 E0 P R ea w tmps Pr a o z Su := by
  simp only [qval] at hq
  split at hq
  · rename_i _ r p off hx
    split at hq
    · rename_i hok
      obtain ⟨aG, haG, hav, haok, har⟩ := opv_c h ha hx
      obtain ⟨v, rfl⟩ := er_ptr haG
      simp only [okC, PtrOk] at haok
      obtain ⟨ad, had, rfl⟩ := haok
      rw [show V.erS S = mapS er0 S from rfl, loadN_map] at hq
      cases hl : loadN S r p off (cx.ty e).sz with
      | none => simp [hl] at hq
      | some cs =>
        simp only [hl, Option.map_some, Option.bind_some] at hq
        cases hm : mkX cx e (cs.map erC) with
        | none => simp [hm] at hq
        | some x' =>
          simp only [hm, Option.map_some, Option.some.injEq, Prod.mk.injEq] at hq
          obtain ⟨rfl, rfl⟩ := hq
          obtain ⟨l1, l2, l3, l4, l5⟩ := loadN_ok h (fun d' e' => har d' (by simp [refsC, e'])) hl
          obtain ⟨xG, hx1, hx2⟩ := mkX_ok hm
          have hxp : okX w P R S ea xG ∧ blkX xG = [] ∧ refsX xG = refsCs cs := by
            rcases hx2 with ⟨_, _, rfl⟩ | ⟨_, c, rfl, rfl⟩
            · exact ⟨by simpa [okX] using l2, by simpa [blkX] using l3, by simp [refsX]⟩
            · exact ⟨by simpa [okX] using l2.1, by simpa [blkX, blkCs] using l3, by simp [refsX, refsCs]⟩
          obtain ⟨p1, p2, p3⟩ := hxp
          refine ⟨S, xG, ⟨Grow.refl w, hx1, rfl, h, p1, fun d' hd' => l4 d' (p3 ▸ hd'), by rw [p2]; exact List.nodup_nil, fun r b hb => by rw [p2] at hb; simp at hb, fun b hb => by rw [p2] at hb; simp at hb, fun b hb => by rw [p2] at hb; simp at hb, fun b hb => by rw [p2] at hb; simp at hb⟩, ?_⟩
          simp only [valC] at hav
          have hr := run_load_cells (Pr := Pr) (w := w) hty hok l1 (fun j c hj => l5 ad had j c hj) hx2
          simp [execOp, ho, hav, hr]
    · cases hq
  · rename_i _ cs hx
    split at hq
    · rename_i hok
      obtain ⟨hok, hn⟩ := hok
      obtain ⟨aG, haG, hav, haok, har⟩ := opv_c h ha hx
      obtain ⟨v, ds, rfl, rfl⟩ := er_rptr haG
      simp only [okC] at haok
      obtain ⟨h1, h2, ad, rfl, h4, h5⟩ := haok
      have hmm : ((ds.map erT).take (cx.ty e).sz).map C.t = (((ds.take (cx.ty e).sz).map C.t).map erC : List CU) := by
        rw [← List.map_take, List.map_map, List.map_map]; rfl
      rw [hmm] at hq
      cases hm : mkX cx e (((ds.take (cx.ty e).sz).map C.t).map erC) with
      | none => rw [hm] at hq; simp at hq
      | some x' =>
        rw [hm] at hq
        simp only [Option.map_some, Option.some.injEq, Prod.mk.injEq] at hq
        obtain ⟨rfl, rfl⟩ := hq
        simp only [List.length_map] at hn
        have l2 : okCs w P R S ea ((ds.take (cx.ty e).sz).map C.t) := okCs_iff.2 fun c hc => by
          obtain ⟨y, hy, rfl⟩ := List.mem_map.1 hc
          simp only [okC]
          exact okTs_iff.1 (okTs_take h1) y hy
        have l3 : blkCs ((ds.take (cx.ty e).sz).map C.t) = [] := by
          rw [blkCs_eq, List.flatMap_eq_nil_iff]
          intro c hc
          obtain ⟨y, hy, rfl⟩ := List.mem_map.1 hc
          simp only [blkC]
          exact blk_of_sh (shTs_iff.1 (shTs_take h2) y hy)
        have l4 : refsCs ((ds.take (cx.ty e).sz).map C.t) = [] := by
          rw [refsCs_eq, List.flatMap_eq_nil_iff]
          intro c hc
          obtain ⟨y, hy, rfl⟩ := List.mem_map.1 hc
          simp [refsC]
        obtain ⟨xG, hx1, hx2⟩ := mkX_ok hm
        have hxp : okX w P R S ea xG ∧ blkX xG = [] ∧ refsX xG = [] := by
          rcases hx2 with ⟨_, _, rfl⟩ | ⟨_, c, he, rfl⟩
          · exact ⟨by simpa [okX] using l2, by simpa [blkX] using l3, by simpa [refsX] using l4⟩
          · rw [he] at l2 l3 l4
            exact ⟨by simpa [okX] using l2.1, by simpa [blkX, blkCs] using l3, by simpa [refsX, refsCs] using l4⟩
        refine ⟨S, xG, ⟨Grow.refl w, hx1, rfl, h, New.plain hxp.1 hxp.2.1 hxp.2.2⟩, ?_⟩
        simp only [valC] at hav
        have hadl : ad = ⟨ad.block, ad.off, none⟩ := by obtain ⟨b, o', s⟩ := ad; simp only at h4; subst h4; rfl
        have hcells : ∀ j c, ((ds.take (cx.ty e).sz).map C.t)[j]? = some c → w.cell? ⟨ad.block, ad.off + j, none⟩ = some (valC c) := by
          intro j c hj
          rcases h5 with rfl | ⟨_, h6⟩
          · simp at hj
          · refine cellsAt_take h6 (cx.ty e).sz j (valC c) ?_
            rw [List.getElem?_map] at hj
            rw [← List.map_take, List.getElem?_map]
            cases hd : (ds.take (cx.ty e).sz)[j]? with
            | none => simp [hd] at hj
            | some y => simp only [hd, Option.map_some, Option.some.injEq] at hj ⊢; subst hj; rfl
        have hr := run_load_cells (Pr := Pr) (w := w) hty hok (by simp [List.length_take, Nat.min_eq_left hn]) hcells hx2
        rw [← hadl] at hr
        simp [execOp, ho, hav, hr]
    · cases hq
  · cases hq
end
end Go.Proofs.YtlkjnlfddadlmaaDoor.V
