/-
  The data of the lifted semantics, and the evaluator: Go code run over trees, without memory and without addresses. No conditions.
-/
import Derived.Calls
import GoSem.ClaimData
import Derived.Below
import Derived.KernelRfl
import Derived.Laws.Rows
import Derived.Laws.CopyRow
import Derived.Laws.NewFold
import Derived.ChangeKeysEq
import Derived.Laws.Cover1
import Derived.Laws.StructEq
import Derived.Laws.BytesString
import Derived.Lib.Strings
import Derived.Laws.MakeOwn
set_option linter.unusedVariables false
set_option linter.unusedSimpArgs false
namespace Go.Proofs.Ytlkjnlfddadlmaa.V
inductive T (α : Type) where
 | int (k : IntKind) (n : Int)
 | bool (b : Bool)
 | str (s : List UInt8)
 | sl (a : α) (tag : Nat) (sz : Nat) (n : Nat) (cs : List (T α))
 | dead (a : α)
 | nili
 | ifc (a : α)
inductive Root where
 | sl (d : Nat)
 | ex (j : Nat)
 deriving DecidableEq
inductive C (α : Type) where
 | t (x : T α)
 | ptr (a : α) (r : Root) (p : List Nat) (off : Nat)
 | bor (a : α) (r : Root) (p : List Nat) (i off sz n : Nat)
 | rptr (a : α) (cs : List (T α))
 | nilp
 | fn (f : Nat) (caps : List (C α))
 | nilf
 | lst (a : α) (sz n : Nat) (cs : List (C α))
inductive X (α : Type) where
 | c (x : C α)
 | agg (cs : List (C α))
 | box (a : α) (cs : List (C α))
 | tup (xs : List (X α))
 | undef
structure St (α : Type) where
 s : Nat → X α
 e : List (List (C α))
abbrev TU := T Unit
abbrev CU := C Unit
abbrev XU := X Unit
abbrev SU := St Unit
structure Ty where
 ok : Bool
 sz : Nat
 agg : Bool
 zs : List CU
 fs : List (Nat × Nat)
 el : Option Nat
 bytes : Nat
 flat : Bool
 kind : Nat
variable {α : Type}
def upd {β : Type} (f : Nat → β) (d : Nat) (x : β) : Nat → β := fun i => if i = d then x else f i
def sub : List (T α) → List Nat → Option (List (T α))
 | cs, [] => some cs
 | cs, i :: p => match cs[i]? with
  | some (.sl _ 0 _ _ ds) => sub ds p
  | _ => none
def xK : List (T α) → List Nat → Nat → T α → Option (List (T α))
 | cs, [], off, y => if off < cs.length then some (cs.set off y) else none
 | cs, i :: p, off, y => match cs[i]? with
  | some (.sl a 0 sz n ds) => (xK ds p off y).map fun ds' => cs.set i (.sl a 0 sz n ds')
  | _ => none
def xA : List (C α) → List Nat → Option (List (C α))
 | cs, [] => some cs
 | cs, i :: p => match cs[i]? with
  | some (.t (.sl _ 0 _ _ ds)) => (sub ds p).map (·.map .t)
  | _ => none
def wJ : List (C α) → List Nat → Nat → C α → Option (List (C α))
 | cs, [], off, y => if off < cs.length then some (cs.set off y) else none
 | cs, i :: p, off, .t y => match cs[i]? with
  | some (.t (.sl a 0 sz n ds)) => (xK ds p off y).map fun ds' => cs.set i (.t (.sl a 0 sz n ds'))
  | _ => none
 | _, _ :: _, _, _ => none
def zU : List (X α) → List (C α)
 | [] => []
 | .c x :: xs => x :: zU xs
 | .agg cs :: xs => cs ++ zU xs
 | _ :: xs => zU xs
def yH : List (X α) → List (C α) → List (X α)
 | [], _ => []
 | .c x :: xs, cs => .c (cs.head?.getD x) :: yH xs cs.tail
 | .agg ds :: xs, cs => .agg (cs.take ds.length) :: yH xs (cs.drop ds.length)
 | x :: xs, cs => x :: yH xs cs
def zA (S : St α) : Root → Option (List (C α))
 | .sl d => match S.s d with
  | .box _ cs => some cs
  | .c x => some [x]
  | .agg cs => some cs
  | .tup xs => some (zU xs)
  | _ => none
 | .ex j => S.e[j]?
def at_ (S : St α) (r : Root) (p : List Nat) (off : Nat) : Option (C α) :=
 ((zA S r).bind (xA · p)).bind (·[off]?)
def rdc (r : Root) (p : List Nat) (i : Nat) : C α → C α
 | .t (.sl a 0 sz n _) => .bor a r p i 0 sz n
 | .lst a _ _ _ => .t (.dead a)
 | c => c
def j8 (S : St α) (r : Root) (p : List Nat) (off : Nat) : Nat → Option (List (C α))
 | 0 => some []
 | n + 1 => (at_ S r p off).bind fun c => (j8 S r p (off + 1) n).map fun cs => rdc r p off c :: cs
def qH : X α → List (C α) → X α
 | .box a _, cs => .box a cs
 | .c _, [x] => .c x
 | .agg _, cs => .agg cs
 | .tup xs, cs => .tup (yH xs cs)
 | x, _ => x
def zM (S : St α) (r : Root) (cs : List (C α)) : St α :=
 match r with
 | .sl d => { S with s := upd S.s d (qH (S.s d) cs) }
 | .ex j => { S with e := S.e.set j cs }
def z9 (S : St α) (r : Root) (p : List Nat) (off : Nat) (c : C α) : Option (St α) :=
 (zA S r).bind fun cs => (wJ cs p off c).map (zM S r)
def pre : List Nat → List Nat → Bool
 | [], _ => true
 | x :: xs, y :: ys => x == y && pre xs ys
 | _ :: _, [] => false
mutual
def zT (r : Root) (q : List Nat) : C α → C α
 | .ptr a r' p off => if r = r' ∧ pre q p then .t (.dead a) else .ptr a r' p off
 | .bor a r' p i off sz n => if r = r' ∧ pre q (p ++ [i]) then .t (.dead a) else .bor a r' p i off sz n
 | .fn f caps => .fn f (yV r q caps)
 | .t x => .t x
 | .rptr a cs => .rptr a cs
 | .nilp => .nilp
 | .nilf => .nilf
 | .lst a sz n cs => .lst a sz n (yV r q cs)
def yV (r : Root) (q : List Nat) : List (C α) → List (C α)
 | [] => []
 | c :: cs => zT r q c :: yV r q cs
end
mutual
def z7 (r : Root) (q : List Nat) : X α → X α
 | .c x => .c (zT r q x)
 | .agg cs => .agg (yV r q cs)
 | .box a cs => .box a (yV r q cs)
 | .tup xs => .tup (xB r q xs)
 | .undef => .undef
def xB (r : Root) (q : List Nat) : List (X α) → List (X α)
 | [] => []
 | x :: xs => z7 r q x :: xB r q xs
end
def kill (r : Root) (q : List Nat) (S : St α) : St α := { s := fun i => z7 r q (S.s i), e := S.e.map (yV r q) }
mutual
def retag : T α → T α
 | .sl a tag sz n cs => .sl a (tag + 1) sz n (zI cs)
 | .int k n => .int k n
 | .bool b => .bool b
 | .str s => .str s
 | .dead a => .dead a
 | .nili => .nili
 | .ifc a => .ifc a
def zI : List (T α) → List (T α)
 | [] => []
 | x :: xs => retag x :: zI xs
end
mutual
def up : T α → T α
 | .sl a tag sz n cs => .sl a (if tag = 0 then 0 else tag + 1) sz n (ups cs)
 | .int k n => .int k n
 | .bool b => .bool b
 | .str s => .str s
 | .dead a => .dead a
 | .nili => .nili
 | .ifc a => .ifc a
def ups : List (T α) → List (T α)
 | [] => []
 | x :: xs => up x :: ups xs
end
mutual
def down : T α → Option (T α)
 | .sl a tag sz n cs => if tag = 1 then none else (yT cs).map fun ds => .sl a (tag - 1) sz n ds
 | .int k n => some (.int k n)
 | .bool b => some (.bool b)
 | .str s => some (.str s)
 | .dead a => some (.dead a)
 | .nili => some .nili
 | .ifc a => some (.ifc a)
def yT : List (T α) → Option (List (T α))
 | [] => some []
 | x :: xs => (down x).bind fun y => (yT xs).map fun ys => y :: ys
end
def qF (S : St α) (r : Root) (p : List Nat) (i off m : Nat) : Option (List (T α)) :=
 match at_ S r p i with
 | some (.t (.sl _ 0 _ _ ds)) => if off + m ≤ ds.length then some ((ds.drop off).take m) else none
 | _ => none
def qJ : C α → Bool
 | .t (.sl _ 0 _ _ _) => true
 | .lst _ _ _ _ => true
 | _ => false
def zPu : X α → Bool
 | .c x => qJ x
 | .agg cs => cs.any qJ
 | .box _ _ => true
 | .tup _ => true
 | .undef => false
def yO : X α → Bool
 | .c x => qJ x
 | .agg cs => cs.any qJ
 | .box _ _ => true
 | .tup xs => xs.any zPu
 | .undef => false
def xP (S : St α) (a : α) (r : Root) (p : List Nat) (i off sz n : Nat) : Option (T α × St α) :=
 match at_ S r p i with
 | some (.t (.sl b 0 sz' _ ds)) => if off + n * sz ≤ ds.length ∧ sz = sz' ∧ 0 < sz then
   (z9 S r p i (.t (.dead b))).map fun S' => (.sl a 0 sz n ((ds.drop off).take (n * sz)), kill r (p ++ [i]) S')
  else none
 | _ => none
end Go.Proofs.Ytlkjnlfddadlmaa.V
namespace Go.Proofs.Ytlkjnlfddadlmaa.V
structure Ctx where
 ty : Nat → Ty
 th : Nat → Nat
 vs : Nat → List Nat
 ts : Nat → List Nat
 act : Nat → Bool
 plc : Nat → List Nat
 nst : Nat → Bool
 tke : Nat → Bool
 dpt : Nat → Nat
 mov : Nat → List Nat
 good : Nat → Bool
 ord : Nat → Nat → Nat → Bool
 shr : Nat → Nat → Nat → List Nat
 pnd : Nat → Nat → Nat → List Nat
 pal : Nat → Nat → Nat → List Nat
 prm : Nat → Nat → List Nat
 tl : Nat → Nat → Option Nat
 orc : Nat → Option (List XU → Option XU)
 gro : Nat → Option (Nat × Nat)
def zEj : CU → Value → Bool
 | .t (.int k n), .int k' m => decide (k = k') && decide (n = m)
 | .t (.bool b), .bool c => b == c
 | .t (.str []), .string s => s.data == #[]
 | .t (.sl _ 0 _ 0 []), .slice none 0 0 => true
 | .t .nili, .nilIface => true
 | .nilp, .pointer none => true
 | .nilf, .nilFunc => true
 | _, _ => false
def jK : List CU → List Value → Bool
 | [], [] => true
 | c :: cs, v :: vs => zEj c v && jK cs vs
 | _, _ => false
section
variable (cx : Ctx) (f : Nat)
def zM4 (t : Nat) : Bool := decide (t < cx.th f) || (cx.vs f).contains t
def zB (t : Nat) : Bool := zM4 cx f t || (cx.ts f).contains t
def elSz (t : Nat) : Nat := match (cx.ty t).el with | some e => (cx.ty e).sz | none => 0
def sF (t : Nat) : Value → Option XU
 | .int k n => some (.c (.t (.int k n)))
 | .bool b => some (.c (.t (.bool b)))
 | .string s => some (.c (.t (.str s.data.toList)))
 | .slice none 0 0 => if (cx.ty t).ok then some (.c (.t (.sl () 0 (elSz cx t) 0 []))) else none
 | .nilIface => some (.c (.t .nili))
 | .pointer none => some (.c .nilp)
 | .nilFunc => some (.c .nilf)
 | .agg vs => if (cx.ty t).agg && jK (cx.ty t).zs vs.toList then some (.agg (cx.ty t).zs) else none
 | _ => none
def mQ {α : Type} (r : Root) (i : Nat) : List (C α) → List (C α)
 | [] => []
 | c :: cs => rdc r [] i c :: mQ r (i + 1) cs
def rdS {α : Type} (v : Bool) (t : Nat) : X α → Option (X α)
 | .undef => none
 | .box a cs => if v then some (.c (.ptr a (.sl t) [] 0)) else some (.box a cs)
 | .c x => if v then some (.c (rdc (.sl t) [] 0 x)) else some (.c x)
 | .agg cs => if v then some (.agg (mQ (.sl t) 0 cs)) else some (.agg cs)
 | .tup xs => if v then none else some (.tup xs)
def opv (S : SU) (t : Nat) : Operand → Option XU
 | .tmp d => rdS (zB cx f d) d (S.s d)
 | .const v => sF cx t v
 | .func g => some (.c (.fn g []))
 | .global _ => none
def clr {α : Type} (S : St α) : Operand → St α
 | .tmp d => if zB cx f d then S else if yO (S.s d) then { S with s := upd S.s d .undef } else S
 | _ => S
def put (S : SU) (dst : Option Nat) (x : XU) : SU :=
 match dst with
 | some d => { S with s := upd S.s d x }
 | none => S
def j3 : XU → Option (List CU)
 | .c x => some [x]
 | .agg cs => some cs
 | _ => none
def mkX (t : Nat) (cs : List CU) : Option XU :=
 if (cx.ty t).agg then (if cs.length = (cx.ty t).sz then some (.agg cs) else none) else match cs with
  | [x] => some (.c x)
  | _ => none
def dW : Option XU → Option Int
 | some (.c (.t (.int _ n))) => some n
 | _ => none
def gQ : Option XU → Option Bool
 | some (.c (.t (.bool b))) => some b
 | _ => none
def bvOp (op : BinOp) (k : IntKind) (x y : Int) : Option TU :=
 let a := BitVec.ofInt k.bits x
 let b := BitVec.ofInt k.bits y
 match op with
 | .and => some (.int k (k.wrap (a &&& b).toNat))
 | .or => some (.int k (k.wrap (a ||| b).toNat))
 | .xor => some (.int k (k.wrap (a ^^^ b).toNat))
 | .andNot => some (.int k (k.wrap (a &&& ~~~b).toNat))
 | _ => none
def zCg (op : BinOp) (k : IntKind) (x y : Int) : Option TU :=
 match op with
 | .add => some (.int k (k.wrap (x + y)))
 | .sub => some (.int k (k.wrap (x - y)))
 | .mul => some (.int k (k.wrap (x * y)))
 | .quo => if y = 0 then none else some (.int k (k.wrap (x.tdiv y)))
 | .rem => if y = 0 then none else some (.int k (x.tmod y))
 | .eql => some (.bool (x == y))
 | .neq => some (.bool (x != y))
 | .lss => some (.bool (decide (x < y)))
 | .leq => some (.bool (decide (x ≤ y)))
 | .gtr => some (.bool (decide (x > y)))
 | .geq => some (.bool (decide (x ≥ y)))
 | op => bvOp op k x y
def zLp (op : BinOp) (k : IntKind) (x y : Int) : Option TU :=
 if y < 0 then none else match op with
  | .shl => some (.int k (k.wrap (x * 2 ^ (min y.toNat k.bits))))
  | .shr => some (.int k (x.fdiv (2 ^ (min y.toNat k.bits))))
  | _ => none
def zGz (op : BinOp) (x y : List UInt8) : Option TU :=
 match op with
 | .add => if x.length + y.length ≤ maxLen then some (.str (x ++ y)) else none
 | .eql => some (.bool (x == y))
 | .neq => some (.bool (!(x == y)))
 | .lss => some (.bool (Op.bytesLess x y))
 | .leq => some (.bool (Op.bytesLess x y || x == y))
 | .gtr => some (.bool (!(Op.bytesLess x y || x == y)))
 | .geq => some (.bool (!Op.bytesLess x y))
 | _ => none
def nT (op : BinOp) (same : Bool) : Option TU :=
 match op with
 | .eql => some (.bool same)
 | .neq => some (.bool (!same))
 | _ => none
def sB (kd : Nat) (kc : Bool) (op : BinOp) : CU → CU → Option TU
 | .t (.int k x), .t (.int k' y) => match op with
  | .shl => zLp .shl k x y
  | .shr => zLp .shr k x y
  | op => if k = k' then zCg op k x y else none
 | .t (.str x), .t (.str y) => zGz op x y
 | .t (.bool x), .t (.bool y) => if kd = 5 then nT op (x == y) else none
 | .nilp, .nilp => if kd = 6 then nT op true else none
 | .nilp, .ptr _ _ _ _ => if kd = 6 then nT op false else none
 | .ptr _ _ _ _, .nilp => if kd = 6 then nT op false else none
 | .t .nili, .t .nili => if kd = 7 && kc then nT op true else none
 | .t .nili, .t (.ifc _) => if kd = 7 then nT op false else none
 | .t (.ifc _), .t .nili => if kd = 7 then nT op false else none
 | _, _ => none
def unV (op : UnOp) : CU → Option TU
 | .t (.bool b) => if op = .not then some (.bool (!b)) else none
 | .t (.int k n) => match op with
  | .neg => some (.int k (k.wrap (0 - n)))
  | _ => none
 | _ => none
def zE0 (b : UInt8) : TU := .int .u8 b.toNat
def zHr : TU → Option UInt8
 | .int .u8 n => some n.toNat.toUInt8
 | _ => none
mutual
def qR (S : SU) : CU → Option CU
 | .t x => some (.t (retag x))
 | .bor _ r p i off sz n => if 0 < sz then (qF S r p i off (n * sz)).map fun ds => .t (.sl () 1 sz n (zI ds)) else none
 | .rptr a cs => some (.rptr a (zI cs))
 | .nilp => some .nilp
 | .nilf => some .nilf
 | .fn g [] => some (.fn g [])
 | .lst _ sz n cs => (jY S cs).bind fun ds => (nA ds).map fun ts => .t (.sl () 1 sz n ts)
 | _ => none
def jY (S : SU) : List CU → Option (List CU)
 | [] => some []
 | c :: cs => (qR S c).bind fun x => (jY S cs).map fun xs => x :: xs
def nA : List CU → Option (List TU)
 | [] => some []
 | .t x :: cs => (nA cs).map fun xs => x :: xs
 | _ => none
end
def dP (S : SU) : XU → Option XU
 | .c x => (qR S x).map .c
 | .agg cs => (jY S cs).map .agg
 | _ => none
mutual
def yU : CU → SU → Option (TU × SU)
 | .t x, S => some (x, S)
 | .bor a (.sl d) p i off sz n, S => xP S a (.sl d) p i off sz n
 | .lst a sz n cs, S => (x7 cs S).map fun r => (.sl a 0 sz n r.1, r.2)
 | _, _ => none
def x7 : List CU → SU → Option (List TU × SU)
 | [], S => some ([], S)
 | c :: cs, S => (yU c S).bind fun r => (x7 cs r.2).map fun q => (r.1 :: q.1, q.2)
end
def qU {α : Type} : Option (C α) → Bool
 | some (.t (.sl _ 0 _ _ _)) => true
 | _ => false
mutual
def yL {α : Type} (S : St α) : C α → Bool
 | .ptr _ r p _ => p.isEmpty || qU (at_ S r p.dropLast (p.getLast?.getD 0))
 | .bor _ r p i _ _ _ => qU (at_ S r p i)
 | .fn _ caps => xR S caps
 | .lst _ _ _ cs => xR S cs
 | .t _ => true
 | .rptr _ _ => true
 | .nilp => true
 | .nilf => true
def xR {α : Type} (S : St α) : List (C α) → Bool
 | [] => true
 | c :: cs => yL S c && xR S cs
end
def keep : CU → SU → Option (CU × SU)
 | .lst a sz n cs, S => (yU (.lst a sz n cs) S).map fun r => (.t r.1, r.2)
 | .bor a (.sl d) p i off sz n, S => if zM4 cx f d then some (.bor a (.sl d) p i off sz n, S) else (xP S a (.sl d) p i off sz n).map fun r => (.t r.1, r.2)
 | .bor a (.ex j) p i off sz n, S => if cx.tke f then (xP S a (.ex j) p i off sz n).map fun r => (.t r.1, r.2) else some (.bor a (.ex j) p i off sz n, S)
 | c, S => some (c, S)
def zJe (cells : List CU) (off : Nat) (cs : List CU) : List CU := cells.take off ++ cs ++ cells.drop (off + cs.length)
def j9 (place : Nat → Option (Nat × Nat)) : List (Nat × Operand) → List CU → SU → Option (List CU × SU)
 | [], cells, S => some (cells, S)
 | (i, o) :: rest, cells, S => (place i).bind fun q => (opv cx f S q.2 o).bind fun x => (j3 x).bind fun cs =>
   if cs.length = (cx.ty q.2).sz ∧ q.1 + cs.length ≤ cells.length then j9 place rest (zJe cells q.1 cs) (clr cx f S o) else none
def rL (x : CU) (n : Nat) : Option CU :=
 match x with
 | .ptr a r p off => some (.ptr a r p (off + n))
 | .rptr a cs => if n ≤ cs.length then some (.rptr a (cs.drop n)) else none
 | _ => none
def wG {β : Type} (n : Nat) (xs : List β) : List β := (List.replicate n xs).flatten
def gJ (x : CU) (lo hi : Option Int) : Option CU :=
 match x with
 | .t (.str s) => let l := lo.getD 0; let h := hi.getD s.length
  if 0 ≤ l ∧ l ≤ h ∧ h ≤ s.length then some (.t (.str ((s.drop l.toNat).take (h - l).toNat))) else none
 | .bor a r p i off sz n => let l := lo.getD 0; let h := hi.getD n
  if 0 ≤ l ∧ l ≤ h ∧ h ≤ n then some (.bor a r p i (off + l.toNat * sz) sz (h - l).toNat) else none
 | .t (.sl a (tag + 1) sz n cs) => let l := lo.getD 0; let h := hi.getD n
  if 0 ≤ l ∧ l ≤ h ∧ h ≤ n then some (.t (.sl a (tag + 1) sz (h - l).toNat ((cs.drop (l.toNat * sz)).take ((h - l).toNat * sz)))) else none
 | _ => none
def fH (S : SU) : Option Operand → Option (Option Int)
 | none => some none
 | some o => (dW (opv cx f S 0 o)).map some
def sW : CU → Option Int
 | .t (.str s) => some s.length
 | .t (.sl _ _ _ n _) => some n
 | .bor _ _ _ _ _ _ n => some n
 | .lst _ _ n _ => some n
 | _ => none
def uW (S : SU) : CU → Option (Nat × Nat × List TU)
 | .t (.sl _ _ sz n cs) => some (sz, n, cs)
 | .bor _ r p i off sz n => (qF S r p i off (n * sz)).map fun cs => (sz, n, cs)
 | _ => none
def v7 : List TU → Option (List UInt8)
 | [] => some []
 | x :: xs => (zHr x).bind fun b => (v7 xs).map fun bs => b :: bs
def mX (so : Bool) (ks kd : Nat) (S : SU) (x : CU) : Option CU :=
 match x with
 | .t (.int _ n) => if so then (match kd with
  | 1 => some (.t (.int .i64 (IntKind.wrap .i64 n)))
  | 2 => some (.t (.int .u8 (IntKind.wrap .u8 n)))
  | _ => none) else none
 | .t (.str s) => if so ∧ kd = 3 then some (.t (.str s)) else none
 | x => if kd = 3 ∧ ks = 4 then (uW S x).bind fun q => if q.1 = 1 then (v7 q.2.2).map fun bs => .t (.str bs) else none else none
end
end Go.Proofs.Ytlkjnlfddadlmaa.V
namespace Go.Proofs.Ytlkjnlfddadlmaa.V
def jR (cx : Ctx) (t : Nat) : Nat := if (cx.ty t).ok then (cx.ty t).kind else 0
abbrev zW := Nat → List XU → List (List CU) → Option (XU × List (List CU))
section
variable (cx : Ctx) (f : Nat) (call : zW)
def vP : List XU → Nat → Nat
 | [], _ => 0
 | _, 0 => 0
 | x :: xs, i + 1 => (zU [x]).length + vP xs i
def gA (S : SU) (o : Operand) (i : Nat) : Option XU :=
 match o with
 | .tmp d => match S.s d with
  | .tup xs => (xs[i]?).bind fun y => if yO y then (if zB cx f d then (match y with
    | .c x => some (.c (rdc (.sl d) [] (vP xs i) x))
    | .agg cs => some (.agg (mQ (.sl d) (vP xs i) cs))
    | _ => none) else none) else some y
  | _ => none
 | _ => none
def jJ (S : SU) : List Operand → List Nat → Option (List XU)
 | [], _ => some []
 | o :: os, ts => (opv cx f S (ts.head?.getD 0) o).bind fun x => (dP S x).bind fun y => (jJ S os ts.tail).map fun ys => y :: ys
mutual
def qC : CU → Option CU
 | .t x => (down x).map .t
 | .ptr a r p off => some (.ptr a r p off)
 | .bor a r p i off sz n => some (.bor a r p i off sz n)
 | .rptr _ _ => none
 | .nilp => some .nilp
 | .nilf => some .nilf
 | .fn g caps => (y8 caps).map (.fn g)
 | .lst _ _ _ _ => none
def y8 : List CU → Option (List CU)
 | [] => some []
 | x :: xs => (qC x).bind fun y => (y8 xs).map fun ys => y :: ys
end
mutual
def j7 : XU → Option XU
 | .c x => (qC x).map .c
 | .agg cs => (y8 cs).map .agg
 | .box a cs => (y8 cs).map (.box a)
 | .tup xs => (nI xs).map .tup
 | .undef => none
def nI : List XU → Option (List XU)
 | [] => some []
 | x :: xs => (j7 x).bind fun y => (nI xs).map fun ys => y :: ys
end
def quietCall (S : SU) (fo : Operand) (args : List Operand) (ts : List Nat) : Option XU :=
 match opv cx f S 0 fo with
 | some (.c (.fn g [])) => if cx.act g then none else (jJ cx f S args ts).bind fun xs => (call g xs []).bind fun r => j7 r.1
 | _ => none
def mm (b : Builtin) (x y : Int) : Option Int :=
 match b with
 | .max => some (max x y)
 | .min => some (min x y)
 | _ => none
def dS (S : SU) : List Operand → Option (List CU)
 | [] => some []
 | o :: os => (opv cx f S 0 o).bind fun x => match x with
  | .c c => if qJ c then none else (dS S os).map fun cs => c :: cs
  | _ => none
def elOk (t sz : Nat) : Bool := (cx.ty t).ok && match (cx.ty t).el with
 | some el => (cx.ty el).ok && (cx.ty el).sz == sz
 | none => false
def cO (t : Nat) : CU → Bool
 | .t (.str _) => jR cx t == 3
 | .bor _ _ _ _ _ sz _ => elOk cx t sz
 | .t (.sl _ _ sz _ _) => elOk cx t sz
 | _ => false
def kN : Option XU → Option Int
 | some (.c (.t (.int .i64 n))) => some n
 | _ => none
def mmV (b : Builtin) (x y : Option Int) (S : SU) : Option (XU × SU) :=
 match x, y with
 | some a, some b' => (mm b a b').map fun n => (.c (.t (.int .i64 n)), S)
 | _, _ => none
def zFx (t : Nat) : CU → Bool
 | .t (.str _) => jR cx t == 3
 | _ => (cx.ty t).ok && (cx.ty t).el.isSome
def rP (S : SU) (c : Call) : Option XU :=
 match c.callee, c.args.toList with
 | .value (.func g), [.const (.slice none 0 0), y] => match cx.gro g, kN (opv cx f S 0 y) with
  | some q, some n => if 0 ≤ n ∧ n * q.2 ≤ 140737488355328 ∧ n ≤ maxLen then some (.c (.t (.sl () 0 q.1 0 []))) else none
  | _, _ => none
 | _, _ => none
def zHj (c : Call) : Bool :=
 match c.callee, c.args.toList with
 | .value (.func g), [.const (.slice none 0 0), _] => (cx.gro g).isSome
 | _, _ => false
def qcall (S : SU) (t : Nat) (c : Call) : Option (XU × SU) :=
 match c.callee, c.args.toList, c.argTypes.toList with
 | .builtin .len, [x], [t'] => match opv cx f S t' x with
  | some (.c z) => if zFx cx t' z then (sW z).map fun n => (.c (.t (.int .i64 n)), S) else none
  | _ => none
 | .builtin b, [x, y], _ => mmV b (kN (opv cx f S t x)) (kN (opv cx f S t y)) S
 | .value fo, args, ts => if zHj cx c then (rP cx f S c).map fun x => (x, S) else (quietCall cx f call S fo args ts).map fun x => (x, S)
 | _, _, _ => none
def wU : Operand → Bool
 | .const _ => true
 | _ => false
def zT8 (sz n : Nat) (cs : List CU) : CU :=
 match nA cs with
 | some ts => .t (.sl () 0 sz n ts)
 | none => .lst () sz n cs
def qval (S : SU) (t : Nat) : Op → Option (XU × SU)
 | .move x => (opv cx f S t x).map fun y => (y, clr cx f S x)
 | .pick c a b => match gQ (opv cx f S t c) with
  | some true => (opv cx f S t a).map fun y => (y, clr cx f S a)
  | some false => (opv cx f S t b).map fun y => (y, clr cx f S b)
  | none => none
 | .alloc e => if (cx.ty e).ok then some (.box () (cx.ty e).zs, S) else none
 | .box e x => (opv cx f S e x).bind fun y => (j3 y).bind fun cs => if (cx.ty e).ok ∧ cs.length = (cx.ty e).sz then some (.box () cs, clr cx f S x) else none
 | .build e ps => if (cx.ty e).ok ∧ (cx.ty e).agg ∧ (cx.ty e).fs ≠ [] ∧ ((cx.ty e).fs.all fun q => (cx.ty q.2).ok) then (j9 cx f (fun i => (cx.ty e).fs[i]?) ps.toList (cx.ty e).zs S).map fun r => (.agg r.1, r.2) else none
 | .buildSlice e len ps => match (cx.ty e).el with
  | some el => if (cx.ty el).ok ∧ (cx.ty e).ok ∧ len * (cx.ty el).sz ≤ 16777216 then (j9 cx f (fun i => if i < len then some (i * (cx.ty el).sz, el) else none) ps.toList (wG len (cx.ty el).zs) S).map fun r => (.c (zT8 (cx.ty el).sz len r.1), r.2) else none
  | none => none
 | .load e a => match opv cx f S 0 a with
  | some (.c (.ptr _ r p off)) => if (cx.ty e).ok then (j8 S r p off (cx.ty e).sz).bind fun cs => (mkX cx e cs).map fun x => (x, S) else none
  | some (.c (.rptr _ cs)) => if (cx.ty e).ok ∧ (cx.ty e).sz ≤ cs.length then (mkX cx e ((cs.take (cx.ty e).sz).map .t)).map fun x => (x, S) else none
  | _ => none
 | .fieldAddr e x i => match (cx.ty e).fs[i]?, opv cx f S 0 x with
  | some (off, ft), some (.c y) => if (cx.ty e).ok ∧ (cx.ty ft).ok ∧ 0 < (cx.ty ft).sz then (rL y off).map fun z => (.c z, S) else none
  | _, _ => none
 | .field e x i => match (cx.ty e).fs[i]?, opv cx f S 0 x with
  | some (off, ft), some (.agg cs) => if (cx.ty e).ok ∧ (cx.ty ft).ok ∧ off + (cx.ty ft).sz ≤ cs.length then (mkX cx ft ((cs.drop off).take (cx.ty ft).sz)).map fun y => (y, clr cx f S x) else none
  | _, _ => none
 | .indexAddr e x i => match (cx.ty e).el, opv cx f S e x, dW (opv cx f S 0 i) with
  | some el, some (.c (.bor _ r p j off sz n)), some k => if (cx.ty e).ok ∧ 0 ≤ k ∧ k < n ∧ sz = (cx.ty el).sz ∧ (cx.ty el).ok then some (.c (.ptr () r (p ++ [j]) (off + k.toNat * sz)), S) else none
  | some el, some (.c (.t (.sl _ (_ + 1) sz n cs))), some k => if (cx.ty e).ok ∧ 0 ≤ k ∧ k < n ∧ sz = (cx.ty el).sz ∧ (cx.ty el).ok then some (.c (.rptr () (cs.drop (k.toNat * sz))), S) else none
  | _, _, _ => none
 | .index e x i => match opv cx f S 0 x, dW (opv cx f S 0 i) with
  | some (.c (.t (.str s))), some k => if jR cx e = 3 ∧ 0 ≤ k ∧ k < s.length then some (.c (.t (zE0 (s.getD k.toNat 0))), S) else none
  | _, _ => none
 | .binOp op xt x y yt => match opv cx f S xt x, opv cx f S yt y with
  | some (.c a), some (.c b) => (sB (jR cx xt) (wU x || wU y) op a b).map fun z => (.c (.t z), S)
  | _, _ => none
 | .unOp op xt x => match opv cx f S xt x with
  | some (.c a) => (unV op a).map fun z => (.c (.t z), S)
  | _ => none
 | .convert src dst x => match opv cx f S src x with
  | some (.c a) => (mX (cx.ty src).ok (jR cx src) (jR cx dst) S a).map fun z => (.c z, S)
  | _ => none
 | .extract x i => (gA cx f S x i).map fun y => (y, S)
 | .slice e x lo hi none => match opv cx f S e x, fH cx f S lo, fH cx f S hi with
  | some (.c y), some l, some h => if cO cx e y then (gJ y l h).map fun z => (.c z, S) else none
  | _, _, _ => none
 | .makeSlice e l c => match (cx.ty e).el, dW (opv cx f S 0 l), dW (opv cx f S 0 c) with
  | some el, some n, some m => if 0 ≤ n ∧ n ≤ m ∧ m * (cx.ty el).bytes ≤ 140737488355328 ∧ m ≤ maxLen ∧ (cx.ty e).ok ∧ (cx.ty el).ok ∧ 0 < (cx.ty el).sz then (nA (cx.ty el).zs).map fun zs => (.c (.t (.sl () 0 (cx.ty el).sz n.toNat (wG n.toNat zs))), S) else none
  | _, _, _ => none
 | .makeFunc (.func g) first caps => if first = #[] then (dS cx f S caps.toList).map fun cs => (.c (.fn g cs), S) else none
 | .call c => qcall cx f call S t c
 | .nilCheck x => match opv cx f S 0 x with
  | some (.c (.ptr a r p off)) => some (.c (.ptr a r p off), S)
  | some (.c (.rptr a cs)) => some (.c (.rptr a cs), S)
  | _ => none
 | _ => none
def vU (d : Nat) : CU → SU → Option (CU × SU)
 | .bor a (.sl d') p i off sz n, S => if d' = d then (xP S a (.sl d') p i off sz n).map fun r => (.t r.1, r.2) else keep cx f (.bor a (.sl d') p i off sz n) S
 | c, S => keep cx f c S
def u7 (d : Nat) : List CU → SU → Option (List CU × SU)
 | [], S => some ([], S)
 | c :: cs, S => (vU cx f d c S).bind fun r => (u7 d cs r.2).map fun q => (r.1 :: q.1, q.2)
def gN (d : Nat) : XU → SU → Option (XU × SU)
 | .c x, S => (vU cx f d x S).bind fun r => if yL r.2 r.1 then some (.c r.1, r.2) else none
 | .agg cs, S => (u7 cx f d cs S).bind fun r => if xR r.2 r.1 then some (.agg r.1, r.2) else none
 | .box a cs, S => if xR S cs then some (.box a cs, S) else none
 | _, _ => none
mutual
def yB (bors : Bool) : CU → List Root
 | .ptr _ r _ _ => [r]
 | .bor _ r _ _ _ _ _ => if bors then [r] else []
 | .fn _ caps => zP bors caps
 | .lst _ _ _ cs => zP bors cs
 | _ => []
def zP (bors : Bool) : List CU → List Root
 | [] => []
 | c :: cs => yB bors c ++ zP bors cs
end
def xY : XU → List Root
 | .c x => yB true x
 | .agg cs => zP true cs
 | .box _ cs => zP true cs
 | _ => []
def tN (S : SU) (t : Nat) (d : Nat) (x : Operand) : Option SU :=
 (opv cx f S t x).bind fun y => (gN cx f d y (clr cx f S x)).bind fun r =>
  if zB cx f d then (if (xY r.1).contains (.sl d) then none else
   let S1 := kill (.sl d) [] r.2
   some { S1 with s := upd S1.s d r.1 })
  else some { r.2 with s := upd r.2.s d r.1 }
def qB : Root → Bool
 | .ex _ => true
 | _ => false
def qP (r : Root) (p : List Nat) : Nat → List (List Nat) → List CU → SU → Option SU
 | _, _, [], S => some S
 | off, qs, c :: cs, S => (at_ S r p off).bind fun old =>
   if qJ old then (if cx.nst f && qB r then none else (z9 S r p off (.t (.dead ()))).bind fun S0 =>
    (z9 (kill r (p ++ [off]) S0) r p off ((qs ++ [p ++ [off]]).foldl (fun c q => zT r q c) c)).bind fun S1 => qP r p (off + 1) (qs ++ [p ++ [off]]) cs S1)
   else (z9 S r p off (qs.foldl (fun c q => zT r q c) c)).bind fun S1 => qP r p (off + 1) qs cs S1
def toT : List TU → List CU := List.map .t
def pK (S : SU) (t : Nat) (a x : Operand) : Option SU :=
 match opv cx f S 0 a with
 | some (.c (.ptr _ r p off)) => (opv cx f S t x).bind fun y => (j3 y).bind fun cs =>
   if (cx.ty t).ok ∧ cs.length = (cx.ty t).sz then
    match r, p with
    | .sl d, [] => (u7 cx f d cs (clr cx f S x)).bind fun q => if xR q.2 q.1 then qP cx f r p off [] q.1 q.2 else none
    | _, _ => (x7 cs (clr cx f S x)).bind fun q => qP cx f r p off [] (toT q.1) q.2
   else none
 | _ => none
def gM (S : SU) (o : Operand) (t : Nat) : Option (List TU × Nat × Nat × SU) :=
 match opv cx f S t o with
 | some (.c (.t (.sl _ 0 sz n cs))) => some (cs, sz, n, clr cx f S o)
 | some (.c (.bor a r p i off sz n)) => if cx.nst f && qB r then none else (xP S a r p i off sz n).bind fun q => match q.1 with
  | .sl _ _ _ _ cs => some (cs, sz, n, q.2)
  | _ => none
 | some (.c (.lst _ sz n cs)) => (x7 cs (clr cx f S o)).map fun q => (q.1, sz, n, q.2)
 | _ => none
def zO3 : TU → Bool
 | .sl _ 0 _ _ _ => false
 | _ => true
def w8 (S : SU) (o : Operand) (t : Nat) (flat : Bool) : Option (List TU × Nat × Nat × SU) :=
 match opv cx f S t o with
 | some (.c (.t (.sl _ (_ + 1) sz n cs))) => some (cs, sz, n, S)
 | some (.c (.t (.str s))) => some (s.map zE0, 1, s.length, S)
 | some (.c (.bor _ r p i off sz n)) => if flat then (qF S r p i off (n * sz)).bind fun cs => if cs.all zO3 then some (cs, sz, n, S) else none else gM cx f S o t
 | _ => gM cx f S o t
def zNw (t : Nat) : Bool := (cx.ty t).ok && ((cx.ty t).el.isSome || (cx.ty t).kind == 3)
def uG (S : SU) (ts : List Nat) (s x : Operand) : Option (XU × SU) :=
 match ts with
 | [t, t'] => match (cx.ty t).el with
  | some el => (w8 cx f S x t' (cx.ty el).flat).bind fun (ys, sz', m, S1) => (gM cx f S1 s t).bind fun (zs, sz, n, S2) =>
    if sz = (cx.ty el).sz ∧ sz' = (cx.ty el).sz ∧ 0 < sz ∧ (cx.ty el).ok ∧ (cx.ty t).ok ∧ zNw cx t' ∧ n + m ≤ maxLen ∧ (n + m) * (cx.ty el).bytes ≤ 140737488355328 then
     some (.c (.t (.sl () 0 sz (n + m) (zs ++ ys))), S2) else none
  | none => none
 | _ => none
def fQ : List Root → List Root → List Root
 | L, [] => L
 | L, r :: rs => if L.contains r then fQ L rs else fQ (L ++ [r]) rs
def mU (S : SU) : List Root → List Root
 | [] => []
 | r :: rs => zP false ((zA S r).getD []) ++ mU S rs
def gR (S : SU) : Nat → List Root → List Root
 | 0, L => L
 | n + 1, L => gR S n (fQ L (mU S L))
def y5 : List Root → Root → Nat → Option Nat
 | [], _, _ => none
 | r :: rs, q, j => if r = q then some j else y5 rs q (j + 1)
mutual
def inC {α : Type} (L : List Root) (k : Nat) : C α → C α
 | .t x => .t (up x)
 | .ptr a r p off => match y5 L r k with
  | some j => .ptr a (.ex j) p off
  | none => .t (.dead a)
 | .bor a r p i off sz n => match y5 L r k with
  | some j => .bor a (.ex j) p i off sz n
  | none => .t (.dead a)
 | .fn g caps => .fn g (wT L k caps)
 | .rptr a cs => .rptr a (zI cs)
 | .nilp => .nilp
 | .nilf => .nilf
 | .lst a _ _ _ => .t (.dead a)
def wT {α : Type} (L : List Root) (k : Nat) : List (C α) → List (C α)
 | [] => []
 | c :: cs => inC L k c :: wT L k cs
end
def j5 (L : List Root) (k j : Nat) : Option Root := if k ≤ j then L[j - k]? else none
mutual
def q6 {α : Type} (L : List Root) (k : Nat) : C α → C α
 | .t x => .t x
 | .ptr a (.ex j) p off => match j5 L k j with
  | some r => .ptr a r p off
  | none => .t (.dead a)
 | .bor a (.ex j) p i off sz n => match j5 L k j with
  | some r => .bor a r p i off sz n
  | none => .t (.dead a)
 | .fn g caps => .fn g (x5 L k caps)
 | .rptr a cs => .rptr a cs
 | .nilp => .nilp
 | .nilf => .nilf
 | .ptr a _ _ _ => .t (.dead a)
 | .bor a _ _ _ _ _ _ => .t (.dead a)
 | .lst a _ _ _ => .t (.dead a)
def x5 {α : Type} (L : List Root) (k : Nat) : List (C α) → List (C α)
 | [] => []
 | c :: cs => q6 L k c :: x5 L k cs
end
def gL (S : SU) (L : List Root) (k : Nat) : CU → Option CU
 | .ptr a r p off => if (y5 L r k).isSome then some (inC L k (.ptr a r p off)) else none
 | .fn g caps => if (zP true caps).all (L.contains ·) then some (inC L k (.fn g caps)) else none
 | .bor a r p i off sz n => match y5 L r k with
  | some j => some (.bor a (.ex j) p i off sz n)
  | none => qR S (.bor a r p i off sz n)
 | c => if (yB true c).any (L.contains ·) then none else qR S c
def dF (S : SU) (L : List Root) (k : Nat) : List CU → Option (List CU)
 | [] => some []
 | c :: cs => (gL S L k c).bind fun x => (dF S L k cs).map fun xs => x :: xs
def sA (S : SU) (L : List Root) (k : Nat) : XU → Option XU
 | .c x => (gL S L k x).map .c
 | .agg cs => (dF S L k cs).map .agg
 | _ => none
structure Row where
 t : TU
 r : Root
 p : List Nat
 i : Nat
def jM {α : Type} (S : St α) (r : Root) (p : List Nat) (i : Nat) : Option (T α × St α) :=
 match at_ S r p i with
 | some (.t (.sl b 0 sz m ds)) => (z9 S r p i (.t (.dead b))).map fun S' => (.sl b 0 sz m ds, kill r (p ++ [i]) S')
 | _ => none
def cK : TU → Bool
 | .sl _ _ _ _ _ => false
 | .dead _ => false
 | _ => true
def xT : Nat → List CU → SU → Option (List CU × List Row × SU)
 | _, [], S => some ([], [], S)
 | k, .bor a r p i off sz n :: cs, S => (jM S r p i).bind fun q => (xT (k + 1) cs q.2).map fun u => (.bor a (.ex k) [] 0 off sz n :: u.1, ⟨q.1, r, p, i⟩ :: u.2.1, u.2.2)
 | k, .t x :: cs, S => if cK x then (xT k cs S).map fun u => (.t x :: u.1, u.2) else none
 | _, _ :: _, _ => none
def eat {α : Type} (S : St α) : Operand → St α
 | .tmp d => if zB cx f d then S else { S with s := upd S.s d .undef }
 | _ => S
def yM (g : Nat) : Nat → Nat → List Operand → List Nat → SU → Option (List (Option XU) × List Row × SU)
 | _, _, [], _, S => some ([], [], S)
 | i, k, o :: os, ts, S =>
  if (cx.mov g).contains i then (opv cx f S (ts.head?.getD 0) o).bind fun x => match x with
   | .c c => (yU c (clr cx f S o)).bind fun q => (yM g (i + 1) k os ts.tail q.2).map fun u => (some (.c (.t (up q.1))) :: u.1, u.2)
   | _ => none
  else if (cx.plc g).contains i then (opv cx f S (ts.head?.getD 0) o).bind fun x => match x with
   | .c c => (xT k [c] (eat cx f S o)).bind fun q => (yM g (i + 1) (k + q.2.1.length) os ts.tail q.2.2).map fun u => (some (.c (q.1.head?.getD c)) :: u.1, q.2.1 ++ u.2.1, u.2.2)
   | .agg cs => (xT k cs (eat cx f S o)).bind fun q => (yM g (i + 1) (k + q.2.1.length) os ts.tail q.2.2).map fun u => (some (.agg q.1) :: u.1, q.2.1 ++ u.2.1, u.2.2)
   | _ => none
  else (yM g (i + 1) k os ts.tail S).map fun u => (none :: u.1, u.2)
def xH (S : SU) : List (Option XU) → List Operand → List Nat → Option (List (Option XU))
 | none :: ms, o :: os, ts => (opv cx f S (ts.head?.getD 0) o).bind fun x => (xH S ms os ts.tail).map fun xs => some x :: xs
 | some _ :: ms, _ :: os, ts => (xH S ms os ts.tail).map fun xs => none :: xs
 | _, _, _ => some []
def qM (S : SU) (L : List Root) (k : Nat) : List (Option XU) → List (Option XU) → Option (List XU)
 | some x :: ms, _ :: xs => (qM S L k ms xs).map fun ys => x :: ys
 | none :: ms, some x :: xs => (sA S L k x).bind fun y => (qM S L k ms xs).map fun ys => y :: ys
 | _, _ => some []
mutual
def kA {α : Type} (L : List Root) : C α → C α
 | .ptr a r p off => if L.contains r && !p.isEmpty then .t (.dead a) else .ptr a r p off
 | .bor a r p i off sz n => if L.contains r then .t (.dead a) else .bor a r p i off sz n
 | .fn g caps => .fn g (jC L caps)
 | .lst a sz n cs => .lst a sz n (jC L cs)
 | .t x => .t x
 | .rptr a cs => .rptr a cs
 | .nilp => .nilp
 | .nilf => .nilf
def jC {α : Type} (L : List Root) : List (C α) → List (C α)
 | [] => []
 | c :: cs => kA L c :: jC L cs
end
mutual
def j0 {α : Type} (L : List Root) : X α → X α
 | .c x => .c (kA L x)
 | .agg cs => .agg (jC L cs)
 | .box a cs => .box a (jC L cs)
 | .tup xs => .tup (vS L xs)
 | .undef => .undef
def vS {α : Type} (L : List Root) : List (X α) → List (X α)
 | [] => []
 | x :: xs => j0 L x :: vS L xs
end
mutual
def wD {α : Type} (L : List Root) (k : Nat) : X α → X α
 | .c x => .c (q6 L k x)
 | .agg cs => .agg (x5 L k cs)
 | .box a cs => .box a (x5 L k cs)
 | .tup xs => .tup (bD L k xs)
 | .undef => .undef
def bD {α : Type} (L : List Root) (k : Nat) : List (X α) → List (X α)
 | [] => []
 | x :: xs => wD L k x :: bD L k xs
end
def fY {α : Type} (L : List Root) (k : Nat) (es : List (List (C α))) (d : Nat) (x : X α) : X α :=
 match y5 L (.sl d) 0 with
 | some i => qH x (x5 L k (es.getD i []))
 | none => j0 L x
def zEx {α : Type} (L : List Root) (k : Nat) (es : List (List (C α))) (j : Nat) (cs : List (C α)) : List (C α) :=
 match y5 L (.ex j) 0 with
 | some i => x5 L k (es.getD i [])
 | none => jC L cs
def vB {β : Type} (g : Nat → β → β) : Nat → List β → List β
 | _, [] => []
 | j, x :: xs => g j x :: vB g (j + 1) xs
def wN {α : Type} (L : List Root) (k : Nat) (es : List (List (C α))) (S : St α) : St α :=
 { s := fun d => fY L k es d (S.s d), e := vB (zEx L k es) 0 S.e }
def k8 (S : SU) (w : Row) (es : List CU) : Option SU :=
 match es with
 | [.t (.sl b 0 sz m ds)] => match at_ S w.r w.p w.i with
  | some (.t (.dead _)) => z9 S w.r w.p w.i (.t (.sl b 0 sz m ds))
  | _ => none
 | [.t (.dead _)] => some S
 | _ => none
def qD : List Row → List (List CU) → SU → Option SU
 | w :: ws, e :: es, S => (k8 S w e).bind fun S' => qD ws es S'
 | [], _, S => some S
 | _, _, _ => none
def apart : List Row → Bool
 | [] => true
 | w :: ws => ws.all (fun v => !(w.r == v.r && (pre (w.p ++ [w.i]) (v.p ++ [v.i]) || pre (v.p ++ [v.i]) (w.p ++ [w.i])))) && apart ws
def zPd {α : Type} : X α → Bool
 | .tup _ => true
 | _ => false
def gH (S : SU) : Root → Bool
 | .sl d => zB cx f d && !zPd (S.s d)
 | .ex _ => true
def zC3 : List Root → Bool
 | [] => true
 | r :: L => !L.contains r && zC3 L
def jU (S : SU) (xs : List (Option XU)) (caps : List CU) : List Root := gR S (cx.dpt f) (fQ [] (zP false (zU (xs.filterMap id) ++ caps)))
def activeCall (S : SU) (fo : Operand) (args : List Operand) (ts : List Nat) : Option (XU × SU) :=
 match opv cx f S 0 fo with
 | some (.c (.fn g _)) => (yM cx f g 0 0 args ts S).bind fun u => match opv cx f u.2.2 0 fo with
  | some (.c (.fn g' caps)) => (xH cx f u.2.2 u.1 args ts).bind fun xs =>
    (qM u.2.2 (jU cx f u.2.2 xs caps) u.2.1.length u.1 xs).bind fun ys => (dF u.2.2 (jU cx f u.2.2 xs caps) u.2.1.length caps).bind fun cs => ((jU cx f u.2.2 xs caps).mapM (zA u.2.2)).bind fun bs =>
     if g' = g ∧ zC3 (jU cx f u.2.2 xs caps) ∧ (jU cx f u.2.2 xs caps).all (gH cx f u.2.2) ∧ apart u.2.1 ∧ u.2.1.all (fun w => !(jU cx f u.2.2 xs caps).contains w.r) then
      (call g (ys ++ cs.map .c) (u.2.1.map (fun w => [.t (up w.t)]) ++ bs.map (wT (jU cx f u.2.2 xs caps) u.2.1.length))).bind fun r => (j7 r.1).bind fun x => (r.2.mapM y8).bind fun es =>
       if (es.drop u.2.1.length).map List.length = bs.map List.length ∧ es.length = u.2.1.length + bs.length then
        (qD u.2.1 (es.take u.2.1.length) (wN (jU cx f u.2.2 xs caps) u.2.1.length (es.drop u.2.1.length) u.2.2)).map fun S' => (wD (jU cx f u.2.2 xs caps) u.2.1.length x, S')
       else none
     else none
  | _ => none
 | _ => none
def bJ : XU → Bool
 | .undef => true
 | _ => false
def wY (S : SU) (dst : Option Nat) (x : XU) : Option SU :=
 match dst with
 | some d => if zB cx f d && !bJ (S.s d) then none else some { S with s := upd S.s d x }
 | none => some S
def y6 (S : SU) (ops : Array Oper) (o : Oper) : Option Bool :=
 match o.guard with
 | none => some true
 | some (j, want) => match (ops[j]?).bind (·.dst) with
  | some d => match S.s d with
   | .c (.t (.bool b)) => some (b == want)
   | .tup [] => some false
   | _ => none
  | none => none
def yY : Op → Bool
 | .assign _ | .store _ _ _ => true
 | .call { callee := .builtin .append, .. } => true
 | .call { callee := .value (.func g), .. } => cx.act g
 | .call { callee := .value _, .. } => true
 | _ => false
def stepOp (S : SU) (ops : Array Oper) (o : Oper) : Option SU :=
 match y6 S ops o with
 | none => none
 | some false => wY cx f S o.dst (.tup [])
 | some true => match o.op with
  | .assign x => match o.dst with
   | some d => tN cx f S o.type d x
   | none => none
  | .store t a x => (pK cx f S t a x).bind fun S' => wY cx f S' o.dst (.tup [])
  | .call c => if yY cx (.call c) then (match c.callee, c.args.toList with
    | .builtin .append, [s, x] => (uG cx f S c.argTypes.toList s x).bind fun r => wY cx f r.2 o.dst r.1
    | .value fo, args => (activeCall cx f call S fo args c.argTypes.toList).bind fun r => wY cx f r.2 o.dst r.1
    | _, _ => none) else (qcall cx f call S o.type c).bind fun r => wY cx f r.2 o.dst r.1
  | op => (qval cx f call S o.type op).bind fun r => wY cx f r.2 o.dst r.1
def stepOps (ops : Array Oper) : List Oper → SU → Option SU
 | [], S => some S
 | o :: os, S => (stepOp cx f call S ops o).bind fun S' => stepOps ops os S'
def vD (S : SU) (o : Oper) : Bool :=
 match o.op with
 | .call c => match c.callee, c.args.toList, c.argTypes.toList with
  | .builtin .append, [s, x], [t, t'] => (match opv cx f S t s with
    | some (.c (.t (.sl _ 0 _ _ _))) => true
    | _ => false) && (match opv cx f S t' x with
    | some (.c (.t _)) => true
    | some (.c (.bor _ _ _ _ _ _ _)) => match (cx.ty t).el with
     | some el => (cx.ty el).flat
     | none => false
    | _ => false)
  | _, _, _ => false
 | _ => false
def vX (ops : Array Oper) (S : SU) (o : Oper) : Bool := !yY cx o.op || y6 S ops o == some false || vD cx f S o
def kJ : Op → Bool
 | .move _ => true
 | .load _ _ => true
 | .fieldAddr _ _ _ => true
 | .indexAddr _ _ _ => true
 | .binOp _ _ _ _ _ => true
 | .unOp _ _ _ => true
 | .index _ _ _ => true
 | .nilCheck _ => true
 | .extract _ _ => true
 | .pick _ _ _ => true
 | .call { callee := .builtin .len, .. } => true
 | _ => false
def mJ : zW := fun _ _ _ => none
def hide {α : Type} (Z : List Nat) (S : St α) : St α := { S with s := fun t => if t ∈ Z then .undef else S.s t }
def qT (ops : Array Oper) (Y : List Nat) : List Nat := Y.filterMap fun y => (ops[y]?).bind (·.dst)
def zGl (id : Nat) (ops : Array Oper) (S1 : SU) : List Nat → Prop
 | [] => True
 | y :: Y => ((∀ z ∈ Y, y < z) ∧ ∃ o d, ops[y]? = some o ∧ o.dst = some d ∧ kJ o.op = true ∧ zB cx f d = false ∧ cx.ord f id y = false ∧ (∀ t ∈ cx.shr f id y, zB cx f t = true ∨ yO (S1.s t) = false) ∧ stepOp cx f mJ (hide (qT ops (y :: Y)) S1) ops o = some (hide (qT ops Y) S1)) ∧ zGl id ops S1 Y
def zGg (id k : Nat) : List Nat := if cx.ord f id k then cx.pnd f id k else []
open Classical in
noncomputable def zMi (id : Nat) (ops : Array Oper) (k : Nat) (S1 : SU) : Option SU :=
 match zGg cx f id k with
 | [] => some S1
 | y :: Y => if zGl cx f id ops S1 (y :: Y) then some S1 else none
noncomputable def dQ (id : Nat) (ops : Array Oper) (k : Nat) (S : SU) (o : Oper) : Option SU :=
 if (cx.ord f id k || vX cx f ops S o) && (cx.shr f id k).all (fun t => zB cx f t || !yO (S.s t)) then (stepOp cx f call S ops o).bind (zMi cx f id ops k) else none
def zA5 : XU → Option Root
 | .c (.ptr _ r _ _) => some r
 | _ => none
def zDt (S : SU) (x y : Nat) : Bool :=
 match zA5 (S.s x), zA5 (S.s y) with
 | some r, some r' => decide (r ≠ r')
 | _, _ => false
def iM (S : SU) (ops : Array Oper) : Bool :=
 match ops[ops.size - 2]?, ops[ops.size - 1]? with
 | some o, some o' => match o.op, o'.op with
  | .store _ (.tmp x) _, .store _ (.tmp y) _ => zDt S x y
  | _, _ => false
 | _, _ => false
def nO (id k : Nat) : Bool :=
 match cx.tl f id with
 | some m => decide (m ≤ k)
 | none => false
noncomputable def cR (id : Nat) (ops : Array Oper) (k : Nat) (S : SU) (o : Oper) : Option SU :=
 if nO cx f id k then (if k + 2 = ops.size && !iM S ops then none else stepOp cx f call S ops o)
 else dQ cx f call id ops k S o
noncomputable def stepsD (id : Nat) (ops : Array Oper) : Nat → List Oper → SU → Option SU
 | _, [], S => some S
 | k, o :: os, S => (cR cx f call id ops k S o).bind fun S' => stepsD id ops (k + 1) os S'
def zTs : Op → Bool
 | .assign _ => false
 | .store _ _ _ => false
 | _ => true
def zDf (S : SU) : List Oper → SU
 | [] => S
 | o :: os => match o.dst with
  | some d => if zTs o.op && zB cx f d then (let S1 := kill (.sl d) [] S; zDf { S1 with s := upd S1.s d .undef } os) else zDf S os
  | none => zDf S os
def eP (π : List Nat) (o : Oper) : Oper := { o with after := o.after.map fun e => { e with on := π.idxOf e.on }, guard := o.guard.map fun q => (π.idxOf q.1, q.2) }
def xX (π : List Nat) (ops : Array Oper) : Array Oper := if π.isEmpty then ops else (π.map fun i => eP π ((ops[i]?).getD default)).toArray
inductive Ex where
 | nrm
 | exit (id : Nat)
 | ret
def sQ : Nat → (SU → Option (Ex × SU)) → SU → Option (Ex × SU)
 | 0, _, _ => none
 | n + 1, g, S => match g S with
  | some (.nrm, S') => sQ n g S'
  | r => r
noncomputable def y9 (lf : Nat) : Code → SU → Option (Ex × SU)
 | .skip, S => some (.nrm, S)
 | .region id ops draw, S => (if draw then stepsD cx f call id (xX (cx.prm f id) ops) 0 (xX (cx.prm f id) ops).toList (zDf cx f S ops.toList) else stepOps cx f call ops ops.toList (zDf cx f S ops.toList)).map fun S' => (.nrm, S')
 | .seq a b, S => match y9 lf a S with
  | some (.nrm, S') => y9 lf b S'
  | r => r
 | .cond c x y, S => match gQ (opv cx f S 0 c) with
  | some true => y9 lf x S
  | some false => y9 lf y S
  | none => none
 | .block id c, S => match y9 lf c S with
  | some (.exit id', S') => if id' = id then some (.nrm, S') else some (.exit id', S')
  | r => r
 | .loop c, S => sQ lf (y9 lf c) S
 | .exit id, S => some (.exit id, S)
 | .ret, S => some (.ret, S)
 | _, _ => none
def hO : CU → SU → Option (CU × SU)
 | .bor a (.sl d) p i off sz n, S => (xP S a (.sl d) p i off sz n).map fun r => (.t r.1, r.2)
 | .lst a sz n cs, S => (yU (.lst a sz n cs) S).map fun r => (.t r.1, r.2)
 | .ptr _ (.sl _) _ _, S => some (.t (.dead ()), S)
 | .fn g caps, S => if (zP true caps).all qB then some (.fn g caps, S) else none
 | c, S => some (c, S)
def dV : List CU → SU → Option (List CU × SU)
 | [], S => some ([], S)
 | c :: cs, S => (hO c S).bind fun r => (dV cs r.2).map fun q => (r.1 :: q.1, q.2)
def aE : XU → SU → Option (XU × SU)
 | .c (.ptr _ (.sl d) [] 0), S => match (kill (.sl d) [] S).s d with
  | .box a cs => (dV cs { kill (.sl d) [] S with s := upd (kill (.sl d) [] S).s d .undef }).map fun r => (.box a r.1, r.2)
  | _ => none
 | .c x, S => (hO x S).map fun r => (.c r.1, r.2)
 | .agg cs, S => (dV cs S).map fun r => (.agg r.1, r.2)
 | .box a cs, S => (dV cs S).map fun r => (.box a r.1, r.2)
 | _, _ => none
def zHz (S : SU) : ResultVar → Option (XU × SU)
 | .tmp t => (opv cx f S 0 (.tmp t)).map fun x => (x, clr cx f S (.tmp t))
 | .cell a t => match opv cx f S 0 (.tmp a) with
  | some (.c (.ptr _ r p off)) => if (cx.ty t).ok then (j8 S r p off (cx.ty t).sz).bind fun cs => (mkX cx t cs).map fun x => (x, S) else none
  | _ => none
def pC (S : SU) : List ResultVar → Option (List XU × SU)
 | [] => some ([], S)
 | r :: rs => (zHz cx f S r).bind fun x => (aE x.1 x.2).bind fun q => (pC q.2 rs).map fun u => (q.1 :: u.1, u.2)
def l9 (S : SU) : XU → Bool
 | .c c => yL S c
 | .agg cs => xR S cs
 | .box _ cs => xR S cs
 | _ => false
def eK : List XU → XU
 | [x] => x
 | xs => .tup xs
end
def xM {α : Type} (args : List (X α)) : Nat → X α := fun i => args.getD i .undef
noncomputable def bR (cx : Ctx) (f : Nat) (call : zW) (lf : Nat) (fn : Func) (c : Code) (args : List XU) (ext : List (List CU)) : Option (XU × List (List CU)) :=
 if args.length ≤ fn.ntmps then match y9 cx f call lf c ⟨xM args, ext⟩ with
 | some (.nrm, S) | some (.ret, S) => (pC cx f S fn.results.toList).bind fun r => if r.1.all (l9 r.2) && r.2.e.all (fun cs => (zP true cs).all qB) then some (eK r.1, r.2.e) else none
 | _ => none
 else none
noncomputable def run (P : Program) (cx : Ctx) : Nat → zW
 | 0 => fun _ _ _ => none
 | k + 1 => fun f args ext => match cx.orc f with
  | some h => match ext with
   | [] => (h args).map fun x => (x, [])
   | _ => none
  | none => match P.funcs[f]? with
   | some fn => match fn.body with
    | some c => if cx.good f then bR cx f (run P cx k) k fn c args ext else none
    | none => none
   | none => none
end Go.Proofs.Ytlkjnlfddadlmaa.V
namespace Go.Proofs.Ytlkjnlfddadlmaa.V
section
variable {α β : Type} (g : α → β)
mutual
def yA : T α → T β
 | .int k n => .int k n
 | .bool b => .bool b
 | .str s => .str s
 | .sl a tag sz n cs => .sl (g a) tag sz n (kV cs)
 | .dead a => .dead (g a)
 | .nili => .nili
 | .ifc a => .ifc (g a)
def kV : List (T α) → List (T β)
 | [] => []
 | x :: xs => yA x :: kV xs
end
mutual
def zJ : C α → C β
 | .t x => .t (yA g x)
 | .ptr a r p off => .ptr (g a) r p off
 | .bor a r p i off sz n => .bor (g a) r p i off sz n
 | .rptr a cs => .rptr (g a) (kV g cs)
 | .nilp => .nilp
 | .fn f caps => .fn f (yZ caps)
 | .nilf => .nilf
 | .lst a sz n cs => .lst (g a) sz n (yZ cs)
def yZ : List (C α) → List (C β)
 | [] => []
 | x :: xs => zJ x :: yZ xs
end
mutual
def zV : X α → X β
 | .c x => .c (zJ g x)
 | .agg cs => .agg (yZ g cs)
 | .box a cs => .box (g a) (yZ g cs)
 | .tup xs => .tup (wV xs)
 | .undef => .undef
def wV : List (X α) → List (X β)
 | [] => []
 | x :: xs => zV x :: wV xs
end
def jW (S : St α) : St β := { s := fun i => zV g (S.s i), e := S.e.map (yZ g) }
theorem yQ : ∀ xs : List (T α), kV g xs = xs.map (yA g)
 | [] => by simp [kV]
 | x :: xs => by simp [kV, yQ xs]
theorem zR : ∀ xs : List (C α), yZ g xs = xs.map (zJ g)
 | [] => by simp [yZ]
 | x :: xs => by simp [yZ, zR xs]
theorem wW : ∀ xs : List (X α), wV g xs = xs.map (zV g)
 | [] => by simp [wV]
 | x :: xs => by simp [wV, wW xs]
theorem wA (r : Root) (q : List Nat) : ∀ xs : List (C α), yV r q xs = xs.map (zT r q)
 | [] => by simp [yV]
 | x :: xs => by simp [yV, wA r q xs]
theorem zFu (r : Root) (q : List Nat) : ∀ xs : List (X α), xB r q xs = xs.map (z7 r q)
 | [] => by simp [xB]
 | x :: xs => by simp [xB, zFu r q xs]
theorem o5 : ∀ xs : List (T α), zI xs = xs.map retag
 | [] => by simp [zI]
 | x :: xs => by simp [zI, o5 xs]
theorem zQd : ∀ (p : List Nat) (cs : List (T α)), sub (cs.map (yA g)) p = (sub cs p).map (·.map (yA g))
 | [], cs => by simp [sub]
 | i :: p, cs => by
  simp only [sub, List.getElem?_map]
  cases h : cs[i]? with
  | none => simp
  | some x =>
   cases x with
   | sl a tag sz n ds =>
    cases tag with
    | zero => simp only [Option.map_some, yA, yQ, zQd p ds]
    | succ m => simp [yA]
   | _ => simp [yA]
theorem zLj : ∀ (p : List Nat) (cs : List (T α)) (off : Nat) (y : T α), xK (cs.map (yA g)) p off (yA g y) = (xK cs p off y).map (·.map (yA g))
 | [], cs, off, y => by
  simp only [xK, List.length_map]
  split <;> simp [List.map_set]
 | i :: p, cs, off, y => by
  simp only [xK, List.getElem?_map]
  cases h : cs[i]? with
  | none => simp
  | some x =>
   cases x with
   | sl a tag sz n ds =>
    cases tag with
    | zero =>
     simp only [Option.map_some, yA, yQ, zLj p ds off y, Option.map_map]
     cases xK ds p off y with
     | none => simp
     | some ds' => simp [List.map_set, yA, yQ]
    | succ m => simp [yA]
   | _ => simp [yA]
theorem zVi (cs : List (C α)) (p : List Nat) : xA (cs.map (zJ g)) p = (xA cs p).map (·.map (zJ g)) := by
 cases p with
 | nil => simp [xA]
 | cons i p =>
  simp only [xA, List.getElem?_map]
  cases h : cs[i]? with
  | none => simp
  | some x =>
   cases x with
   | t x =>
    cases x with
    | sl a tag sz n ds =>
     cases tag with
     | zero =>
      simp only [Option.map_some, zJ, yA, yQ, zQd, Option.map_map]
      cases sub ds p with
      | none => simp
      | some es => simp [zJ, Function.comp_def]
     | succ m => simp [zJ, yA]
    | _ => simp [zJ, yA]
   | _ => simp [zJ]
theorem zU3 (cs : List (C α)) (p : List Nat) (off : Nat) (y : C α) : wJ (cs.map (zJ g)) p off (zJ g y) = (wJ cs p off y).map (·.map (zJ g)) := by
 cases p with
 | nil =>
  simp only [wJ, List.length_map]
  split <;> simp [List.map_set]
 | cons i p =>
  cases y with
  | t y =>
   simp only [zJ, wJ, List.getElem?_map]
   cases h : cs[i]? with
   | none => simp
   | some x =>
    cases x with
    | t x =>
     cases x with
     | sl a tag sz n ds =>
      cases tag with
      | zero =>
       simp only [Option.map_some, zJ, yA, yQ, zLj, Option.map_map]
       cases xK ds p off y with
       | none => simp
       | some ds' => simp [List.map_set, zJ, yA, yQ]
      | succ m => simp [zJ, yA]
     | _ => simp [zJ, yA]
    | _ => simp [zJ]
  | _ => simp [zJ, wJ]
theorem zFi : ∀ xs : List (X α), zU (xs.map (zV g)) = (zU xs).map (zJ g)
 | [] => by simp [zU]
 | x :: xs => by cases x <;> simp [zU, zV, zFi xs, zR]
theorem fM (S : St α) (r : Root) : zA (jW g S) r = (zA S r).map (·.map (zJ g)) := by
 cases r with
 | sl d => simp only [zA, jW]; cases h : S.s d <;> simp [zV, zR, wW, zFi]
 | ex j =>
  simp only [zA, jW, List.getElem?_map]
  cases S.e[j]? <;> simp [zR]
theorem mB (S : St α) (r : Root) (p : List Nat) (off : Nat) : at_ (jW g S) r p off = (at_ S r p off).map (zJ g) := by
 simp only [at_, fM]
 cases zA S r with
 | none => simp
 | some cs =>
  simp only [Option.map_some, Option.bind_some, zVi]
  cases xA cs p with
  | none => simp
  | some ds => simp
theorem zA6 (r : Root) (p : List Nat) (i : Nat) (c : C α) : rdc r p i (zJ g c) = zJ g (rdc r p i c) := by
 cases c with
 | t x =>
  cases x with
  | sl a tag sz n ds => cases tag <;> simp [rdc, zJ, yA]
  | _ => simp [rdc, zJ, yA]
 | _ => simp [rdc, zJ, yA]
theorem oR (S : St α) (r : Root) (p : List Nat) : ∀ (n off : Nat), j8 (jW g S) r p off n = (j8 S r p off n).map (·.map (zJ g))
 | 0, off => by simp [j8]
 | n + 1, off => by
  simp only [j8, mB, oR S r p n]
  cases at_ S r p off with
  | none => simp
  | some c =>
   cases j8 S r p (off + 1) n with
   | none => simp
   | some cs => simp [zA6]
theorem zD7 : ∀ (xs : List (X α)) (cs : List (C α)), yH (xs.map (zV g)) (cs.map (zJ g)) = (yH xs cs).map (zV g)
 | [], cs => by simp [yH]
 | x :: xs, cs => by
  have ih := zD7 xs
  cases x with
  | c x =>
   have := ih cs.tail
   simp only [List.map_tail] at this
   cases cs <;> simp_all [yH, zV]
  | agg ds =>
   have h1 := ih (cs.drop ds.length)
   simp only [List.map_drop] at h1
   simp [yH, zV, zR, h1, List.map_take]
  | _ => simp [yH, zV, ih]
theorem zLm (x : X α) (cs : List (C α)) : qH (zV g x) (cs.map (zJ g)) = zV g (qH x cs) := by
 cases x with
 | c x =>
  cases cs with
  | nil => simp [qH, zV]
  | cons y ys => cases ys <;> simp [qH, zV]
 | agg ds => simp [qH, zV, zR]
 | box a ds => simp [qH, zV, zR]
 | tup xs => simp [qH, zV, wW, zD7]
 | undef => simp [qH, zV]
theorem cX (s : Nat → X α) (d : Nat) (x : X α) : (fun i => zV g (upd s d x i)) = upd (fun i => zV g (s i)) d (zV g x) := by
 funext i
 simp only [upd]
 split <;> rfl
theorem zLg (S : St α) (r : Root) (cs : List (C α)) : zM (jW g S) r (cs.map (zJ g)) = jW g (zM S r cs) := by
 cases r with
 | sl d => simp only [zM, jW, zLm, cX]
 | ex j => simp [zM, jW, zR, List.map_set]
theorem uV (S : St α) (r : Root) (p : List Nat) (off : Nat) (c : C α) : z9 (jW g S) r p off (zJ g c) = (z9 S r p off c).map (jW g) := by
 simp only [z9, fM]
 cases zA S r with
 | none => simp
 | some cs =>
  simp only [Option.map_some, Option.bind_some, zU3]
  cases wJ cs p off c with
  | none => simp
  | some ds => simp [zLg]
mutual
theorem oO (r : Root) (q : List Nat) : ∀ c : C α, zT r q (zJ g c) = zJ g (zT r q c)
 | .t x => by simp [zT, zJ]
 | .ptr a r' p off => by simp only [zJ, zT]; split <;> simp [zJ, yA]
 | .bor a r' p i off sz n => by simp only [zJ, zT]; split <;> simp [zJ, yA]
 | .rptr a cs => by simp [zT, zJ]
 | .nilp => by simp [zT, zJ]
 | .fn f caps => by simp [zT, zJ, gW r q caps]
 | .nilf => by simp [zT, zJ]
 | .lst a sz n cs => by simp [zT, zJ, gW r q cs]
theorem gW (r : Root) (q : List Nat) : ∀ cs : List (C α), yV r q (yZ g cs) = yZ g (yV r q cs)
 | [] => by simp [yV, yZ]
 | c :: cs => by simp [yV, yZ, oO r q c, gW r q cs]
end
mutual
theorem zFs (r : Root) (q : List Nat) : ∀ x : X α, z7 r q (zV g x) = zV g (z7 r q x)
 | .c x => by simp [z7, zV, oO]
 | .agg cs => by simp [z7, zV, gW]
 | .box a cs => by simp [z7, zV, gW]
 | .tup xs => by simp [z7, zV, zCo r q xs]
 | .undef => by simp [z7, zV]
theorem zCo (r : Root) (q : List Nat) : ∀ xs : List (X α), xB r q (wV g xs) = wV g (xB r q xs)
 | [] => by simp [xB, wV]
 | x :: xs => by simp [xB, wV, zFs r q x, zCo r q xs]
end
theorem lE (S : St α) (r : Root) (q : List Nat) : kill r q (jW g S) = jW g (kill r q S) := by
 simp only [kill, jW, zFs]
 congr 1
 simp [gW, Function.comp_def]
mutual
theorem o4 : ∀ x : T α, retag (yA g x) = yA g (retag x)
 | .sl a tag sz n cs => by simp [yA, retag, tA cs]
 | .int _ _ => by simp [retag, yA]
 | .bool _ => by simp [retag, yA]
 | .str _ => by simp [retag, yA]
 | .dead _ => by simp [retag, yA]
 | .nili => by simp [retag, yA]
 | .ifc _ => by simp [retag, yA]
theorem tA : ∀ xs : List (T α), zI (kV g xs) = kV g (zI xs)
 | [] => by simp [zI, kV]
 | x :: xs => by simp [zI, kV, o4 x, tA xs]
end
mutual
theorem zBt : ∀ x : T α, down (yA g x) = (down x).map (yA g)
 | .sl a tag sz n cs => by
  simp only [yA, down]
  split
  ·simp
  ·rw [zFa cs]
   cases yT cs <;> simp [yA]
 | .int _ _ => by simp [down, yA]
 | .bool _ => by simp [down, yA]
 | .str _ => by simp [down, yA]
 | .dead _ => by simp [down, yA]
 | .nili => by simp [down, yA]
 | .ifc _ => by simp [down, yA]
theorem zFa : ∀ xs : List (T α), yT (kV g xs) = (yT xs).map (kV g)
 | [] => by simp [yT, kV]
 | x :: xs => by
  simp only [kV, yT, zBt x, zFa xs]
  cases down x with
  | none => simp
  | some y => cases yT xs <;> simp [kV]
end
theorem sY (S : St α) (r : Root) (p : List Nat) (i off m : Nat) : qF (jW g S) r p i off m = (qF S r p i off m).map (·.map (yA g)) := by
 simp only [qF, mB]
 cases at_ S r p i with
 | none => simp
 | some c =>
  cases c with
  | t x =>
   cases x with
   | sl a tag sz n ds =>
    cases tag with
    | zero =>
     simp only [Option.map_some, zJ, yA, yQ, List.length_map]
     split <;> simp [List.map_take, List.map_drop]
    | succ m => simp [zJ, yA]
   | _ => simp [zJ, yA]
  | _ => simp [zJ]
theorem lC (c : C α) : qJ (zJ g c) = qJ c := by
 cases c with
 | t x =>
  cases x with
  | sl a tag sz n ds => cases tag <;> simp [qJ, zJ, yA]
  | _ => simp [qJ, zJ, yA]
 | _ => simp [qJ, zJ]
theorem zMb (cs : List (C α)) : (cs.map (zJ g)).any qJ = cs.any qJ := by
 induction cs with
 | nil => rfl
 | cons c cs ih => simp [lC, ih]
theorem zB8 (x : X α) : yO (zV g x) = yO x := by
 cases x with
 | c x => simp [yO, zV, lC]
 | agg cs => simp only [yO, zV, zR, zMb]
 | box a cs => simp [yO, zV]
 | tup xs =>
  simp only [yO, zV, wW]
  induction xs with
  | nil => rfl
  | cons x xs ih =>
   simp only [List.map_cons, List.any_cons, ih]
   congr 1
   cases x <;> simp [zPu, zV, lC, zR, Function.comp_def]
 | undef => simp [yO, zV]
theorem zNx (S : St α) (a : α) (r : Root) (p : List Nat) (i off sz n : Nat) :
  xP (jW g S) (g a) r p i off sz n = (xP S a r p i off sz n).map fun q => (yA g q.1, jW g q.2) := by
 simp only [xP, mB]
 cases at_ S r p i with
 | none => simp
 | some c =>
  cases c with
  | t x =>
   cases x with
   | sl b tag sz' n' ds =>
    cases tag with
    | zero =>
     simp only [Option.map_some, zJ, yA, yQ, List.length_map]
     split
     ·have := uV g S r p i (.t (.dead b))
      simp only [zJ, yA] at this
      rw [this]
      cases z9 S r p i (.t (.dead b)) with
      | none => simp
      | some S' => simp [yA, yQ, List.map_take, List.map_drop, lE]
     ·simp
    | succ m => simp [zJ, yA]
   | _ => simp [zJ, yA]
  | _ => simp [zJ]
end
end Go.Proofs.Ytlkjnlfddadlmaa.V
namespace Go.Proofs.Ytlkjnlfddadlmaa.V
open Go.RowKit
abbrev TV := T Value
abbrev CV := C Value
abbrev XV := X Value
abbrev SV := St Value
def er0 : Value → Unit := fun _ => ()
abbrev erT : TV → TU := yA er0
abbrev erC : CV → CU := zJ er0
abbrev erX : XV → XU := zV er0
abbrev erS : SV → SU := jW er0
def zZ : TV → Value
 | .int k n => .int k n
 | .bool b => .bool b
 | .str s => .string ⟨s.toArray⟩
 | .sl a _ _ _ _ => a
 | .dead a => a
 | .nili => .nilIface
 | .ifc a => a
mutual
def zN : CV → Value
 | .t x => zZ x
 | .ptr a _ _ _ => a
 | .bor a _ _ _ _ _ _ => a
 | .rptr a _ => a
 | .nilp => .pointer none
 | .fn f caps => .func (.func f) #[] (yC caps).toArray
 | .nilf => .nilFunc
 | .lst a _ _ _ => a
def yC : List CV → List Value
 | [] => []
 | c :: cs => zN c :: yC cs
end
mutual
def zS : XV → Value
 | .c x => zN x
 | .agg cs => .agg (yC cs).toArray
 | .box a _ => a
 | .tup xs => .tuple (kG xs).toArray
 | .undef => undef
def kG : List XV → List Value
 | [] => []
 | x :: xs => zS x :: kG xs
end
theorem z8 : ∀ cs : List CV, yC cs = cs.map zN
 | [] => by simp [yC]
 | c :: cs => by simp [yC, z8 cs]
theorem cY : ∀ cs : List XV, kG cs = cs.map zS
 | [] => by simp [kG]
 | c :: cs => by simp [kG, cY cs]
def v8 (w : World) (b o : Nat) (vs : List Value) : Prop := ∀ j v, vs[j]? = some v → w.cell? ⟨b, o + j, none⟩ = some v
def Win (b o lim sz n : Nat) (a : Value) : Prop :=
 ∃ ad cap, a = .slice (some ad) n cap ∧ n ≤ cap ∧ ad.spot = none ∧ ad.block = b ∧ (cap = 0 ∨ (ad.off = o ∧ o + cap * sz ≤ lim))
def wM (w : World) (a : Value) (sz n : Nat) (vs : List Value) : Prop :=
 (a = .slice none 0 0 ∧ n = 0) ∨
 ∃ b o cur e, Win b o cur.size sz n a ∧ w.heap[b]? = some (.cells cur e (0, 0)) ∧ ∀ j v, vs[j]? = some v → cur[o + j]? = some v
def tJ (w : World) (R : Nat → Prop) (a : Value) (n : Nat) (vs : List Value) : Prop :=
 ∃ A cap, a = .slice A n cap ∧ n ≤ cap ∧ (n = 0 ∨ ∃ ad, A = some ad ∧ ad.spot = none ∧ R ad.block ∧ v8 w ad.block ad.off vs)
mutual
def shT (g : Nat) : TV → Prop
 | .sl _ tag _ _ cs => 1 ≤ tag ∧ g ≤ tag ∧ jN g cs
 | _ => True
def jN (g : Nat) : List TV → Prop
 | [] => True
 | x :: xs => shT g x ∧ jN g xs
end
mutual
def okT (w : World) (P : Nat → Nat → Prop) (R : Nat → Prop) : TV → Prop
 | .sl a tag sz n cs => cs.length = n * sz ∧ xS w P R cs ∧
   (if tag = 0 then wM w a sz n (cs.map zZ) else tJ w (P tag) a n (cs.map zZ) ∧ 1 ≤ tag ∧ jN tag cs)
 | .dead a => (∃ A n c, a = .slice A n c) ∨ ∃ p, a = .pointer p
 | .ifc a => ∃ t v, a = .iface t v
 | _ => True
def xS (w : World) (P : Nat → Nat → Prop) (R : Nat → Prop) : List TV → Prop
 | [] => True
 | x :: xs => okT w P R x ∧ xS w P R xs
end
def hdr : Value → List Nat
 | .slice (some ad) _ _ => [ad.block]
 | .pointer (some ad) => [ad.block]
 | _ => []
mutual
def zY : TV → List Nat
 | .sl a tag _ _ cs => if tag = 0 then hdr a ++ z6 cs else []
 | _ => []
def z6 : List TV → List Nat
 | [] => []
 | x :: xs => zY x ++ z6 xs
end
mutual
def zQ : CV → List Nat
 | .t x => zY x
 | .lst a _ _ cs => hdr a ++ zH cs
 | _ => []
def zH : List CV → List Nat
 | [] => []
 | x :: xs => zQ x ++ zH xs
end
mutual
def zE : XV → List Nat
 | .c x => zQ x
 | .agg cs => zH cs
 | .box a cs => hdr a ++ zH cs
 | .tup xs => xN xs
 | .undef => []
def xN : List XV → List Nat
 | [] => []
 | x :: xs => zE x ++ xN xs
end
theorem xQ {g : Nat} : ∀ {xs : List TV}, jN g xs ↔ ∀ x ∈ xs, shT g x
 | [] => by simp [jN]
 | x :: xs => by simp [jN, xQ (xs := xs)]
theorem yJ {w : World} {P : Nat → Nat → Prop} {R : Nat → Prop} : ∀ {xs : List TV}, xS w P R xs ↔ ∀ x ∈ xs, okT w P R x
 | [] => by simp [xS]
 | x :: xs => by simp [xS, yJ (xs := xs)]
theorem xD : ∀ xs : List TV, z6 xs = xs.flatMap zY
 | [] => by simp [z6]
 | x :: xs => by simp [z6, xD xs]
theorem yX : ∀ xs : List CV, zH xs = xs.flatMap zQ
 | [] => by simp [zH]
 | x :: xs => by simp [zH, yX xs]
inductive EA where
 | box (ad : Addr)
 | row (vs : List Value)
def EA.ad : EA → Option Addr
 | .box ad => some ad
 | .row _ => none
def rootAd (S : SV) (ea : List EA) : Root → Option Addr
 | .sl d => match S.s d with
  | .box (.pointer (some ad)) _ => some ad
  | _ => none
 | .ex j => (ea[j]?).bind EA.ad
def wO (S : SV) (r : Root) (p : List Nat) (i : Nat) : Option Value :=
 match at_ S r p i with
 | some (.t (.sl a 0 _ _ _)) => some a
 | _ => none
def yW (S : SV) (ea : List EA) (r : Root) (p : List Nat) : Option Addr :=
 if p = [] then rootAd S ea r else match wO S r p.dropLast (p.getLast?.getD 0) with
  | some (.slice (some ad) _ _) => some ad
  | _ => none
def vR (S : SV) (ea : List EA) (r : Root) (p : List Nat) (off : Nat) (a : Value) : Prop :=
 ∃ ad, yW S ea r p = some ad ∧ a = .pointer (some ⟨ad.block, ad.off + off, none⟩)
def wQ (S : SV) (r : Root) (p : List Nat) (i off sz n : Nat) (a : Value) : Prop :=
 ∃ b m ds, at_ S r p i = some (.t (.sl b 0 sz m ds)) ∧ off + n * sz ≤ ds.length ∧
  ((b = .slice none 0 0 ∧ a = .slice none 0 0 ∧ n = 0) ∨
   ∃ ad cap, b = .slice (some ad) m cap ∧ Win ad.block (ad.off + off) (ad.off + cap * sz) sz n a)
mutual
def okC (w : World) (P : Nat → Nat → Prop) (R : Nat → Prop) (S : SV) (ea : List EA) : CV → Prop
 | .t x => okT w P R x
 | .ptr a r p off => vR S ea r p off a
 | .bor a r p i off sz n => wQ S r p i off sz n a
 | .rptr a cs => xS w P R cs ∧ jN 1 cs ∧ ∃ ad, a = .pointer (some ad) ∧ ad.spot = none ∧ (cs = [] ∨ (R ad.block ∧ v8 w ad.block ad.off (cs.map zZ)))
 | .fn _ caps => yF w P R S ea caps ∧ zH caps = []
 | .lst a sz n cs => cs.length = n * sz ∧ yF w P R S ea cs ∧ wM w a sz n (yC cs)
 | .nilp => True
 | .nilf => True
def yF (w : World) (P : Nat → Nat → Prop) (R : Nat → Prop) (S : SV) (ea : List EA) : List CV → Prop
 | [] => True
 | x :: xs => okC w P R S ea x ∧ yF w P R S ea xs
end
def vQ (w : World) (ad : Addr) (cs : List CV) : Prop :=
 ad.off = 0 ∧ ad.spot = none ∧ ∃ cur e, w.heap[ad.block]? = some (.cells cur e (0, 0)) ∧ cur.toList = yC cs
mutual
def okX (w : World) (P : Nat → Nat → Prop) (R : Nat → Prop) (S : SV) (ea : List EA) : XV → Prop
 | .c x => okC w P R S ea x
 | .agg cs => yF w P R S ea cs
 | .box a cs => yF w P R S ea cs ∧ ∃ ad, a = .pointer (some ad) ∧ vQ w ad cs
 | .tup xs => x9 w P R S ea xs
 | .undef => True
def x9 (w : World) (P : Nat → Nat → Prop) (R : Nat → Prop) (S : SV) (ea : List EA) : List XV → Prop
 | [] => True
 | x :: xs => okX w P R S ea x ∧ x9 w P R S ea xs
end
theorem z0 {w : World} {P : Nat → Nat → Prop} {R : Nat → Prop} {S : SV} {ea : List EA} : ∀ {xs : List CV}, yF w P R S ea xs ↔ ∀ x ∈ xs, okC w P R S ea x
 | [] => by simp [yF]
 | x :: xs => by simp [yF, z0 (xs := xs)]
theorem nW {w : World} {P : Nat → Nat → Prop} {R : Nat → Prop} {S : SV} {ea : List EA} : ∀ {xs : List XV}, x9 w P R S ea xs ↔ ∀ x ∈ xs, okX w P R S ea x
 | [] => by simp [x9]
 | x :: xs => by simp [x9, nW (xs := xs)]
mutual
def zF : CV → List Root
 | .ptr _ r _ _ => [r]
 | .bor _ r _ _ _ _ _ => [r]
 | .fn _ caps => zL caps
 | .lst _ _ _ cs => zL cs
 | _ => []
def zL : List CV → List Root
 | [] => []
 | c :: cs => zF c ++ zL cs
end
mutual
def zD : XV → List Root
 | .c x => zF x
 | .agg cs => zL cs
 | .box _ cs => zL cs
 | .tup xs => yR xs
 | .undef => []
def yR : List XV → List Root
 | [] => []
 | x :: xs => zD x ++ yR xs
end
theorem yI : ∀ xs : List CV, zL xs = xs.flatMap zF
 | [] => by simp [zL]
 | x :: xs => by simp [zL, yI xs]
theorem oY : ∀ xs : List XV, yR xs = xs.flatMap zD
 | [] => by simp [yR]
 | x :: xs => by simp [yR, oY xs]
theorem zQx {w w' : World} {b o : Nat} (h : w'.heap[b]? = w.heap[b]?) : w'.cell? ⟨b, o, none⟩ = w.cell? ⟨b, o, none⟩ := World.cell?_of_block (a := ⟨b, o, none⟩) h
theorem tX {w w' : World} {b o : Nat} {vs : List Value} (h : w'.heap[b]? = w.heap[b]?) (hc : v8 w b o vs) : v8 w' b o vs :=
 fun j v hv => (zQx h).trans (hc j v hv)
theorem wM.same {w w' : World} {a : Value} {sz n : Nat} {vs : List Value} (h : wM w a sz n vs) (hb : ∀ b ∈ hdr a, w'.heap[b]? = w.heap[b]?) : wM w' a sz n vs := by
 rcases h with h | ⟨b, o, cur, e, hw, hh, hv⟩
 ·exact .inl h
 ·refine .inr ⟨b, o, cur, e, hw, ?_, hv⟩
  obtain ⟨ad, cap, rfl, _, _, rfl, _⟩ := hw
  exact (hb _ (by simp [hdr])).trans hh
theorem tJ.same {w w' : World} {R : Nat → Prop} {a : Value} {n : Nat} {vs : List Value} (h : tJ w R a n vs) (hR : ∀ b, R b → w'.heap[b]? = w.heap[b]?) : tJ w' R a n vs := by
 obtain ⟨A, cap, ha, hc, h⟩ := h
 refine ⟨A, cap, ha, hc, h.imp id fun ⟨ad, h1, h2, h3, h4⟩ => ⟨ad, h1, h2, h3, tX (hR _ h3) h4⟩⟩
mutual
theorem aY {w w' : World} {P : Nat → Nat → Prop} {R : Nat → Prop} (hP : ∀ t b, P t b → w'.heap[b]? = w.heap[b]?) (hR : ∀ b, R b → w'.heap[b]? = w.heap[b]?) :
  ∀ {x : TV}, okT w P R x → (∀ b ∈ zY x, w'.heap[b]? = w.heap[b]?) → okT w' P R x
 | .sl a tag sz n cs, h, hb => by
  simp only [okT] at h ⊢
  obtain ⟨h1, h2, h3⟩ := h
  simp only [zY] at hb
  by_cases ht : tag = 0
  ·rw [if_pos ht] at h3 hb ⊢
   exact ⟨h1, zF5 hP hR h2 (fun b h => hb b (List.mem_append_right _ h)), h3.same (fun b h => hb b (List.mem_append_left _ h))⟩
  ·rw [if_neg ht] at h3 ⊢
   have hsh : ∀ x ∈ cs, shT tag x := xQ.1 h3.2.2
   refine ⟨h1, ?_, h3.1.same ?_, h3.2⟩
   ·exact bM hP hR h2 h3.2.2
   ·exact fun b hb' => hP tag b hb'
 | .dead a, h, _ => by simpa [okT] using h
 | .ifc a, h, _ => by simpa [okT] using h
 | .int _ _, _, _ => by simp [okT]
 | .bool _, _, _ => by simp [okT]
 | .str _, _, _ => by simp [okT]
 | .nili, _, _ => by simp [okT]
theorem zF5 {w w' : World} {P : Nat → Nat → Prop} {R : Nat → Prop} (hP : ∀ t b, P t b → w'.heap[b]? = w.heap[b]?) (hR : ∀ b, R b → w'.heap[b]? = w.heap[b]?) :
  ∀ {xs : List TV}, xS w P R xs → (∀ b ∈ z6 xs, w'.heap[b]? = w.heap[b]?) → xS w' P R xs
 | [], _, _ => by simp [xS]
 | x :: xs, h, hb => by
  simp only [xS, z6] at h hb ⊢
  exact ⟨aY hP hR h.1 (fun b h => hb b (List.mem_append_left _ h)), zF5 hP hR h.2 (fun b h => hb b (List.mem_append_right _ h))⟩
theorem zKg {w w' : World} {P : Nat → Nat → Prop} {R : Nat → Prop} (hP : ∀ t b, P t b → w'.heap[b]? = w.heap[b]?) (hR : ∀ b, R b → w'.heap[b]? = w.heap[b]?) :
  ∀ {g : Nat} {x : TV}, okT w P R x → shT g x → okT w' P R x
 | g, .sl a tag sz n cs, h, hs => by
  simp only [okT, shT] at h hs ⊢
  obtain ⟨h1, h2, h3⟩ := h
  have ht : tag ≠ 0 := by omega
  rw [if_neg ht] at h3 ⊢
  refine ⟨h1, bM hP hR h2 hs.2.2, h3.1.same ?_, h3.2⟩
  exact fun b hb' => hP tag b hb'
 | _, .dead a, h, _ => by simpa [okT] using h
 | _, .ifc a, h, _ => by simpa [okT] using h
 | _, .int _ _, _, _ => by simp [okT]
 | _, .bool _, _, _ => by simp [okT]
 | _, .str _, _, _ => by simp [okT]
 | _, .nili, _, _ => by simp [okT]
theorem bM {w w' : World} {P : Nat → Nat → Prop} {R : Nat → Prop} (hP : ∀ t b, P t b → w'.heap[b]? = w.heap[b]?) (hR : ∀ b, R b → w'.heap[b]? = w.heap[b]?) :
  ∀ {g : Nat} {xs : List TV}, xS w P R xs → jN g xs → xS w' P R xs
 | _, [], _, _ => by simp [xS]
 | g, x :: xs, h, hs => by
  simp only [xS, jN] at h hs ⊢
  exact ⟨zKg hP hR h.1 hs.1, bM hP hR h.2 hs.2⟩
end
theorem tP {S S' : SV} {r : Root} (h : zA S' r = zA S r) (p : List Nat) (i : Nat) : at_ S' r p i = at_ S r p i := by simp [at_, h]
mutual
theorem lJ {w w' : World} {P : Nat → Nat → Prop} {R : Nat → Prop} {S S' : SV} {ea : List EA} (hP : ∀ t b, P t b → w'.heap[b]? = w.heap[b]?) (hR : ∀ b, R b → w'.heap[b]? = w.heap[b]?) :
  ∀ {c : CV}, okC w P R S ea c → (∀ b ∈ zQ c, w'.heap[b]? = w.heap[b]?) → (∀ r ∈ zF c, zA S' r = zA S r ∧ rootAd S' ea r = rootAd S ea r) → okC w' P R S' ea c
 | .t x, h, hb, _ => by simp only [okC, zQ] at h hb ⊢; exact aY hP hR h hb
 | .ptr a r p off, h, _, hr => by
  simp only [okC, vR, zF, yW, wO] at h hr ⊢
  obtain ⟨h1, h2⟩ := hr r (by simp)
  simpa only [tP h1, h2] using h
 | .bor a r p i off sz n, h, _, hr => by
  simp only [okC, wQ, zF] at h hr ⊢
  obtain ⟨h1, h2⟩ := hr r (by simp)
  simpa only [tP h1] using h
 | .rptr a cs, h, _, _ => by
  simp only [okC] at h ⊢
  obtain ⟨h1, h2, ad, h3, h4, h5⟩ := h
  exact ⟨bM hP hR h1 h2, h2, ad, h3, h4, h5.imp id fun h => ⟨h.1, tX (hR _ h.1) h.2⟩⟩
 | .fn f caps, h, _, hr => by
  simp only [okC, zF] at h hr ⊢
  exact ⟨jF hP hR h.1 (fun b hb => by rw [h.2] at hb; simp at hb) hr, h.2⟩
 | .lst a sz n cs, h, hb, hr => by
  simp only [okC, zQ, zF] at h hb hr ⊢
  exact ⟨h.1, jF hP hR h.2.1 (fun b h => hb b (List.mem_append_right _ h)) hr, h.2.2.same (fun b h => hb b (List.mem_append_left _ h))⟩
 | .nilp, _, _, _ => by simp [okC]
 | .nilf, _, _, _ => by simp [okC]
theorem jF {w w' : World} {P : Nat → Nat → Prop} {R : Nat → Prop} {S S' : SV} {ea : List EA} (hP : ∀ t b, P t b → w'.heap[b]? = w.heap[b]?) (hR : ∀ b, R b → w'.heap[b]? = w.heap[b]?) :
  ∀ {cs : List CV}, yF w P R S ea cs → (∀ b ∈ zH cs, w'.heap[b]? = w.heap[b]?) → (∀ r ∈ zL cs, zA S' r = zA S r ∧ rootAd S' ea r = rootAd S ea r) → yF w' P R S' ea cs
 | [], _, _, _ => by simp [yF]
 | c :: cs, h, hb, hr => by
  simp only [yF, zH, zL] at h hb hr ⊢
  exact ⟨lJ hP hR h.1 (fun b h => hb b (List.mem_append_left _ h)) (fun r h => hr r (List.mem_append_left _ h)),
   jF hP hR h.2 (fun b h => hb b (List.mem_append_right _ h)) (fun r h => hr r (List.mem_append_right _ h))⟩
end
mutual
theorem kD {w w' : World} {P : Nat → Nat → Prop} {R : Nat → Prop} {S S' : SV} {ea : List EA} (hP : ∀ t b, P t b → w'.heap[b]? = w.heap[b]?) (hR : ∀ b, R b → w'.heap[b]? = w.heap[b]?) :
  ∀ {x : XV}, okX w P R S ea x → (∀ b ∈ zE x, w'.heap[b]? = w.heap[b]?) → (∀ r ∈ zD x, zA S' r = zA S r ∧ rootAd S' ea r = rootAd S ea r) → okX w' P R S' ea x
 | .c x, h, hb, hr => by simp only [okX, zE, zD] at h hb hr ⊢; exact lJ hP hR h hb hr
 | .agg cs, h, hb, hr => by simp only [okX, zE, zD] at h hb hr ⊢; exact jF hP hR h hb hr
 | .box a cs, h, hb, hr => by
  simp only [okX, zE, zD] at h hb hr ⊢
  obtain ⟨h1, ad, rfl, h2, h3, cur, e, h4, h5⟩ := h
  exact ⟨jF hP hR h1 (fun b h => hb b (List.mem_append_right _ h)) hr, ad, rfl, h2, h3, cur, e, (hb _ (by simp [hdr])).trans h4, h5⟩
 | .tup xs, h, hb, hr => by simp only [okX, zE, zD] at h hb hr ⊢; exact zF8 hP hR h hb hr
 | .undef, _, _, _ => by simp [okX]
theorem zF8 {w w' : World} {P : Nat → Nat → Prop} {R : Nat → Prop} {S S' : SV} {ea : List EA} (hP : ∀ t b, P t b → w'.heap[b]? = w.heap[b]?) (hR : ∀ b, R b → w'.heap[b]? = w.heap[b]?) :
  ∀ {xs : List XV}, x9 w P R S ea xs → (∀ b ∈ xN xs, w'.heap[b]? = w.heap[b]?) → (∀ r ∈ yR xs, zA S' r = zA S r ∧ rootAd S' ea r = rootAd S ea r) → x9 w' P R S' ea xs
 | [], _, _, _ => by simp [x9]
 | x :: xs, h, hb, hr => by
  simp only [x9, xN, yR] at h hb hr ⊢
  exact ⟨kD hP hR h.1 (fun b h => hb b (List.mem_append_left _ h)) (fun r h => hr r (List.mem_append_left _ h)),
   zF8 hP hR h.2 (fun b h => hb b (List.mem_append_right _ h)) (fun r h => hr r (List.mem_append_right _ h))⟩
end
def zO (S : SV) (ea : List EA) : Root → List Nat
 | .sl d => zE (S.s d)
 | .ex j => (match (ea[j]?).bind EA.ad with | some ad => [ad.block] | none => []) ++ (match S.e[j]? with | some cs => zH cs | none => [])
structure Frm (E : Nat → Prop) (w w' : World) : Prop where
 os : w'.os = w.os
 tape : w'.tape = w.tape
 output : w'.output = w.output
 size : w.heap.size ≤ w'.heap.size
 block : ∀ k, k < w.heap.size → ¬ E k → w'.heap[k]? = w.heap[k]?
theorem Frm.refl (E : Nat → Prop) (w : World) : Frm E w w := ⟨rfl, rfl, rfl, Nat.le_refl _, fun _ _ _ => rfl⟩
theorem Frm.trans {E : Nat → Prop} {a b c : World} (h : Frm E a b) (k : Frm (fun x => E x ∨ a.heap.size ≤ x) b c) : Frm E a c :=
 ⟨k.os.trans h.os, k.tape.trans h.tape, k.output.trans h.output, Nat.le_trans h.size k.size, fun i hi hE =>
  (k.block i (Nat.lt_of_lt_of_le hi h.size) (fun h' => h'.elim hE (fun h' => by omega))).trans (h.block i hi hE)⟩
theorem Frm.mono {E E' : Nat → Prop} {a b : World} (h : Frm E a b) (hE : ∀ k, E k → E' k) : Frm E' a b :=
 ⟨h.os, h.tape, h.output, h.size, fun k hk hn => h.block k hk (fun h' => hn (hE k h'))⟩
structure Rel (isv : Nat → Bool) (w0 : World) (E0 : Nat → Prop) (P : Nat → Nat → Prop) (R : Nat → Prop) (ea : List EA) (w : World) (S : SV) (tmps : Array Value) : Prop where
 val : ∀ d, d < tmps.size → S.s d = .undef ∨ tmps[d]? = some (zS (S.s d))
 hi : ∀ d, tmps.size ≤ d → S.s d = .undef
 okS : ∀ d, okX w P R S ea (S.s d)
 okE : ∀ (j : Nat) cs, S.e[j]? = some cs → yF w P R S ea cs ∧ ∀ ad, (ea[j]?).bind EA.ad = some ad → vQ w ad cs
 eaL : ea.length = S.e.length
 row : ∀ (j : Nat) vs cs, ea[j]? = some (.row vs) → S.e[j]? = some cs → yC cs = vs
 refS : ∀ d d', Root.sl d' ∈ zD (S.s d) → isv d' = true
 refE : ∀ (j : Nat) cs d', S.e[j]? = some cs → Root.sl d' ∈ zL cs → isv d' = true
 dis : ∀ r r' b, b ∈ zO S ea r → b ∈ zO S ea r' → r = r'
 nd : ∀ r, (zO S ea r).Nodup
 lt : ∀ r b, b ∈ zO S ea r → b < w.heap.size
 own : ∀ r b, b ∈ zO S ea r → E0 b ∨ w0.heap.size ≤ b
 notR : ∀ r b, b ∈ zO S ea r → ¬ R b
 PR : ∀ t b, P t b → R b
 ltR : ∀ b, R b → b < w.heap.size
 frm : Frm E0 w0 w
end Go.Proofs.Ytlkjnlfddadlmaa.V
namespace Go.Proofs.Ytlkjnlfddadlmaa.V
open Go.RowKit
section
variable {isv : Nat → Bool} {w0 : World} {E0 : Nat → Prop} {P : Nat → Nat → Prop} {R : Nat → Prop} {ea : List EA} {w w' : World} {S S' : SV} {tmps : Array Value}
structure Grow (w w' : World) : Prop where
 os : w'.os = w.os
 tape : w'.tape = w.tape
 output : w'.output = w.output
 size : w.heap.size ≤ w'.heap.size
 block : ∀ k, k < w.heap.size → w'.heap[k]? = w.heap[k]?
theorem Grow.refl (w : World) : Grow w w := ⟨rfl, rfl, rfl, Nat.le_refl _, fun _ _ => rfl⟩
theorem Grow.trans {a b c : World} (h : Grow a b) (k : Grow b c) : Grow a c :=
 ⟨k.os.trans h.os, k.tape.trans h.tape, k.output.trans h.output, Nat.le_trans h.size k.size, fun i hi => (k.block i (Nat.lt_of_lt_of_le hi h.size)).trans (h.block i hi)⟩
theorem Grow.alloc (w : World) (o : Obj) : Grow w (w.alloc o) := ⟨rfl, rfl, rfl, by simp, fun k hk => Below.heap_alloc w o k hk⟩
theorem Grow.drew (w : World) : Grow w w.drew := ⟨rfl, rfl, rfl, Nat.le_refl _, fun _ _ => rfl⟩
theorem Grow.frm {E : Nat → Prop} {a : World} (h : Grow w w') (k : Frm E a w) : Frm E a w' :=
 ⟨h.os.trans k.os, h.tape.trans k.tape, h.output.trans k.output, Nat.le_trans k.size h.size, fun i hi hE => (h.block i (Nat.lt_of_lt_of_le hi k.size)).trans (k.block i hi hE)⟩
theorem Rel.ltP (h : Rel isv w0 E0 P R ea w S tmps) : ∀ t b, P t b → b < w.heap.size := fun t b hb => h.ltR b (h.PR t b hb)
theorem sD {j : Nat} {cs : List CV} (h : S.e[j]? = some cs) {b : Nat} (hb : b ∈ zH cs) : b ∈ zO S ea (.ex j) := by
 simp only [zO, h]; exact List.mem_append_right _ hb
theorem sC {j : Nat} {ad : Addr} (h : (ea[j]?).bind EA.ad = some ad) : ad.block ∈ zO S ea (.ex j) := by
 simp [zO, h]
theorem vQ.same {ad : Addr} {cs : List CV} (h : vQ w ad cs) (hb : w'.heap[ad.block]? = w.heap[ad.block]?) : vQ w' ad cs := by
 obtain ⟨h1, h2, cur, e, h3, h4⟩ := h
 exact ⟨h1, h2, cur, e, hb.trans h3, h4⟩
theorem Rel.grow (h : Rel isv w0 E0 P R ea w S tmps) (hg : Grow w w') : Rel isv w0 E0 P R ea w' S tmps where
 val := h.val
 hi := h.hi
 okS d := kD (fun _ b hb => hg.block b (h.ltP _ b hb)) (fun b hb => hg.block b (h.ltR b hb)) (h.okS d) (fun b hb => hg.block b (h.lt (.sl d) b hb)) (fun _ _ => ⟨rfl, rfl⟩)
 okE j cs hj := ⟨jF (fun _ b hb => hg.block b (h.ltP _ b hb)) (fun b hb => hg.block b (h.ltR b hb)) (h.okE j cs hj).1 (fun b hb => hg.block b (h.lt (.ex j) b (sD hj hb))) (fun _ _ => ⟨rfl, rfl⟩),
  fun ad had => ((h.okE j cs hj).2 ad had).same (hg.block _ (h.lt (.ex j) _ (sC had)))⟩
 eaL := h.eaL
 row := h.row
 refS := h.refS
 refE := h.refE
 dis := h.dis
 nd := h.nd
 lt r b hb := Nat.lt_of_lt_of_le (h.lt r b hb) hg.size
 own := h.own
 notR := h.notR
 PR := h.PR
 ltR b hb := Nat.lt_of_lt_of_le (h.ltR b hb) hg.size
 frm := hg.frm h.frm
theorem zOl {r : Root} {p : List Nat} {i : Nat} {c : CV} (h : at_ S r p i = some c) : ∃ cs, zA S r = some cs := by
 cases hr : zA S r with
 | some cs => exact ⟨cs, rfl⟩
 | none => simp [at_, hr] at h
theorem zN9 {r : Root} {ad : Addr} (he : ea.length = S.e.length) (h : rootAd S ea r = some ad) : ∃ cs, zA S r = some cs := by
 cases r with
 | sl d =>
  simp only [rootAd] at h
  simp only [zA]
  split at h
  ·rename_i heq; simp [heq]
  ·cases h
 | ex j =>
  simp only [rootAd] at h
  simp only [zA]
  cases hj : ea[j]? with
  | none => simp [hj] at h
  | some o =>
   have hlt : j < ea.length := (List.getElem?_eq_some_iff.1 hj).1
   exact ⟨_, List.getElem?_eq_getElem (by omega)⟩
theorem zUl {r : Root} {p : List Nat} {off : Nat} {a : Value} (he : ea.length = S.e.length) (h : vR S ea r p off a) : ∃ cs, zA S r = some cs := by
 obtain ⟨ad, h, _⟩ := h
 simp only [yW] at h
 split at h
 ·exact zN9 he h
 ·split at h
  ·rename_i heq
   simp only [wO] at heq
   split at heq
   ·rename_i h2; exact zOl h2
   ·cases heq
  ·cases h
mutual
theorem zKe (he : ea.length = S.e.length) : ∀ {c : CV}, okC w P R S ea c → ∀ r ∈ zF c, ∃ cs, zA S r = some cs
 | .t x, _, r, hr => by simp [zF] at hr
 | .ptr a r' p off, h, r, hr => by
  simp only [zF, List.mem_singleton] at hr
  subst hr
  exact zUl he (by simpa [okC] using h)
 | .bor a r' p i off sz n, h, r, hr => by
  simp only [zF, List.mem_singleton] at hr
  subst hr
  simp only [okC, wQ] at h
  obtain ⟨b, m, ds, h1, _⟩ := h
  exact zOl h1
 | .rptr a cs, _, r, hr => by simp [zF] at hr
 | .fn f caps, h, r, hr => by
  simp only [zF, okC] at hr h
  exact g0 he h.1 r hr
 | .lst a sz n cs, h, r, hr => by
  simp only [zF, okC] at hr h
  exact g0 he h.2.1 r hr
 | .nilp, _, r, hr => by simp [zF] at hr
 | .nilf, _, r, hr => by simp [zF] at hr
theorem g0 (he : ea.length = S.e.length) : ∀ {cs : List CV}, yF w P R S ea cs → ∀ r ∈ zL cs, ∃ ds, zA S r = some ds
 | [], _, r, hr => by simp [zL] at hr
 | c :: cs, h, r, hr => by
  simp only [zL, List.mem_append, yF] at hr h
  exact hr.elim (zKe he h.1 r) (g0 he h.2 r)
end
mutual
theorem lM (he : ea.length = S.e.length) : ∀ {x : XV}, okX w P R S ea x → ∀ r ∈ zD x, ∃ cs, zA S r = some cs
 | .c x, h, r, hr => by simp only [okX, zD] at h hr; exact zKe he h r hr
 | .agg cs, h, r, hr => by simp only [okX, zD] at h hr; exact g0 he h r hr
 | .box a cs, h, r, hr => by simp only [okX, zD] at h hr; exact g0 he h.1 r hr
 | .tup xs, h, r, hr => by simp only [okX, zD] at h hr; exact zF7 he h r hr
 | .undef, _, r, hr => by simp [zD] at hr
theorem zF7 (he : ea.length = S.e.length) : ∀ {xs : List XV}, x9 w P R S ea xs → ∀ r ∈ yR xs, ∃ cs, zA S r = some cs
 | [], _, r, hr => by simp [yR] at hr
 | x :: xs, h, r, hr => by
  simp only [yR, List.mem_append, x9] at hr h
  exact hr.elim (lM he h.1 r) (zF7 he h.2 r)
end
structure NoMen (S : SV) (d : Nat) : Prop where
 s : ∀ i, Root.sl d ∉ zD (S.s i)
 e : ∀ (j : Nat) cs, S.e[j]? = some cs → Root.sl d ∉ zL cs
theorem Rel.noMen (h : Rel isv w0 E0 P R ea w S tmps) {d : Nat} (hd : isv d = true → S.s d = .undef) : NoMen S d := by
 by_cases hv : isv d = true
 ·have hu := hd hv
  have hn : ∀ cs, zA S (.sl d) ≠ some cs := fun cs => by simp [zA, hu]
  refine ⟨fun i hi => ?_, fun j cs hj hi => ?_⟩
  ·obtain ⟨cs, hc⟩ := lM h.eaL (h.okS i) _ hi; exact hn cs hc
  ·obtain ⟨cs, hc⟩ := g0 h.eaL (h.okE j cs hj).1 _ hi; exact hn cs hc
 ·exact ⟨fun i hi => hv (h.refS i d hi), fun j cs hj hi => hv (h.refE j cs d hj hi)⟩
theorem wH {r : Root} {d : Nat} {x : XV} (h : r ≠ .sl d) : zA { S with s := upd S.s d x } r = zA S r ∧ rootAd { S with s := upd S.s d x } ea r = rootAd S ea r := by
 cases r with
 | sl d' =>
  have : d' ≠ d := fun e => h (e ▸ rfl)
  simp [zA, rootAd, upd, this]
 | ex j => simp [zA, rootAd]
structure New (isv : Nat → Bool) (w0 : World) (E0 : Nat → Prop) (P : Nat → Nat → Prop) (R : Nat → Prop) (ea : List EA) (w : World) (S : SV) (x : XV) : Prop where
 ok : okX w P R S ea x
 refs : ∀ d', Root.sl d' ∈ zD x → isv d' = true
 nd : (zE x).Nodup
 sep : ∀ r b, b ∈ zE x → b ∉ zO S ea r
 lt : ∀ b ∈ zE x, b < w.heap.size
 own : ∀ b ∈ zE x, E0 b ∨ w0.heap.size ≤ b
 notR : ∀ b ∈ zE x, ¬ R b
theorem qN {r : Root} {d : Nat} {x : XV} (h : r ≠ .sl d) : zO { S with s := upd S.s d x } ea r = zO S ea r := by
 cases r with
 | sl d' =>
  have : d' ≠ d := fun e => h (e ▸ rfl)
  simp [zO, upd, this]
 | ex j => simp [zO]
theorem Rel.put (h : Rel isv w0 E0 P R ea w S tmps) {d : Nat} {x : XV} (hx : New isv w0 E0 P R ea w S x) (hd : isv d = true → S.s d = .undef) (hlt : d < tmps.size) :
  Rel isv w0 E0 P R ea w { S with s := upd S.s d x } (tmps.setIfInBounds d (zS x)) := by
 have hn := h.noMen hd
 have hxn : Root.sl d ∉ zD x := by
  intro hi
  have hv := hx.refs d hi
  obtain ⟨cs, hc⟩ := lM h.eaL hx.ok _ hi
  simp [zA, hd hv] at hc
 have hroot : ∀ r, r ≠ Root.sl d → zA { S with s := upd S.s d x } r = zA S r ∧ rootAd { S with s := upd S.s d x } ea r = rootAd S ea r := fun r hr => wH hr
 constructor
 case val =>
  intro i hi
  by_cases e : i = d
  ·subst e; right; simp [upd, hlt]
  ·simp only [upd, if_neg e, Array.getElem?_setIfInBounds_ne (Ne.symm e)]
   exact h.val i (by simpa using hi)
 case hi =>
  intro i hi
  have : i ≠ d := by simp at hi; omega
  simp only [upd, if_neg this]
  exact h.hi i (by simpa using hi)
 case okS =>
  intro i
  by_cases e : i = d
  ·subst e
   simp only [upd, if_true]
   exact kD (fun _ _ _ => rfl) (fun _ _ => rfl) hx.ok (fun _ _ => rfl) (fun r hr => hroot r (fun e => hxn (e ▸ hr)))
  ·simp only [upd, if_neg e]
   exact kD (fun _ _ _ => rfl) (fun _ _ => rfl) (h.okS i) (fun _ _ => rfl) (fun r hr => hroot r (fun e => hn.s i (e ▸ hr)))
 case okE =>
  intro j cs hj
  exact ⟨jF (fun _ _ _ => rfl) (fun _ _ => rfl) (h.okE j cs hj).1 (fun _ _ => rfl) (fun r hr => hroot r (fun e => hn.e j cs hj (e ▸ hr))), (h.okE j cs hj).2⟩
 case eaL => exact h.eaL
 case row => exact h.row
 case refS =>
  intro i d' hi
  by_cases e : i = d
  ·subst e; simp only [upd, if_true] at hi; exact hx.refs d' hi
  ·simp only [upd, if_neg e] at hi; exact h.refS i d' hi
 case refE => exact h.refE
 case dis =>
  intro r r' b hb hb'
  by_cases e : r = .sl d
  ·by_cases e' : r' = .sl d
   ·rw [e, e']
   ·rw [qN e'] at hb'
    subst e
    simp only [zO, upd, if_true] at hb
    exact absurd hb' (hx.sep r' b hb)
  ·rw [qN e] at hb
   by_cases e' : r' = .sl d
   ·subst e'
    simp only [zO, upd, if_true] at hb'
    exact absurd hb (hx.sep r b hb')
   ·rw [qN e'] at hb'
    exact h.dis r r' b hb hb'
 case nd =>
  intro r
  by_cases e : r = .sl d
  ·subst e; simp only [zO, upd, if_true]; exact hx.nd
  ·rw [qN e]; exact h.nd r
 case lt =>
  intro r b hb
  by_cases e : r = .sl d
  ·subst e; simp only [zO, upd, if_true] at hb; exact hx.lt b hb
  ·rw [qN e] at hb; exact h.lt r b hb
 case own =>
  intro r b hb
  by_cases e : r = .sl d
  ·subst e; simp only [zO, upd, if_true] at hb; exact hx.own b hb
  ·rw [qN e] at hb; exact h.own r b hb
 case notR =>
  intro r b hb
  by_cases e : r = .sl d
  ·subst e; simp only [zO, upd, if_true] at hb; exact hx.notR b hb
  ·rw [qN e] at hb; exact h.notR r b hb
 case PR => exact h.PR
 case ltR => exact h.ltR
 case frm => exact h.frm
theorem Rel.clear (h : Rel isv w0 E0 P R ea w S tmps) {d : Nat} (hn : NoMen S d) : Rel isv w0 E0 P R ea w { S with s := upd S.s d .undef } tmps := by
 have hroot : ∀ r, r ≠ Root.sl d → zA { S with s := upd S.s d .undef } r = zA S r ∧ rootAd { S with s := upd S.s d .undef } ea r = rootAd S ea r := fun r hr => wH hr
 have hsub : ∀ r b, b ∈ zO { S with s := upd S.s d .undef } ea r → b ∈ zO S ea r := by
  intro r b hb
  by_cases e : r = .sl d
  ·subst e; simp [zO, upd, zE] at hb
  ·rwa [qN e] at hb
 constructor
 case val =>
  intro i hi
  by_cases e : i = d
  ·subst e; left; simp [upd]
  ·simp only [upd, if_neg e]; exact h.val i hi
 case hi =>
  intro i hi
  by_cases e : i = d
  ·subst e; simp [upd]
  ·simp only [upd, if_neg e]; exact h.hi i hi
 case okS =>
  intro i
  by_cases e : i = d
  ·subst e; simp [upd, okX]
  ·simp only [upd, if_neg e]
   exact kD (fun _ _ _ => rfl) (fun _ _ => rfl) (h.okS i) (fun _ _ => rfl) (fun r hr => hroot r (fun e => hn.s i (e ▸ hr)))
 case okE =>
  intro j cs hj
  exact ⟨jF (fun _ _ _ => rfl) (fun _ _ => rfl) (h.okE j cs hj).1 (fun _ _ => rfl) (fun r hr => hroot r (fun e => hn.e j cs hj (e ▸ hr))), (h.okE j cs hj).2⟩
 case eaL => exact h.eaL
 case row => exact h.row
 case refS =>
  intro i d' hi
  by_cases e : i = d
  ·subst e; simp [upd, zD] at hi
  ·simp only [upd, if_neg e] at hi; exact h.refS i d' hi
 case refE => exact h.refE
 case dis => exact fun r r' b hb hb' => h.dis r r' b (hsub r b hb) (hsub r' b hb')
 case nd =>
  intro r
  by_cases e : r = .sl d
  ·subst e; simp [zO, upd, zE]
  ·rw [qN e]; exact h.nd r
 case lt => exact fun r b hb => h.lt r b (hsub r b hb)
 case own => exact fun r b hb => h.own r b (hsub r b hb)
 case notR => exact fun r b hb => h.notR r b (hsub r b hb)
 case PR => exact h.PR
 case ltR => exact h.ltR
 case frm => exact h.frm
end
end Go.Proofs.Ytlkjnlfddadlmaa.V
namespace Go.Proofs.Ytlkjnlfddadlmaa.V
open Go.RowKit
def oJ : Value → Bool
 | .agg _ => true
 | _ => false
def zHi : TypeDesc → Bool
 | .struct _ => true
 | .array _ _ => true
 | _ => false
def zQ7 (d : TypeDesc) (l : List (Nat × Nat)) : Bool :=
 match d with
 | .struct fs => fs.toList.map (fun f => (f.offset, f.type)) == l
 | _ => l == []
def elIs (d : TypeDesc) (o : Option Nat) : Bool :=
 match d with
 | .slice e => o == some e
 | _ => o == none
def kK (P : Program) (d : TypeDesc) : Nat → Bool
 | 1 => (match d with | .int .i64 => true | _ => false)
 | 2 => (match d with | .int .u8 => true | _ => false)
 | 3 => (match d with | .string => true | _ => false)
 | 4 => (match d with | .slice e => (match P.underlying e with | some (.int .u8) => true | _ => false) | _ => false)
 | 5 => (match d with | .bool => true | _ => false)
 | 6 => (match d with | .pointer _ => true | _ => false)
 | 7 => (match d with | .interface _ => true | _ => false)
 | _ => true
def tyCk (P : Program) (ty : Nat → Ty) (t : Nat) : Bool :=
 match P.info? t, P.underlying t with
 | some i, some d =>
  ((ty t).zs.length == (ty t).sz && i.size == (ty t).sz) && i.bytes == (ty t).bytes && (zHi d == (ty t).agg) &&
  (match i.zero with
   | some z => jK (ty t).zs z.cells.toList && (oJ z == (ty t).agg)
   | none => false) &&
  zQ7 d (ty t).fs && elIs d (ty t).el && kK P d (ty t).kind
 | _, _ => false
def jQ (P : Program) (ty : Nat → Ty) : Prop := ∀ t, (ty t).ok = true → tyCk P ty t = true
def zG : CU → CV
 | .t (.int k n) => .t (.int k n)
 | .t (.bool b) => .t (.bool b)
 | .t (.str s) => .t (.str s)
 | .t (.sl _ tag sz n _) => .t (.sl (.slice none 0 0) tag sz n [])
 | .t .nili => .t .nili
 | .nilp => .nilp
 | .nilf => .nilf
 | _ => .nilp
theorem zN7 {c : CU} {v : Value} (h : zEj c v = true) : zN (zG c) = v ∧ erC (zG c) = c ∧ zQ (zG c) = [] ∧ zF (zG c) = [] ∧ ∀ (w : World) (P : Nat → Nat → Prop) (R : Nat → Prop) (S : SV) (ea : List EA), okC w P R S ea (zG c) := by
 unfold zEj at h
 split at h
 ·simp only [Bool.and_eq_true, decide_eq_true_eq] at h
  obtain ⟨rfl, rfl⟩ := h
  simp [zG, zN, zZ, erC, zJ, yA, zQ, zY, zF, okC, okT]
 ·simp only [beq_iff_eq] at h
  subst h
  simp [zG, zN, zZ, erC, zJ, yA, zQ, zY, zF, okC, okT]
 ·rename_i s
  simp only [beq_iff_eq] at h
  obtain ⟨d⟩ := s
  simp only at h
  subst h
  simp [zG, zN, zZ, erC, zJ, yA, zQ, zY, zF, okC, okT]
 ·simp [zG, zN, zZ, erC, zJ, yA, kV, zQ, zY, z6, zF, okC, okT, xS, hdr, wM, er0]
 ·simp [zG, zN, zZ, erC, zJ, yA, zQ, zY, zF, okC, okT]
 ·simp [zG, zN, erC, zJ, zQ, zF, okC]
 ·simp [zG, zN, erC, zJ, zQ, zF, okC]
 ·cases h
theorem wL : ∀ {cs : List CU} {vs : List Value}, jK cs vs = true → (cs.map zG).map zN = vs ∧ (cs.map zG).map erC = cs ∧ zH (cs.map zG) = [] ∧ zL (cs.map zG) = [] ∧
  ∀ (w : World) (P : Nat → Nat → Prop) (R : Nat → Prop) (S : SV) (ea : List EA), yF w P R S ea (cs.map zG)
 | [], [], _ => by simp [zH, zL, yF]
 | [], _ :: _, h => by simp [jK] at h
 | _ :: _, [], h => by simp [jK] at h
 | c :: cs, v :: vs, h => by
  simp only [jK, Bool.and_eq_true] at h
  obtain ⟨h1, h2, h3, h4, h5⟩ := zN7 h.1
  obtain ⟨i1, i2, i3, i4, i5⟩ := wL h.2
  refine ⟨by simp [h1, i1], by simp [h2, i2], by simp [zH, h3, i3], by simp [zL, h4, i4], fun w P R S ea => ⟨h5 w P R S ea, i5 w P R S ea⟩⟩
theorem bT : ∀ {cs : List CU} {vs : List Value}, jK cs vs = true → cs.length = vs.length
 | [], [], _ => rfl
 | [], _ :: _, h => by simp [jK] at h
 | _ :: _, [], h => by simp [jK] at h
 | c :: cs, v :: vs, h => by simp only [jK, Bool.and_eq_true] at h; simp [bT h.2]
structure TyFacts (P : Program) (ty : Nat → Ty) (t : Nat) (i : TypeInfo) (d : TypeDesc) (z : Value) : Prop where
 info : P.info? t = some i
 und : P.underlying t = some d
 zlen : (ty t).zs.length = (ty t).sz
 size : i.size = (ty t).sz
 bytes : i.bytes = (ty t).bytes
 agg : zHi d = (ty t).agg
 zero : i.zero = some z
 zs : jK (ty t).zs z.cells.toList = true
 zagg : oJ z = (ty t).agg
 fs : zQ7 d (ty t).fs = true
 el : elIs d (ty t).el = true
 kind : kK P d (ty t).kind = true
theorem jQ.facts {P : Program} {ty : Nat → Ty} (h : jQ P ty) {t : Nat} (ht : (ty t).ok = true) : ∃ i d z, TyFacts P ty t i d z := by
 have hc := h t ht
 unfold tyCk at hc
 split at hc
 ·rename_i i d hi hd
  simp only [Bool.and_eq_true, beq_iff_eq] at hc
  obtain ⟨⟨⟨⟨⟨⟨⟨h0, h1⟩, h2⟩, h3⟩, h4⟩, h5⟩, h6⟩, h7⟩ := hc
  cases hz : i.zero with
  | none => simp [hz] at h4
  | some z =>
   simp only [hz, Bool.and_eq_true, beq_iff_eq] at h4
   exact ⟨i, d, z, hi, hd, h0, h1, h2, h3, hz, h4.1, h4.2, h5, h6, h7⟩
 ·cases hc
theorem TyFacts.slice {P : Program} {ty : Nat → Ty} {t : Nat} {i : TypeInfo} {d : TypeDesc} {z : Value} (h : TyFacts P ty t i d z) {e : Nat} (he : (ty t).el = some e) : d = .slice e := by
 have := h.el
 rw [he] at this
 cases d <;> simp [elIs] at this
 subst this
 rfl
theorem TyFacts.field {P : Program} {ty : Nat → Ty} {t : Nat} {i : TypeInfo} {d : TypeDesc} {z : Value} (h : TyFacts P ty t i d z) {k off ft : Nat} (he : (ty t).fs[k]? = some (off, ft)) :
  ∃ fs fd, d = .struct fs ∧ fs[k]? = some fd ∧ fd.offset = off ∧ fd.type = ft := by
 have := h.fs
 cases d with
 | struct fs =>
  simp only [zQ7, beq_iff_eq] at this
  rw [← this, List.getElem?_map] at he
  cases hf : fs.toList[k]? with
  | none => simp [hf] at he
  | some fd =>
   simp only [hf, Option.map_some, Option.some.injEq, Prod.mk.injEq] at he
   exact ⟨fs, fd, rfl, by simpa using hf, he.1, he.2⟩
 | _ => simp only [zQ7, beq_iff_eq] at this; rw [this] at he; simp at he
section
variable {cx : Ctx} {f : Nat} {w0 : World} {E0 : Nat → Prop} {P : Nat → Nat → Prop} {R : Nat → Prop} {ea : List EA} {w w' : World} {S : SV} {tmps : Array Value} {Pr : Program}
theorem uH (o : Operand) : erS (clr cx f S o) = clr cx f (erS S) o := by
 cases o with
 | tmp d =>
  simp only [clr]
  split
  ·rfl
  ·have h : yO ((erS S).s d) = yO (S.s d) := zB8 er0 (S.s d)
   rw [h]
   split
   ·simp only [erS, jW, cX, zV]
   ·rfl
 | _ => rfl
theorem New.plain {x : XV} (hok : okX w P R S ea x) (hb : zE x = []) (hr : zD x = []) {isv : Nat → Bool} : New isv w0 E0 P R ea w S x :=
 ⟨hok, fun d' h => by rw [hr] at h; simp at h, by rw [hb]; exact List.nodup_nil, fun r b h => by rw [hb] at h; simp at h, fun b h => by rw [hb] at h; simp at h, fun b h => by rw [hb] at h; simp at h, fun b h => by rw [hb] at h; simp at h⟩
theorem oK {c : CV} (hok : okC w P R S ea c) (h : qJ c = false) : zQ c = [] := by
 cases c with
 | t x =>
  cases x with
  | sl a tag sz n cs =>
   cases tag with
   | zero => simp [qJ] at h
   | succ m => simp [zQ, zY]
  | _ => simp [zQ, zY]
 | fn g caps => simp [zQ]
 | lst a sz n cs => simp [qJ] at h
 | _ => simp [zQ]
theorem zBg : ∀ {cs : List CV}, yF w P R S ea cs → cs.any qJ = false → zH cs = []
 | [], _, _ => by simp [zH]
 | c :: cs, h, ho => by
  simp only [List.any_cons, Bool.or_eq_false_iff] at ho
  simp only [zH, oK h.1 ho.1, zBg h.2 ho.2, List.append_nil]
mutual
theorem sM : ∀ {x : XV}, okX w P R S ea x → yO x = false → zE x = []
 | .c x, h, ho => by simp only [okX, yO, zE] at h ho ⊢; exact oK h ho
 | .agg cs, h, ho => by simp only [okX, yO, zE] at h ho ⊢; exact zBg h ho
 | .box a cs, h, ho => by simp [yO] at ho
 | .tup xs, h, ho => by simp only [okX, yO, zE] at h ho ⊢; exact i6 h ho
 | .undef, _, _ => by simp [zE]
theorem i6 : ∀ {xs : List XV}, x9 w P R S ea xs → xs.any zPu = false → xN xs = []
 | [], _, _ => by simp [xN]
 | x :: xs, h, ho => by
  simp only [List.any_cons, Bool.or_eq_false_iff] at ho
  simp only [xN]
  rw [i6 h.2 ho.2, List.append_nil]
  refine sM h.1 ?_
  cases x <;> first | exact ho.1 | rfl | exact absurd ho.1 (by simp [zPu])
end
end
end Go.Proofs.Ytlkjnlfddadlmaa.V
namespace Go.Proofs.Ytlkjnlfddadlmaa.V
open Go.RowKit
section
variable {cx : Ctx} {f : Nat} {w0 : World} {E0 : Nat → Prop} {P : Nat → Nat → Prop} {R : Nat → Prop} {ea : List EA} {w w' : World} {S : SV} {tmps : Array Value} {Pr : Program}
theorem zQw {r : Root} {p : List Nat} {i sz n : Nat} {a : Value} {cs : List TV} (hat : at_ S r p i = some (.t (.sl a 0 sz n cs))) (hok : okT w P R (.sl a 0 sz n cs)) : wQ S r p i 0 sz n a := by
 simp only [okT, if_true] at hok
 obtain ⟨h1, _, h3⟩ := hok
 refine ⟨a, n, cs, hat, by omega, ?_⟩
 rcases h3 with ⟨rfl, hn⟩ | ⟨b, o, cur, e, ⟨ad, cap, rfl, hc, hs, hb, hr⟩, _, _⟩
 ·exact .inl ⟨rfl, rfl, hn⟩
 ·exact .inr ⟨ad, cap, rfl, ad, cap, rfl, hc, hs, rfl, .inr ⟨rfl, by omega⟩⟩
theorem zNa {a : Value} {tag sz n : Nat} {cs : List TV} (h : okT w P R (.sl a tag sz n cs)) : a.oneCell' = true := by
 simp only [okT] at h
 obtain ⟨_, _, h⟩ := h
 split at h
 ·rcases h with ⟨rfl, _⟩ | ⟨b, o, cur, e, ⟨ad, cap, rfl, _⟩, _⟩ <;> rfl
 ·obtain ⟨⟨A, cap, rfl, _⟩, _⟩ := h; rfl
theorem zKi {a : Value} {sz n : Nat} {vs : List Value} (h : wM w a sz n vs) : a.oneCell' = true := by
 rcases h with ⟨rfl, _⟩ | ⟨b, o, cur, e, ⟨ad, cap, rfl, _⟩, _⟩ <;> rfl
theorem lY {a : Value} {sz n : Nat} {vs : List Value} (h : wM w a sz n vs) : ∃ A n c, a = .slice A n c := by
 rcases h with ⟨rfl, _⟩ | ⟨b, o, cur, e, ⟨ad, cap, rfl, _⟩, _⟩ <;> exact ⟨_, _, _, rfl⟩
theorem zHx {r : Root} {p : List Nat} {i : Nat} {c : CV} (hat : at_ S r p i = some c) (hok : okC w P R S ea c) :
  okC w P R S ea (rdc r p i c) ∧ zN (rdc r p i c) = zN c ∧ zQ (rdc r p i c) = [] ∧ ∀ q ∈ zF (rdc r p i c), q = r ∨ q ∈ zF c := by
 cases c with
 | t x =>
  cases x with
  | sl a tag sz n cs =>
   cases tag with
   | zero =>
    refine ⟨?_, by simp [rdc, zN, zZ], by simp [rdc, zQ], by simp [rdc, zF]⟩
    simp only [rdc, okC] at hok ⊢
    exact zQw hat hok
   | succ m => exact ⟨by simpa [rdc] using hok, by simp [rdc], by simp [rdc, zQ, zY], by simp [rdc, zF]⟩
  | _ => exact ⟨by simpa [rdc] using hok, by simp [rdc], by simp [rdc, zQ, zY], by simp [rdc, zF]⟩
 | lst a sz n cs =>
  simp only [okC] at hok
  refine ⟨?_, by simp [rdc, zN, zZ], by simp [rdc, zQ, zY], by simp [rdc, zF]⟩
  simp only [rdc, okC, okT]
  exact .inl (lY hok.2.2)
 | fn g caps => exact ⟨by simpa [rdc] using hok, by simp [rdc], by simp [rdc, zQ], fun q hq => .inr (by simpa [rdc] using hq)⟩
 | _ => exact ⟨by simpa [rdc] using hok, by simp [rdc], by simp [rdc, zQ], fun q hq => .inr (by simpa [rdc] using hq)⟩
theorem zHy {r : Root} : ∀ {cs : List CV} {i : Nat}, (∀ k c, cs[k]? = some c → at_ S r [] (i + k) = some c) → yF w P R S ea cs →
  yF w P R S ea (mQ r i cs) ∧ yC (mQ r i cs) = yC cs ∧ zH (mQ r i cs) = [] ∧ ∀ q ∈ zL (mQ r i cs), q = r ∨ q ∈ zL cs
 | [], i, _, _ => by simp [mQ, yF, yC, zH, zL]
 | c :: cs, i, hat, hok => by
  obtain ⟨h1, h2, h3, h4⟩ := zHx (hat 0 c (by simp)) hok.1
  simp only [Nat.add_zero] at h1 h2 h3 h4
  obtain ⟨i1, i2, i3, i4⟩ := zHy (cs := cs) (i := i + 1) (fun k c' hk => by have := hat (k + 1) c' (by simpa using hk); rwa [show i + (k + 1) = i + 1 + k by omega] at this) hok.2
  refine ⟨⟨h1, i1⟩, by simp [mQ, yC, h2, i2], by simp [mQ, zH, h3, i3], ?_⟩
  intro q hq
  simp only [mQ, zL, List.mem_append] at hq ⊢
  rcases hq with hq | hq
  ·exact (h4 q hq).imp id .inl
  ·exact (i4 q hq).imp id .inr
theorem zDl {α β : Type} (g : α → β) (r : Root) : ∀ (cs : List (C α)) (i : Nat), mQ r i (cs.map (zJ g)) = (mQ r i cs).map (zJ g)
 | [], i => by simp [mQ]
 | c :: cs, i => by simp [mQ, zA6, zDl g r cs (i + 1)]
theorem zW6 {α β : Type} (g : α → β) (v : Bool) (t : Nat) (x : X α) : rdS v t (zV g x) = (rdS v t x).map (zV g) := by
 cases x with
 | c x => cases v <;> simp [rdS, zV, zA6]
 | agg cs => cases v <;> simp [rdS, zV, zDl, zR]
 | box a cs => cases v <;> simp [rdS, zV, zJ]
 | tup xs => cases v <;> simp [rdS, zV]
 | undef => simp [rdS, zV]
theorem Rel.clr (h : Rel (zB cx f) w0 E0 P R ea w S tmps) (o : Operand) : Rel (zB cx f) w0 E0 P R ea w (clr cx f S o) tmps := by
 cases o with
 | tmp d =>
  simp only [V.clr]
  split
  ·exact h
  ·rename_i hv
   split
   ·exact h.clear (h.noMen (fun h' => absurd h' hv))
   ·exact h
 | _ => exact h
structure Opv (cx : Ctx) (f : Nat) (w0 : World) (E0 : Nat → Prop) (P : Nat → Nat → Prop) (R : Nat → Prop) (ea : List EA) (w : World) (S : SV) (a : Act) (o : Operand) (x : XU) (xG : XV) : Prop where
 er : erX xG = x
 val : a.eval o = zS xG
 ok : okX w P R S ea xG
 new : New (zB cx f) w0 E0 P R ea w (clr cx f S o) xG
 src : ∀ b ∈ zE xG, ∃ r, b ∈ zO S ea r
theorem Rel.slot (h : Rel (zB cx f) w0 E0 P R ea w S tmps) {d : Nat} (hu : S.s d ≠ .undef) : tmps[d]? = some (zS (S.s d)) := by
 have hlt : d < tmps.size := by
  rcases Nat.lt_or_ge d tmps.size with h' | h'
  ·exact h'
  ·exact absurd (h.hi d h') hu
 exact (h.val d hlt).resolve_left hu
theorem Rel.opTmp (h : Rel (zB cx f) w0 E0 P R ea w S tmps) {a : Act} (ha : a.tmps = tmps) {d : Nat} {x : XU} (hx : rdS (zB cx f d) d ((erS S).s d) = some x) :
  ∃ xG, Opv cx f w0 E0 P R ea w S a (.tmp d) x xG := by
 have hm : rdS (zB cx f d) d ((erS S).s d) = (rdS (zB cx f d) d (S.s d)).map erX := zW6 er0 _ _ _
 rw [hm] at hx
 cases hr : rdS (zB cx f d) d (S.s d) with
 | none => simp [hr] at hx
 | some xG =>
  simp only [hr, Option.map_some, Option.some.injEq] at hx
  have hu : S.s d ≠ .undef := by intro e; simp [e, rdS] at hr
  have hslot := h.slot hu
  have hval : a.eval (.tmp d) = zS (S.s d) := by simp [Act.eval, ha, hslot]
  have hd := h.okS d
  by_cases hv : zB cx f d = true
  ·-- a name's slot: what is owned is referred to
   have hclr : V.clr cx f S (.tmp d) = S := by simp [V.clr, hv]
   have key : okX w P R S ea xG ∧ zS xG = zS (S.s d) ∧ zE xG = [] ∧ ∀ q ∈ zD xG, q = Root.sl d ∨ q ∈ zD (S.s d) := by
    rw [hv] at hr
    cases hs : S.s d with
    | undef => simp [hs, rdS] at hr
    | box b cs =>
     simp only [hs, rdS, if_true, Option.some.injEq] at hr
     subst hr
     rw [hs] at hd
     simp only [okX] at hd
     obtain ⟨_, ad, rfl, h1, h2, _⟩ := hd
     refine ⟨?_, by simp [zS, zN], by simp [zE, zQ], by simp [zD, zF]⟩
     simp only [okX, okC, vR, yW, if_true, rootAd, hs]
     refine ⟨ad, rfl, ?_⟩
     obtain ⟨b', o', s'⟩ := ad
     simp only at h1 h2
     subst h1; subst h2
     rfl
    | c c0 =>
     simp only [hs, rdS, if_true, Option.some.injEq] at hr
     subst hr
     rw [hs] at hd
     have hat : at_ S (.sl d) [] 0 = some c0 := by simp [at_, zA, hs, xA]
     obtain ⟨k1, k2, k3, k4⟩ := zHx hat (by simpa [okX] using hd)
     exact ⟨by simpa [okX] using k1, by simpa [zS] using k2, by simpa [zE] using k3, by simpa [zD] using k4⟩
    | agg cs =>
     simp only [hs, rdS, if_true, Option.some.injEq] at hr
     subst hr
     rw [hs] at hd
     have hat : ∀ k c, cs[k]? = some c → at_ S (.sl d) [] (0 + k) = some c := fun k c hk => by simp [at_, zA, hs, xA, hk]
     obtain ⟨k1, k2, k3, k4⟩ := zHy hat (by simpa [okX] using hd)
     exact ⟨by simpa [okX] using k1, by simp [zS, k2], by simpa [zE] using k3, by simpa [zD] using k4⟩
    | tup xs => simp [hs, rdS] at hr
   obtain ⟨k1, k2, k3, k4⟩ := key
   refine ⟨xG, hx, by rw [hval, k2], k1, ?_, fun b hb => by rw [k3] at hb; simp at hb⟩
   rw [hclr]
   refine ⟨k1, ?_, by rw [k3]; exact List.nodup_nil, fun r b hb => by rw [k3] at hb; simp at hb, fun b hb => by rw [k3] at hb; simp at hb, fun b hb => by rw [k3] at hb; simp at hb, fun b hb => by rw [k3] at hb; simp at hb⟩
   intro d' hd'
   rcases k4 _ hd' with e | e
   ·simp only [Root.sl.injEq] at e; rw [e]; exact hv
   ·exact h.refS d d' e
  ·-- a temporary: its content itself
   have hvf : zB cx f d = false := by simpa using hv
   have hxs : xG = S.s d := by
    rw [hvf] at hr
    cases hs : S.s d <;> simp [hs, rdS] at hr ⊢ <;> exact hr.symm
   subst hxs
   refine ⟨S.s d, hx, hval, hd, ?_, fun b hb => ⟨.sl d, hb⟩⟩
   have hnm := h.noMen (d := d) (fun h' => absurd h' hv)
   by_cases ho : yO (S.s d) = true
   ·have hclr : V.clr cx f S (.tmp d) = { S with s := upd S.s d .undef } := by simp [V.clr, hvf, ho]
    rw [hclr]
    refine ⟨kD (fun _ _ _ => rfl) (fun _ _ => rfl) hd (fun _ _ => rfl) (fun r hr => wH (fun e => hnm.s d (e ▸ hr))), fun d' hd' => h.refS d d' hd', h.nd (.sl d), ?_, h.lt (.sl d), h.own (.sl d), h.notR (.sl d)⟩
    intro r b hb hb'
    by_cases e : r = .sl d
    ·subst e; simp [zO, upd, zE] at hb'
    ·rw [qN e] at hb'
     exact e (h.dis _ _ b hb' hb)
   ·have hof : yO (S.s d) = false := by simpa using ho
    have hclr : V.clr cx f S (.tmp d) = S := by simp [V.clr, hvf, hof]
    rw [hclr]
    have hb := sM hd hof
    exact ⟨hd, fun d' hd' => h.refS d d' hd', by rw [hb]; exact List.nodup_nil, fun r b hb' => by rw [hb] at hb'; simp at hb', fun b hb' => by rw [hb] at hb'; simp at hb', fun b hb' => by rw [hb] at hb'; simp at hb', fun b hb' => by rw [hb] at hb'; simp at hb'⟩
theorem zQz (t : Nat) (v : Value) {x : XU} (hx : sF cx t v = some x) : ∃ xG, erX xG = x ∧ zS xG = v ∧ zE xG = [] ∧ zD xG = [] ∧ ∀ (w : World) (P : Nat → Nat → Prop) (R : Nat → Prop) (S : SV) (ea : List EA), okX w P R S ea xG := by
 unfold sF at hx
 split at hx <;> (try simp only [Option.some.injEq] at hx)
 ·subst hx; rename_i k n; exact ⟨.c (.t (.int k n)), by simp [erX, zV, zJ, yA], rfl, by simp [zE, zQ, zY], by simp [zD, zF], by simp [okX, okC, okT]⟩
 ·subst hx; rename_i b; exact ⟨.c (.t (.bool b)), by simp [erX, zV, zJ, yA], rfl, by simp [zE, zQ, zY], by simp [zD, zF], by simp [okX, okC, okT]⟩
 ·subst hx; rename_i s; exact ⟨.c (.t (.str s.data.toList)), by simp [erX, zV, zJ, yA], by simp [zS, zN, zZ], by simp [zE, zQ, zY], by simp [zD, zF], by simp [okX, okC, okT]⟩
 ·split at hx
  ·simp only [Option.some.injEq] at hx
   subst hx
   exact ⟨.c (.t (.sl (.slice none 0 0) 0 (elSz cx t) 0 [])), by simp [erX, zV, zJ, yA, kV, er0], rfl, by simp [zE, zQ, zY, z6, hdr], by simp [zD, zF], by simp [okX, okC, okT, xS, wM]⟩
  ·cases hx
 ·subst hx; exact ⟨.c (.t .nili), by simp [erX, zV, zJ, yA], rfl, by simp [zE, zQ, zY], by simp [zD, zF], by simp [okX, okC, okT]⟩
 ·subst hx; exact ⟨.c .nilp, by simp [erX, zV, zJ], rfl, by simp [zE, zQ], by simp [zD, zF], by simp [okX, okC]⟩
 ·subst hx; exact ⟨.c .nilf, by simp [erX, zV, zJ], rfl, by simp [zE, zQ], by simp [zD, zF], by simp [okX, okC]⟩
 ·split at hx
  ·next vs hc =>
   simp only [Option.some.injEq] at hx
   subst hx
   simp only [Bool.and_eq_true] at hc
   obtain ⟨h1, h2, h3, h4, h5⟩ := wL hc.2
   refine ⟨.agg ((cx.ty t).zs.map zG), ?_, ?_, by simp only [zE]; exact h3, by simp only [zD]; exact h4, fun w P R S ea => by simp only [okX]; exact h5 w P R S ea⟩
   ·simp only [erX, zV, zR]; exact congrArg _ h2
   ·simp only [zS, z8, h1, Array.toArray_toList]
  ·cases hx
 ·cases hx
theorem Rel.opv (h : Rel (zB cx f) w0 E0 P R ea w S tmps) {a : Act} (ha : a.tmps = tmps) {t : Nat} {o : Operand} {x : XU} (hx : opv cx f (erS S) t o = some x) :
  ∃ xG, Opv cx f w0 E0 P R ea w S a o x xG := by
 cases o with
 | tmp d => exact h.opTmp ha hx
 | const v =>
  obtain ⟨xG, h1, h2, h3, h4, h5⟩ := zQz t v hx
  exact ⟨xG, h1, by simp [Act.eval, h2], h5 _ _ _ _ _, New.plain (h5 _ _ _ _ _) h3 h4, fun b hb => by rw [h3] at hb; simp at hb⟩
 | func g =>
  simp only [V.opv, Option.some.injEq] at hx
  subst hx
  exact ⟨.c (.fn g []), by simp [erX, zV, zJ, yZ], by simp [Act.eval, zS, zN, yC], by simp [okX, okC, yF, zH],
   New.plain (by simp [okX, okC, yF, zH]) (by simp [zE, zQ]) (by simp [zD, zF, zL]), fun b hb => by simp [zE, zQ] at hb⟩
 | global g => simp [V.opv] at hx
end
end Go.Proofs.Ytlkjnlfddadlmaa.V
namespace Go.Proofs.Ytlkjnlfddadlmaa.V
open Go.RowKit
section
variable {isv : Nat → Bool} {w0 : World} {E0 : Nat → Prop} {P : Nat → Nat → Prop} {R : Nat → Prop} {ea : List EA} {w w' : World} {S : SV} {tmps : Array Value} {α : Type}
theorem zL0 : ∀ (p : List Nat) (cs : List (T α)) (i : Nat), sub cs (p ++ [i]) = (sub cs p).bind fun ds => match ds[i]? with
  | some (.sl _ 0 _ _ es) => some es
  | _ => none
 | [], cs, i => by
  simp only [List.nil_append, sub, Option.bind_some]
  try (split <;> simp_all [sub])
 | k :: p, cs, i => by
  simp only [List.cons_append, sub]
  split
  ·rename_i heq; exact zL0 p _ i
  ·simp
theorem zR0 (p : List Nat) (cs : List (C α)) (i : Nat) : xA cs (p ++ [i]) = (xA cs p).bind fun ds => match ds[i]? with
  | some (.t (.sl _ 0 _ _ es)) => some (es.map .t)
  | _ => none := by
 cases p with
 | nil =>
  simp only [List.nil_append, xA, Option.bind_some]
  split <;> simp_all [sub]
 | cons k p =>
  simp only [List.cons_append, xA]
  split
  ·rename_i ds heq
   rw [zL0]
   cases hs : sub ds p with
   | none => simp
   | some es =>
    simp only [Option.bind_some, Option.map_some, List.getElem?_map]
    cases hi : es[i]? with
    | none => simp
    | some x =>
     cases x with
     | sl a tag sz n fs => cases tag <;> simp
     | _ => simp
  ·simp
theorem zAn (S : St α) (r : Root) (p : List Nat) (i off : Nat) : at_ S r (p ++ [i]) off = match at_ S r p i with
  | some (.t (.sl _ 0 _ _ ds)) => (ds[off]?).map .t
  | _ => none := by
 simp only [at_]
 cases zA S r with
 | none => simp
 | some cs =>
  simp only [Option.bind_some, zR0]
  cases xA cs p with
  | none => simp
  | some ds =>
   simp only [Option.bind_some]
   cases ds[i]? with
   | none => simp
   | some c =>
    cases c with
    | t x =>
     cases x with
     | sl a tag sz n fs => cases tag <;> simp
     | _ => simp
    | _ => simp
theorem zVm : ∀ {p : List Nat} {cs ds : List TV}, xS w P R cs → sub cs p = some ds → xS w P R ds
 | [], cs, ds, h, hs => by simp only [sub, Option.some.injEq] at hs; exact hs ▸ h
 | i :: p, cs, ds, h, hs => by
  simp only [sub] at hs
  split at hs
  ·rename_i a sz n es heq
   have := yJ.1 h _ (List.mem_of_getElem? heq)
   simp only [okT] at this
   exact zVm this.2.1 hs
  ·cases hs
theorem zXh {p : List Nat} {cs ds : List CV} (h : yF w P R S ea cs) (hs : xA cs p = some ds) : yF w P R S ea ds := by
 cases p with
 | nil => simp only [xA, Option.some.injEq] at hs; exact hs ▸ h
 | cons i p =>
  simp only [xA] at hs
  split at hs
  ·rename_i a sz n es heq
   have := z0.1 h _ (List.mem_of_getElem? heq)
   simp only [okC, okT] at this
   cases hf : sub es p with
   | none => simp [hf] at hs
   | some fs =>
    simp only [hf, Option.map_some, Option.some.injEq] at hs
    subst hs
    refine z0.2 ?_
    intro c hc
    obtain ⟨x, hx, rfl⟩ := List.mem_map.1 hc
    simp only [okC]
    exact yJ.1 (zVm this.2.1 hf) x hx
  ·cases hs
theorem zJj : ∀ {xs : List XV}, x9 w P R S ea xs → yF w P R S ea (zU xs)
 | [], _ => by simp [zU, yF]
 | x :: xs, h => by
  have ih := zJj h.2
  cases x with
  | c x => exact ⟨h.1, ih⟩
  | agg cs =>
   simp only [zU]
   refine z0.2 ?_
   intro c hc
   rcases List.mem_append.1 hc with hc | hc
   ·exact z0.1 h.1 c hc
   ·exact z0.1 ih c hc
  | _ => simpa [zU] using ih
theorem Rel.root_ok (h : Rel isv w0 E0 P R ea w S tmps) {r : Root} {cs : List CV} (hr : zA S r = some cs) : yF w P R S ea cs := by
 cases r with
 | sl d =>
  simp only [zA] at hr
  have hd := h.okS d
  cases hs : S.s d with
  | undef => simp [hs] at hr
  | c x => simp only [hs, Option.some.injEq] at hr; subst hr; rw [hs] at hd; exact ⟨hd, trivial⟩
  | agg xs => simp only [hs, Option.some.injEq] at hr; subst hr; rw [hs] at hd; exact hd
  | box a xs => simp only [hs, Option.some.injEq] at hr; subst hr; rw [hs] at hd; exact hd.1
  | tup xs => simp only [hs, Option.some.injEq] at hr; subst hr; rw [hs] at hd; exact zJj hd
 | ex j => exact (h.okE j cs hr).1
theorem Rel.at_ok (h : Rel isv w0 E0 P R ea w S tmps) {r : Root} {p : List Nat} {i : Nat} {c : CV} (ha : at_ S r p i = some c) : okC w P R S ea c := by
 simp only [at_] at ha
 cases hr : zA S r with
 | none => simp [hr] at ha
 | some cs =>
  simp only [hr, Option.bind_some] at ha
  cases hs : xA cs p with
  | none => simp [hs] at ha
  | some ds =>
   simp only [hs, Option.bind_some] at ha
   exact z0.1 (zXh (h.root_ok hr) hs) c (List.mem_of_getElem? ha)
theorem kH {p : List Nat} (hp : p ≠ []) : p = p.dropLast ++ [p.getLast?.getD 0] := by
 rw [List.getLast?_eq_some_getLast hp]
 simp only [Option.getD_some]
 exact (List.dropLast_concat_getLast hp).symm
theorem zUg {a : Value} {sz n : Nat} {cs : List Value} {ad : Addr} {cap : Nat} (hl : cs.length = n * sz) (ho : wM w a sz n cs) (ha : a = .slice (some ad) n cap) {j : Nat} {v : Value} (hj : cs[j]? = some v) :
  w.cell? ⟨ad.block, ad.off + j, none⟩ = some v ∧ w.frozen? ⟨ad.block, ad.off + j, none⟩ = false ∧ ∃ cur e, w.heap[ad.block]? = some (.cells cur e (0, 0)) ∧ ad.off + cap * sz ≤ cur.size := by
 subst ha
 rcases ho with ⟨h1, _⟩ | ⟨b, o, cur, e, ⟨ad', cap', h1, h2, h3, rfl, h4⟩, hh, hv⟩
 ·cases h1
 ·simp only [Value.slice.injEq, Option.some.injEq] at h1
  obtain ⟨rfl, _, rfl⟩ := h1
  have hpos : j < n * sz := by rw [← hl]; exact (List.getElem?_eq_some_iff.1 hj).1
  have hcap : cap ≠ 0 := by
   intro e0
   have : n = 0 := by omega
   subst this; simp at hpos
  obtain ⟨rfl, h5⟩ := h4.resolve_left hcap
  refine ⟨?_, ?_, cur, e, hh, h5⟩
  ·simp only [World.cell?, hh, Option.isSome_none, Bool.false_eq_true, if_false]; exact hv j v hj
  ·simp [World.frozen?, hh]
theorem zSp {ad : Addr} {cs : List CV} (h : vQ w ad cs) {j : Nat} {c : CV} (hj : cs[j]? = some c) :
  w.cell? ⟨ad.block, ad.off + j, none⟩ = some (zN c) ∧ w.frozen? ⟨ad.block, ad.off + j, none⟩ = false := by
 obtain ⟨h1, h2, cur, e, h3, h4⟩ := h
 have hc : cur[j]? = some (zN c) := by
  rw [← Array.getElem?_toList, h4, z8, List.getElem?_map, hj]
  rfl
 constructor
 ·simp only [World.cell?, h3, h1, Nat.zero_add, Option.isSome_none, Bool.false_eq_true, if_false, hc]
 ·simp [World.frozen?, h3]
theorem Rel.box_at (h : Rel isv w0 E0 P R ea w S tmps) {r : Root} {ad : Addr} (hr : rootAd S ea r = some ad) : ∃ cs, zA S r = some cs ∧ vQ w ad cs := by
 cases r with
 | sl d =>
  simp only [rootAd] at hr
  split at hr
  ·rename_i ad' cs heq
   simp only [Option.some.injEq] at hr
   subst hr
   have hd := h.okS d
   rw [heq] at hd
   simp only [okX] at hd
   obtain ⟨_, ad2, h2, h3⟩ := hd
   simp only [Value.pointer.injEq, Option.some.injEq] at h2
   subst h2
   exact ⟨cs, by simp [zA, heq], h3⟩
  ·cases hr
 | ex j =>
  obtain ⟨cs, hcs⟩ := zN9 h.eaL hr
  exact ⟨cs, hcs, (h.okE j cs hcs).2 ad hr⟩
theorem Rel.cell_at (h : Rel isv w0 E0 P R ea w S tmps) {r : Root} {p : List Nat} {off : Nat} {ad : Addr} {c : CV} (hp : yW S ea r p = some ad) (hat : at_ S r p off = some c) :
  w.cell? ⟨ad.block, ad.off + off, none⟩ = some (zN c) ∧ w.frozen? ⟨ad.block, ad.off + off, none⟩ = false := by
 simp only [yW] at hp
 by_cases he : p = []
 ·subst he
  simp only [if_true] at hp
  obtain ⟨cs, hcs, hb⟩ := h.box_at hp
  simp only [at_, hcs, Option.bind_some, xA] at hat
  exact zSp hb hat
 ·rw [if_neg he] at hp
  have hsn := kH he
  rw [hsn, zAn] at hat
  simp only [wO] at hp
  generalize hq : at_ S r p.dropLast (p.getLast?.getD 0) = q at hat hp
  split at hat
  ·rename_i a sz n ds
   have hok := h.at_ok hq
   simp only [okC, okT, if_true] at hok
   simp only at hp
   split at hp
   ·rename_i ad' len cap heq
    simp only [Option.some.injEq] at hp heq
    subst hp; subst heq
    cases hj : ds[off]? with
    | none => simp [hj] at hat
    | some x =>
     simp only [hj, Option.map_some, Option.some.injEq] at hat
     subst hat
     have hlen : len = n := by
      rcases hok.2.2 with ⟨h1, _⟩ | ⟨b, o, cur, e, ⟨_, _, h1, _⟩, _⟩
      ·cases h1
      ·simp only [Value.slice.injEq] at h1; exact h1.2.1
     subst hlen
     have := zUg (by simpa using hok.1) hok.2.2 rfl (j := off) (v := zZ x) (by simp [hj])
     exact ⟨this.1, this.2.1⟩
   ·cases hp
  ·cases hat
end
end Go.Proofs.Ytlkjnlfddadlmaa.V
namespace Go.Proofs.Ytlkjnlfddadlmaa.V
open Go.RowKit
structure QRes (cx : Ctx) (f : Nat) (w0 : World) (E0 : Nat → Prop) (P : Nat → Nat → Prop) (R : Nat → Prop) (ea : List EA) (w : World) (tmps : Array Value) (x : XU) (Su : SU) (w' : World) (S' : SV) (xG : XV) : Prop where
 grow : Grow w w'
 er : erX xG = x
 erS : erS S' = Su
 rel : Rel (zB cx f) w0 E0 P R ea w' S' tmps
 new : New (zB cx f) w0 E0 P R ea w' S' xG
theorem zEo {xG : XV} {c : CU} (h : erX xG = .c c) : ∃ cG, xG = .c cG ∧ erC cG = c := by
 cases xG <;> simp [erX, zV] at h
 exact ⟨_, rfl, h⟩
theorem zS7 {xG : XV} {cs : List CU} (h : erX xG = .agg cs) : ∃ cG, xG = .agg cG ∧ cG.map erC = cs := by
 cases xG <;> simp [erX, zV, zR] at h
 exact ⟨_, rfl, h⟩
theorem vZ {cG : CV} {x : TU} (h : erC cG = .t x) : ∃ y, cG = .t y ∧ erT y = x := by
 cases cG <;> simp [erC, zJ] at h
 exact ⟨_, rfl, h⟩
theorem sI {y : TV} {k : IntKind} {n : Int} (h : erT y = .int k n) : y = .int k n := by
 cases y <;> simp [erT, yA] at h
 obtain ⟨rfl, rfl⟩ := h; rfl
theorem pU {y : TV} {b : Bool} (h : erT y = .bool b) : y = .bool b := by
 cases y <;> simp [erT, yA] at h
 subst h; rfl
theorem zBw {y : TV} {s : List UInt8} (h : erT y = .str s) : y = .str s := by
 cases y <;> simp [erT, yA] at h
 subst h; rfl
theorem zAs {y : TV} (h : erT y = .nili) : y = .nili := by
 cases y <;> simp [erT, yA] at h
 rfl
theorem zS8 {y : TV} {a : Unit} (h : erT y = .ifc a) : ∃ v, y = .ifc v := by
 cases y <;> simp [erT, yA] at h
 exact ⟨_, rfl⟩
theorem zJc {y : TV} {a : Unit} {tag sz n : Nat} {cs : List TU} (h : erT y = .sl a tag sz n cs) : ∃ v ds, y = .sl v tag sz n ds ∧ ds.map erT = cs := by
 cases y <;> simp [erT, yA, yQ] at h
 obtain ⟨rfl, rfl, rfl, rfl⟩ := h
 exact ⟨_, _, rfl, rfl⟩
theorem zAt {cG : CV} (h : erC cG = .nilp) : cG = .nilp := by
 cases cG <;> simp [erC, zJ] at h
 rfl
theorem nL {cG : CV} {a : Unit} {r : Root} {p : List Nat} {off : Nat} (h : erC cG = .ptr a r p off) : ∃ v, cG = .ptr v r p off := by
 cases cG <;> simp [erC, zJ] at h
 obtain ⟨rfl, rfl, rfl⟩ := h
 exact ⟨_, rfl⟩
theorem zMr {cG : CV} {a : Unit} {r : Root} {p : List Nat} {i off sz n : Nat} (h : erC cG = .bor a r p i off sz n) : ∃ v, cG = .bor v r p i off sz n := by
 cases cG <;> simp [erC, zJ] at h
 obtain ⟨rfl, rfl, rfl, rfl, rfl, rfl⟩ := h
 exact ⟨_, rfl⟩
theorem zO0 {cG : CV} {a : Unit} {cs : List TU} (h : erC cG = .rptr a cs) : ∃ v ds, cG = .rptr v ds ∧ ds.map erT = cs := by
 cases cG <;> simp [erC, zJ, yQ] at h
 exact ⟨_, _, rfl, h⟩
theorem zXr {cG : CV} {g : Nat} {cs : List CU} (h : erC cG = .fn g cs) : ∃ ds, cG = .fn g ds ∧ ds.map erC = cs := by
 cases cG <;> simp [erC, zJ, zR] at h
 obtain ⟨rfl, rfl⟩ := h
 exact ⟨_, rfl, rfl⟩
theorem zYm {cG : CV} {a : Unit} {sz n : Nat} {cs : List CU} (h : erC cG = .lst a sz n cs) : ∃ v ds, cG = .lst v sz n ds ∧ ds.map erC = cs := by
 cases cG <;> simp [erC, zJ, zR] at h
 obtain ⟨rfl, rfl, rfl⟩ := h
 exact ⟨_, _, rfl, rfl⟩
section
variable {cx : Ctx} {f : Nat} {w0 : World} {E0 : Nat → Prop} {P : Nat → Nat → Prop} {R : Nat → Prop} {ea : List EA} {w w' : World} {S : SV} {tmps : Array Value} {Pr : Program} {a : Act}
theorem cZ {o : Oper} {v : Value} {K : Act → World → Prop} {Q : Exit → Act → World → Prop} (hr : (execOp a.eval o).run Pr w = .ok (.value v) w') (hk : K (a.put o.dst v) w') : o.wp Pr a w K Q := by
 simp only [Oper.wp, Oper.upon, hr]; exact hk
theorem zEg {o : Oper} {K : Act → World → Prop} {Q : Exit → Act → World → Prop} (hr : (execOp a.eval o).run Pr w = .ok .skip w') (hk : K (a.put o.dst undef) w') : o.wp Pr a w K Q := by
 simp only [Oper.wp, Oper.upon, hr]; exact hk
theorem QRes.data (h : Rel (zB cx f) w0 E0 P R ea w S tmps) {y : TV} (hok : okT w P R y) (hb : zY y = []) : QRes cx f w0 E0 P R ea w tmps (.c (.t (erT y))) (V.erS S) w S (.c (.t y)) :=
 ⟨Grow.refl w, by simp [erX, zV, zJ, erT], rfl, h, New.plain (by simpa [okX, okC] using hok) (by simpa [zE, zQ] using hb) (by simp [zD, zF])⟩
def jP : TU → TV
 | .int k n => .int k n
 | .bool b => .bool b
 | .str s => .str s
 | _ => .nili
def mG : TU → Bool
 | .int _ _ => true
 | .bool _ => true
 | .str _ => true
 | _ => false
theorem zWu {y : TU} (h : mG y = true) : erT (jP y) = y := by cases y <;> simp [mG] at h <;> simp [jP, erT, yA]
theorem zWv (y : TU) : okT w P R (jP y) := by cases y <;> simp [jP, okT]
theorem zT3 (y : TU) : zY (jP y) = [] := by cases y <;> simp [jP, zY]
theorem QRes.scal (h : Rel (zB cx f) w0 E0 P R ea w S tmps) {y : TU} (hy : mG y = true) : QRes cx f w0 E0 P R ea w tmps (.c (.t y)) (V.erS S) w S (.c (.t (jP y))) := by
 have := QRes.data h (zWv (w := w) (P := P) (R := R) y) (zT3 y)
 rwa [zWu hy] at this
theorem zM2 {op : BinOp} {k : IntKind} {x y : Int} {z : TU} (h : zCg op k x y = some z) : mG z = true := by
 cases op <;> simp only [zCg, bvOp] at h <;> (try split at h) <;> simp at h <;> subst h <;> rfl
theorem zGw {op : BinOp} {k : IntKind} {x y : Int} {z : TU} (h : zLp op k x y = some z) : mG z = true := by
 simp only [zLp] at h
 split at h
 ·cases h
 ·cases op <;> simp at h <;> subst h <;> rfl
theorem zNt {op : BinOp} {x y : List UInt8} {z : TU} (h : zGz op x y = some z) : mG z = true := by
 cases op <;> simp only [zGz] at h <;> (try split at h) <;> simp at h <;> subst h <;> rfl
theorem vL {op : BinOp} {b : Bool} {z : TU} (h : nT op b = some z) : mG z = true := by
 cases op <;> simp [nT] at h <;> subst h <;> rfl
theorem zRn (t : TypeId) (x y : Operand) {op : BinOp} {k : IntKind} {a b : Int} {z : TU} (h : zCg op k a b = some z) :
  (do eqGuard op t x y (.int k a) (.int k b); binOp op t (.int k a) (.int k b) : Sem Value).run Pr w = .ok (zZ (jP z)) w := by
 simp only [eqGuard_at_int]
 cases op <;> simp only [zCg, bvOp] at h <;> (try split at h) <;> simp only [Option.some.injEq, reduceCtorEq] at h <;>
  subst h <;> simp [binOp, Op.intArith, Op.intDiv, Op.intBits, Op.intCmp, jP, zZ, *]
theorem zLa (t : TypeId) (x y : Operand) {op : BinOp} (ho : op = .shl ∨ op = .shr) {k k' : IntKind} {a b : Int} {z : TU} (h : zLp op k a b = some z) :
  (do eqGuard op t x y (.int k a) (.int k' b); binOp op t (.int k a) (.int k' b) : Sem Value).run Pr w = .ok (zZ (jP z)) w := by
 simp only [eqGuard_at_int]
 simp only [zLp] at h
 split at h
 ·cases h
 ·rename_i hb
  rcases ho with rfl | rfl <;> simp only [Option.some.injEq] at h <;> subst h <;> simp [binOp, Op.shift, hb, jP, zZ]
theorem zRo (t : TypeId) (x y : Operand) {op : BinOp} {a b : List UInt8} {z : TU} (h : zGz op a b = some z) :
  (do eqGuard op t x y (.string ⟨a.toArray⟩) (.string ⟨b.toArray⟩); binOp op t (.string ⟨a.toArray⟩) (.string ⟨b.toArray⟩) : Sem Value).run Pr w = .ok (zZ (jP z)) w := by
 simp only [eqGuard_at_string]
 cases op <;> simp only [zGz] at h <;> (try split at h) <;> simp only [Option.some.injEq, reduceCtorEq] at h <;> subst h
 ·rename_i hl
  have h1 : ((⟨a.toArray⟩ : ByteArray).size : Int) + ((⟨b.toArray⟩ : ByteArray).size : Int) ≤ 9223372036854775807 := by
   have e1 : (⟨a.toArray⟩ : ByteArray).size = a.length := by simp [ByteArray.size]
   have e2 : (⟨b.toArray⟩ : ByteArray).size = b.length := by simp [ByteArray.size]
   rw [e1, e2]
   unfold maxLen at hl
   omega
  have h2 : (⟨a.toArray⟩ ++ ⟨b.toArray⟩ : ByteArray) = ⟨(a ++ b).toArray⟩ := by
   apply ByteArray.ext
   simp
  simp [binOp, Op.stringOp, h1, h2, jP, zZ]
 all_goals simp [binOp, Op.stringOp, jP, zZ]
end
end Go.Proofs.Ytlkjnlfddadlmaa.V
namespace Go.Proofs.Ytlkjnlfddadlmaa.V
open Go.RowKit
section
variable {cx : Ctx} {f : Nat} {w0 : World} {E0 : Nat → Prop} {P : Nat → Nat → Prop} {R : Nat → Prop} {ea : List EA} {w w' : World} {S : SV} {tmps : Array Value} {Pr : Program} {a : Act}
def QOk (cx : Ctx) (f : Nat) (w0 : World) (E0 : Nat → Prop) (P : Nat → Nat → Prop) (R : Nat → Prop) (ea : List EA) (w : World) (tmps : Array Value) (Pr : Program) (a : Act) (o : Oper) (x : XU) (Su : SU) : Prop :=
 ∃ w' S' xG, QRes cx f w0 E0 P R ea w tmps x Su w' S' xG ∧ (execOp a.eval o).run Pr w = .ok (.value (zS xG)) w'
def l7 (cx : Ctx) (f : Nat) (w0 : World) (E0 : Nat → Prop) (P : Nat → Nat → Prop) (R : Nat → Prop) (ea : List EA) (w : World) (tmps : Array Value) (Pr : Program) (a : Act) (o : Oper) (x : XU) (Su : SU) : Prop :=
 ∃ S' xG, QRes cx f w0 E0 P R ea w tmps x Su w S' xG ∧ (execOp a.eval o).run Pr w = .ok (.value (zS xG)) w
def zL8 (cx : Ctx) (f : Nat) (w0 : World) (E0 : Nat → Prop) (P : Nat → Nat → Prop) (R : Nat → Prop) (ea : List EA) (w : World) (tmps : Array Value) (Pr : Program) (a : Act) (o : Oper) (x : XU) (Su : SU) : Prop :=
 ∃ S' xG, QRes cx f w0 E0 P R ea w tmps x Su w S' xG ∧ ∀ w', (execOp a.eval o).run Pr w' = .ok (.value (zS xG)) w'
theorem zL8.ww {o : Oper} {x : XU} {Su : SU} (h : zL8 cx f w0 E0 P R ea w tmps Pr a o x Su) : l7 cx f w0 E0 P R ea w tmps Pr a o x Su :=
 let ⟨S', xG, h1, h2⟩ := h; ⟨S', xG, h1, h2 w⟩
theorem l7.ok {o : Oper} {x : XU} {Su : SU} (h : l7 cx f w0 E0 P R ea w tmps Pr a o x Su) : QOk cx f w0 E0 P R ea w tmps Pr a o x Su :=
 let ⟨S', xG, h1, h2⟩ := h; ⟨w, S', xG, h1, h2⟩
theorem Opv.keep (h : Rel (zB cx f) w0 E0 P R ea w S tmps) {o : Operand} {x : XU} {xG : XV} (hx : Opv cx f w0 E0 P R ea w S a o x xG) : QRes cx f w0 E0 P R ea w tmps x (V.clr cx f (V.erS S) o) w (V.clr cx f S o) xG :=
 ⟨Grow.refl w, hx.er, uH o, h.clr o, hx.new⟩
theorem zKd (h : Rel (zB cx f) w0 E0 P R ea w S tmps) (ha : a.tmps = tmps) {o : Oper} {x : Operand} (ho : o.op = .move x) {y : XU} (hy : opv cx f (V.erS S) o.type x = some y) :
  zL8 cx f w0 E0 P R ea w tmps Pr a o y (V.clr cx f (V.erS S) x) := by
 obtain ⟨xG, hx⟩ := h.opv ha hy
 exact ⟨_, xG, hx.keep h, fun w' => by simp [execOp, ho, hx.val]⟩
theorem zPm (h : Rel (zB cx f) w0 E0 P R ea w S tmps) (ha : a.tmps = tmps) {o : Oper} {x : Operand} (ho : o.op = .move x) {y : XU} (hy : opv cx f (V.erS S) o.type x = some y) :
  l7 cx f w0 E0 P R ea w tmps Pr a o y (V.clr cx f (V.erS S) x) := (zKd h ha ho hy).ww
theorem rB (h : Rel (zB cx f) w0 E0 P R ea w S tmps) (ha : a.tmps = tmps) {t : Nat} {o : Operand} {n : Int} (hy : dW (opv cx f (V.erS S) t o) = some n) : ∃ k, a.eval o = .int k n := by
 cases ho : opv cx f (V.erS S) t o with
 | none => simp [ho, dW] at hy
 | some x =>
  obtain ⟨xG, hx⟩ := h.opv ha ho
  rw [ho] at hy
  unfold dW at hy
  split at hy
  ·rename_i k m heq
   simp only [Option.some.injEq] at hy heq
   subst hy; subst heq
   obtain ⟨cG, rfl, hc⟩ := zEo hx.er
   obtain ⟨y, rfl, hy⟩ := vZ hc
   have := sI hy
   subst this
   exact ⟨k, by simpa [zS, zN, zZ] using hx.val⟩
  ·cases hy
theorem zDb (h : Rel (zB cx f) w0 E0 P R ea w S tmps) (ha : a.tmps = tmps) {t : Nat} {o : Operand} {b : Bool} (hy : gQ (opv cx f (V.erS S) t o) = some b) : a.eval o = .bool b := by
 cases ho : opv cx f (V.erS S) t o with
 | none => simp [ho, gQ] at hy
 | some x =>
  obtain ⟨xG, hx⟩ := h.opv ha ho
  rw [ho] at hy
  unfold gQ at hy
  split at hy
  ·rename_i m heq
   simp only [Option.some.injEq] at hy heq
   subst hy; subst heq
   obtain ⟨cG, rfl, hc⟩ := zEo hx.er
   obtain ⟨y, rfl, hy⟩ := vZ hc
   have := pU hy
   subst this
   simpa [zS, zN, zZ] using hx.val
  ·cases hy
variable {call : zW}
theorem zPv (h : Rel (zB cx f) w0 E0 P R ea w S tmps) (ha : a.tmps = tmps) {o : Oper} {c x y : Operand} (ho : o.op = .pick c x y) {z : XU} {Su : SU}
  (hq : qval cx f call (V.erS S) o.type (.pick c x y) = some (z, Su)) : l7 cx f w0 E0 P R ea w tmps Pr a o z Su := by
 simp only [qval] at hq
 split at hq
 ·rename_i hb
  have hc := zDb h ha hb
  cases hx : opv cx f (V.erS S) o.type x with
  | none => simp [hx] at hq
  | some x' =>
   simp only [hx, Option.map_some, Option.some.injEq, Prod.mk.injEq] at hq
   obtain ⟨rfl, rfl⟩ := hq
   obtain ⟨xG, hxG⟩ := h.opv ha hx
   exact ⟨_, xG, hxG.keep h, by simp [execOp, ho, hc, hxG.val, asBool]⟩
 ·rename_i hb
  have hc := zDb h ha hb
  cases hx : opv cx f (V.erS S) o.type y with
  | none => simp [hx] at hq
  | some x' =>
   simp only [hx, Option.map_some, Option.some.injEq, Prod.mk.injEq] at hq
   obtain ⟨rfl, rfl⟩ := hq
   obtain ⟨xG, hxG⟩ := h.opv ha hx
   exact ⟨_, xG, hxG.keep h, by simp [execOp, ho, hc, hxG.val, asBool]⟩
 ·cases hq
theorem kO (h : Rel (zB cx f) w0 E0 P R ea w S tmps) (ha : a.tmps = tmps) {t : Nat} {o : Operand} {c : CU} (hy : opv cx f (V.erS S) t o = some (.c c)) :
  ∃ cG, erC cG = c ∧ a.eval o = zN cG ∧ okC w P R S ea cG ∧ ∀ d', Root.sl d' ∈ zF cG → zB cx f d' = true := by
 obtain ⟨xG, hx⟩ := h.opv ha hy
 obtain ⟨cG, rfl, hc⟩ := zEo hx.er
 exact ⟨cG, hc, by simpa [zS] using hx.val, by simpa [okX] using hx.ok, fun d' hd' => hx.new.refs d' (by simpa [zD] using hd')⟩
theorem xW (hty : jQ Pr cx.ty) {t k : Nat} (hk0 : 0 < k) (hk : jR cx t = k) : ∃ d, Pr.underlying t = some d ∧ kK Pr d k = true := by
 simp only [jR] at hk
 split at hk
 ·rename_i hok
  obtain ⟨i, d, z, hf⟩ := hty.facts hok
  exact ⟨d, hf.und, hk ▸ hf.kind⟩
 ·omega
theorem uB (t : TypeId) (x y : Operand) {op : BinOp} {va vb : Value} {same : Bool} {z : TU} (hg : eqGuard op t x y va vb = pure ())
  (h1 : binOp .eql t va vb = (do pure (.bool (← Op.equal t va vb)))) (h2 : binOp .neq t va vb = (do pure (.bool (!(← Op.equal t va vb)))))
  (he : (Op.equal t va vb).run Pr w = .ok same w) (h : nT op same = some z) :
  (do eqGuard op t x y va vb; binOp op t va vb : Sem Value).run Pr w = .ok (zZ (jP z)) w := by
 rw [hg]
 cases op <;> simp only [nT, Option.some.injEq, reduceCtorEq] at h
 ·subst h; simp [h1, he, jP, zZ]
 ·subst h; simp [h2, he, jP, zZ]
theorem zQ1 (d t : Nat) (p q : Bool) (hd : Pr.underlying t = some .bool) : (Op.equalIn (d + 1) t (.bool p) (.bool q)).run Pr w = .ok (p == q) w := by
 simp [Op.equalIn, run_underlying hd]
theorem zS6 (d t e : Nat) (p q : Option Addr) (hd : Pr.underlying t = some (.pointer e)) (hn : p = none ∨ q = none) : (Op.equalIn (d + 1) t (.pointer p) (.pointer q)).run Pr w = .ok (p.isNone && q.isNone) w := by
 rcases hn with rfl | rfl
 ·simp [Op.equalIn, run_underlying hd]
 ·cases p <;> simp [Op.equalIn, run_underlying hd]
theorem zQ2 (d t : Nat) (e : Array (String × TypeId)) (hd : Pr.underlying t = some (.interface e)) : (Op.equalIn (d + 1) t .nilIface .nilIface).run Pr w = .ok true w := by
 simp [Op.equalIn, run_underlying hd]
theorem zJa (d t : Nat) (e : Array (String × TypeId)) (t' : TypeId) (v : Value) (hd : Pr.underlying t = some (.interface e)) : (Op.equalIn (d + 1) t .nilIface (.iface t' v)).run Pr w = .ok false w := by
 simp [Op.equalIn, run_underlying hd]
theorem zJb (d t : Nat) (e : Array (String × TypeId)) (t' : TypeId) (v : Value) (hd : Pr.underlying t = some (.interface e)) : (Op.equalIn (d + 1) t (.iface t' v) .nilIface).run Pr w = .ok false w := by
 simp [Op.equalIn, run_underlying hd]
theorem zDv (t : TypeId) (p q : Bool) (hd : Pr.underlying t = some .bool) : (Op.equal t (.bool p) (.bool q)).run Pr w = .ok (p == q) w := zQ1 9999 t p q hd
theorem fN (t e : TypeId) (p q : Option Addr) (hd : Pr.underlying t = some (.pointer e)) (hn : p = none ∨ q = none) : (Op.equal t (.pointer p) (.pointer q)).run Pr w = .ok (p.isNone && q.isNone) w := zS6 9999 t e p q hd hn
theorem zDw (t : TypeId) (e : Array (String × TypeId)) (hd : Pr.underlying t = some (.interface e)) : (Op.equal t .nilIface .nilIface).run Pr w = .ok true w := zQ2 9999 t e hd
theorem o8 (t : TypeId) (e : Array (String × TypeId)) (t' : TypeId) (v : Value) (hd : Pr.underlying t = some (.interface e)) : (Op.equal t .nilIface (.iface t' v)).run Pr w = .ok false w := zJa 9999 t e t' v hd
theorem o9 (t : TypeId) (e : Array (String × TypeId)) (t' : TypeId) (v : Value) (hd : Pr.underlying t = some (.interface e)) : (Op.equal t (.iface t' v) .nilIface).run Pr w = .ok false w := zJb 9999 t e t' v hd
theorem zSl (hty : jQ Pr cx.ty) (h : Rel (zB cx f) w0 E0 P R ea w S tmps) (ha : a.tmps = tmps) {o : Oper} {op : BinOp} {xt yt : Nat} {x y : Operand} (ho : o.op = .binOp op xt x y yt) {z : XU} {Su : SU}
  (hq : qval cx f call (V.erS S) o.type (.binOp op xt x y yt) = some (z, Su)) : l7 cx f w0 E0 P R ea w tmps Pr a o z Su := by
 simp only [qval] at hq
 split at hq
 ·rename_i A B hA hB
  obtain ⟨aG, haG, hav, haok, _⟩ := kO h ha hA
  obtain ⟨bG, hbG, hbv, hbok, _⟩ := kO h ha hB
  cases hz : sB (jR cx xt) (wU x || wU y) op A B with
  | none => simp [hz] at hq
  | some z' =>
   simp only [hz, Option.map_some, Option.some.injEq, Prod.mk.injEq] at hq
   obtain ⟨rfl, rfl⟩ := hq
   have fin : mG z' = true → (do eqGuard op xt x y (a.eval x) (a.eval y); binOp op xt (a.eval x) (a.eval y) : Sem Value).run Pr w = .ok (zZ (jP z')) w → l7 cx f w0 E0 P R ea w tmps Pr a o (.c (.t z')) (V.erS S) := by
    intro hs hr
    refine ⟨S, _, QRes.scal h hs, ?_⟩
    have : (execOp a.eval o).run Pr w = ((do eqGuard op xt x y (a.eval x) (a.eval y); binOp op xt (a.eval x) (a.eval y) : Sem Value) >>= fun v => pure (Next.value v)).run Pr w := by simp [execOp, ho]
    rw [this, Sem.run_bind, hr]
    simp [zS, zN]
   unfold sB at hz
   split at hz
   ·obtain ⟨u, rfl, hu⟩ := vZ haG
    obtain ⟨v, rfl, hv⟩ := vZ hbG
    have := sI hu; subst this
    have := sI hv; subst this
    simp only [zN, zZ] at hav hbv
    rw [hav, hbv] at fin
    split at hz
    ·exact fin (zGw hz) (zLa xt x y (.inl rfl) hz)
    ·exact fin (zGw hz) (zLa xt x y (.inr rfl) hz)
    ·split at hz
     ·rename_i hk
      subst hk
      exact fin (zM2 hz) (zRn xt x y hz)
     ·cases hz
   ·obtain ⟨u, rfl, hu⟩ := vZ haG
    obtain ⟨v, rfl, hv⟩ := vZ hbG
    have := zBw hu; subst this
    have := zBw hv; subst this
    simp only [zN, zZ] at hav hbv
    rw [hav, hbv] at fin
    exact fin (zNt hz) (zRo xt x y hz)
   ·obtain ⟨u, rfl, hu⟩ := vZ haG
    obtain ⟨v, rfl, hv⟩ := vZ hbG
    have := pU hu; subst this
    have := pU hv; subst this
    simp only [zN, zZ] at hav hbv
    rw [hav, hbv] at fin
    split at hz
    ·rename_i hk
     obtain ⟨d, hd, hkd⟩ := xW hty (t := xt) (by omega) hk
     have hdb : d = .bool := by cases d <;> simp [kK] at hkd <;> rfl
     subst hdb
     exact fin (vL hz) (uB xt x y (by cases op <;> rfl) (by simp [binOp]) (by simp [binOp]) (zDv xt _ _ hd) hz)
    ·cases hz
   ·have h1 := zAt haG; subst h1
    have h2 := zAt hbG; subst h2
    simp only [zN] at hav hbv
    rw [hav, hbv] at fin
    split at hz
    ·rename_i hk
     obtain ⟨d, hd, hkd⟩ := xW hty (t := xt) (by omega) hk
     obtain ⟨e, rfl⟩ : ∃ e, d = .pointer e := by cases d <;> simp [kK] at hkd <;> exact ⟨_, rfl⟩
     exact fin (vL hz) (uB xt x y (by cases op <;> rfl) (by simp [binOp]) (by simp [binOp]) (fN xt e _ _ hd (.inl rfl)) hz)
    ·cases hz
   ·have h1 := zAt haG; subst h1
    obtain ⟨v, rfl⟩ := nL hbG
    simp only [okC, vR] at hbok
    obtain ⟨ad, _, rfl⟩ := hbok
    simp only [zN] at hav hbv
    rw [hav, hbv] at fin
    split at hz
    ·rename_i hk
     obtain ⟨d, hd, hkd⟩ := xW hty (t := xt) (by omega) hk
     obtain ⟨e, rfl⟩ : ∃ e, d = .pointer e := by cases d <;> simp [kK] at hkd <;> exact ⟨_, rfl⟩
     exact fin (vL hz) (uB xt x y (by cases op <;> rfl) (by simp [binOp]) (by simp [binOp]) (fN xt e _ _ hd (.inl rfl)) hz)
    ·cases hz
   ·have h1 := zAt hbG; subst h1
    obtain ⟨v, rfl⟩ := nL haG
    simp only [okC, vR] at haok
    obtain ⟨ad, _, rfl⟩ := haok
    simp only [zN] at hav hbv
    rw [hav, hbv] at fin
    split at hz
    ·rename_i hk
     obtain ⟨d, hd, hkd⟩ := xW hty (t := xt) (by omega) hk
     obtain ⟨e, rfl⟩ : ∃ e, d = .pointer e := by cases d <;> simp [kK] at hkd <;> exact ⟨_, rfl⟩
     exact fin (vL hz) (uB xt x y (by cases op <;> rfl) (by simp [binOp]) (by simp [binOp]) (fN xt e _ _ hd (.inr rfl)) hz)
    ·cases hz
   ·obtain ⟨u, rfl, hu⟩ := vZ haG
    obtain ⟨v, rfl, hv⟩ := vZ hbG
    have := zAs hu; subst this
    have := zAs hv; subst this
    simp only [zN, zZ] at hav hbv
    rw [hav, hbv] at fin
    split at hz
    ·rename_i hk
     simp only [Bool.and_eq_true, decide_eq_true_eq, Bool.or_eq_true] at hk
     obtain ⟨hk, hc⟩ := hk
     obtain ⟨d, hd, hkd⟩ := xW hty (t := xt) (by omega) hk
     obtain ⟨e, rfl⟩ : ∃ e, d = .interface e := by cases d <;> simp [kK] at hkd <;> exact ⟨_, rfl⟩
     refine fin (vL hz) (uB xt x y ?_ (by simp [binOp]) (by simp [binOp]) (zDw xt e hd) hz)
     rcases hc with hc | hc
     ·cases x <;> simp [wU] at hc; exact eqGuard_nil_constL _ _ _ _
     ·cases y <;> simp [wU] at hc; exact eqGuard_nil_constR _ _ _ _
    ·cases hz
   ·obtain ⟨u, rfl, hu⟩ := vZ haG
    obtain ⟨v, rfl, hv⟩ := vZ hbG
    have := zAs hu; subst this
    obtain ⟨b, rfl⟩ := zS8 hv
    simp only [okC, okT] at hbok
    obtain ⟨t', v', rfl⟩ := hbok
    simp only [zN, zZ] at hav hbv
    rw [hav, hbv] at fin
    split at hz
    ·rename_i hk
     obtain ⟨d, hd, hkd⟩ := xW hty (t := xt) (by omega) hk
     obtain ⟨e, rfl⟩ : ∃ e, d = .interface e := by cases d <;> simp [kK] at hkd <;> exact ⟨_, rfl⟩
     exact fin (vL hz) (uB xt x y (by cases op <;> rfl) (by simp [binOp]) (by simp [binOp]) (o8 xt e t' v' hd) hz)
    ·cases hz
   ·obtain ⟨u, rfl, hu⟩ := vZ haG
    obtain ⟨v, rfl, hv⟩ := vZ hbG
    have := zAs hv; subst this
    obtain ⟨b, rfl⟩ := zS8 hu
    simp only [okC, okT] at haok
    obtain ⟨t', v', rfl⟩ := haok
    simp only [zN, zZ] at hav hbv
    rw [hav, hbv] at fin
    split at hz
    ·rename_i hk
     obtain ⟨d, hd, hkd⟩ := xW hty (t := xt) (by omega) hk
     obtain ⟨e, rfl⟩ : ∃ e, d = .interface e := by cases d <;> simp [kK] at hkd <;> exact ⟨_, rfl⟩
     exact fin (vL hz) (uB xt x y (by cases op <;> rfl) (by simp [binOp]) (by simp [binOp]) (o9 xt e t' v' hd) hz)
    ·cases hz
   ·cases hz
 ·cases hq
end
end Go.Proofs.Ytlkjnlfddadlmaa.V
namespace Go.Proofs.Ytlkjnlfddadlmaa.V
open Go.RowKit
section
variable {cx : Ctx} {f : Nat} {w0 : World} {E0 : Nat → Prop} {P : Nat → Nat → Prop} {R : Nat → Prop} {ea : List EA} {w w' : World} {S : SV} {tmps : Array Value} {Pr : Program} {a : Act} {call : zW}
theorem zX6 (h : Rel (zB cx f) w0 E0 P R ea w S tmps) (ha : a.tmps = tmps) {o : Oper} {op : UnOp} {xt : Nat} {x : Operand} (ho : o.op = .unOp op xt x) {z : XU} {Su : SU}
  (hq : qval cx f call (V.erS S) o.type (.unOp op xt x) = some (z, Su)) : l7 cx f w0 E0 P R ea w tmps Pr a o z Su := by
 simp only [qval] at hq
 split at hq
 ·rename_i A hA
  obtain ⟨aG, haG, hav, haok, _⟩ := kO h ha hA
  cases hz : unV op A with
  | none => simp [hz] at hq
  | some z' =>
   simp only [hz, Option.map_some, Option.some.injEq, Prod.mk.injEq] at hq
   obtain ⟨rfl, rfl⟩ := hq
   unfold unV at hz
   split at hz
   ·obtain ⟨u, rfl, hu⟩ := vZ haG
    have := pU hu; subst this
    simp only [zN, zZ] at hav
    split at hz
    ·rename_i hop; subst hop
     simp only [Option.some.injEq] at hz; subst hz
     exact ⟨S, _, QRes.scal h rfl, by simp [execOp, ho, hav, Op.unary, zS, zN, jP, zZ]⟩
    ·cases hz
   ·obtain ⟨u, rfl, hu⟩ := vZ haG
    have := sI hu; subst this
    simp only [zN, zZ] at hav
    split at hz
    ·simp only [Option.some.injEq] at hz; subst hz
     exact ⟨S, _, QRes.scal h rfl, by simp [execOp, ho, hav, Op.unary, Op.intArith, zS, zN, jP, zZ]⟩
    ·cases hz
   ·cases hz
 ·cases hq
theorem QRes.ref (h : Rel (zB cx f) w0 E0 P R ea w S tmps) {c : CV} (hok : okC w P R S ea c) (hb : zQ c = []) (hr : ∀ d', Root.sl d' ∈ zF c → zB cx f d' = true) :
  QRes cx f w0 E0 P R ea w tmps (.c (erC c)) (V.erS S) w S (.c c) :=
 ⟨Grow.refl w, by simp [erX, zV, erC], rfl, h,
  ⟨by simpa [okX] using hok, fun d' hd' => hr d' (by simpa [zD] using hd'), by simp [zE, hb], fun r b hb' => by simp [zE, hb] at hb', fun b hb' => by simp [zE, hb] at hb', fun b hb' => by simp [zE, hb] at hb', fun b hb' => by simp [zE, hb] at hb'⟩⟩
theorem aW (h : Rel (zB cx f) w0 E0 P R ea w S tmps) (ha : a.tmps = tmps) {o : Oper} {x : Operand} (ho : o.op = .nilCheck x) {z : XU} {Su : SU}
  (hq : qval cx f call (V.erS S) o.type (.nilCheck x) = some (z, Su)) : zL8 cx f w0 E0 P R ea w tmps Pr a o z Su := by
 simp only [qval] at hq
 split at hq
 ·next v r p off hx =>
  simp only [Option.some.injEq, Prod.mk.injEq] at hq
  obtain ⟨rfl, rfl⟩ := hq
  obtain ⟨cG, h1, h2, h3, h4⟩ := kO h ha hx
  obtain ⟨v', rfl⟩ := nL h1
  have hv : ∃ ad, a.eval x = .pointer (some ad) := by
   simp only [okC] at h3
   obtain ⟨ad, _, rfl⟩ := h3
   exact ⟨_, by rw [h2]; rfl⟩
  obtain ⟨ad, hv⟩ := hv
  refine ⟨S, .c (.ptr v' r p off), .ref h h3 (by simp [zQ]) h4, ?_⟩
  rw [show zS (.c (.ptr v' r p off)) = a.eval x from h2.symm]
  intro w'; simp [execOp, ho, hv]
 ·next v cs hx =>
  simp only [Option.some.injEq, Prod.mk.injEq] at hq
  obtain ⟨rfl, rfl⟩ := hq
  obtain ⟨cG, h1, h2, h3, h4⟩ := kO h ha hx
  obtain ⟨v', ds, rfl, rfl⟩ := zO0 h1
  have hv : ∃ ad, a.eval x = .pointer (some ad) := by
   simp only [okC] at h3
   obtain ⟨_, _, ad, rfl, _⟩ := h3
   exact ⟨_, by rw [h2]; rfl⟩
  obtain ⟨ad, hv⟩ := hv
  refine ⟨S, .c (.rptr v' ds), ?_, ?_⟩
  ·have := QRes.ref h h3 (by simp [zQ]) h4
   simpa only [erC, zJ, yQ] using this
  ·rw [show zS (.c (.rptr v' ds)) = a.eval x from h2.symm]
   intro w'; simp [execOp, ho, hv]
 ·cases hq
theorem eG (h : Rel (zB cx f) w0 E0 P R ea w S tmps) (ha : a.tmps = tmps) {o : Oper} {x : Operand} (ho : o.op = .nilCheck x) {z : XU} {Su : SU}
  (hq : qval cx f call (V.erS S) o.type (.nilCheck x) = some (z, Su)) : l7 cx f w0 E0 P R ea w tmps Pr a o z Su := (aW h ha ho hq).ww
theorem bX {n : Nat} {cs : List TV} (h : xS w P R cs) : xS w P R (cs.drop n) := yJ.2 fun x hx => yJ.1 h x (List.mem_of_mem_drop hx)
theorem lL {n : Nat} {cs : List TV} (h : xS w P R cs) : xS w P R (cs.take n) := yJ.2 fun x hx => yJ.1 h x (List.mem_of_mem_take hx)
theorem iD {g n : Nat} {cs : List TV} (h : jN g cs) : jN g (cs.drop n) := xQ.2 fun x hx => xQ.1 h x (List.mem_of_mem_drop hx)
theorem zGx {g n : Nat} {cs : List TV} (h : jN g cs) : jN g (cs.take n) := xQ.2 fun x hx => xQ.1 h x (List.mem_of_mem_take hx)
theorem zZk {g g' : Nat} (hg : g' ≤ g) : ∀ {x : TV}, shT g x → shT g' x := by
 have key : (∀ x : TV, shT g x → shT g' x) ∧ True := by
  refine ⟨?_, trivial⟩
  intro x
  exact T.rec (motive_1 := fun x => shT g x → shT g' x) (motive_2 := fun xs => jN g xs → jN g' xs)
   (fun _ _ _ => by simp [shT]) (fun _ _ => by simp [shT]) (fun _ _ => by simp [shT])
   (fun a tag sz n cs ih h => by simp only [shT] at h ⊢; exact ⟨h.1, Nat.le_trans hg h.2.1, ih h.2.2⟩)
   (fun _ _ => by simp [shT]) (fun _ => by simp [shT]) (fun _ _ => by simp [shT])
   (fun _ => by simp [jN]) (fun x xs ihx ihxs h => by simp only [jN] at h ⊢; exact ⟨ihx h.1, ihxs h.2⟩) x
 exact fun {x} => key.1 x
theorem zQa {g g' : Nat} (hg : g' ≤ g) {xs : List TV} (h : jN g xs) : jN g' xs := xQ.2 fun x hx => zZk hg (xQ.1 h x hx)
theorem mE {b o : Nat} {vs : List Value} (h : v8 w b o vs) (n : Nat) : v8 w b (o + n) (vs.drop n) := by
 intro j v hj
 rw [List.getElem?_drop] at hj
 have := h (n + j) v hj
 rwa [show o + (n + j) = o + n + j by omega] at this
theorem tY {b o : Nat} {vs : List Value} (h : v8 w b o vs) (n : Nat) : v8 w b o (vs.take n) := by
 intro j v hj
 rw [List.getElem?_take] at hj
 split at hj
 ·exact h j v hj
 ·cases hj
theorem f0 {x : TV} {g : Nat} (h : shT g x) : zY x = [] := by
 cases x with
 | sl a tag sz n cs => simp only [shT] at h; simp [zY, show tag ≠ 0 by omega]
 | _ => simp [zY]
theorem bA {ad : Addr} (h : ad.spot = none) (n : Nat) : ad.add n = ⟨ad.block, ad.off + n, none⟩ := by
 obtain ⟨b, o, s⟩ := ad
 simp only at h
 subst h
 exact Addr.add_lit b o n
theorem zVx {c : CV} {n : Nat} {z : CU} (hok : okC w P R S ea c) (hz : rL (erC c) n = some z) :
  ∃ c' ad, erC c' = z ∧ zN c = .pointer (some ad) ∧ zN c' = .pointer (some (ad.add n)) ∧ okC w P R S ea c' ∧ zQ c' = [] ∧ zF c' = zF c := by
 cases c with
 | ptr v r p off =>
  simp only [erC, zJ, rL, Option.some.injEq] at hz
  subst hz
  simp only [okC, vR] at hok
  obtain ⟨ad, h1, rfl⟩ := hok
  refine ⟨.ptr (.pointer (some ⟨ad.block, ad.off + (off + n), none⟩)) r p (off + n), ⟨ad.block, ad.off + off, none⟩, by simp [erC, zJ, er0], by simp [zN], ?_, ?_, by simp [zQ], by simp [zF]⟩
  ·simp [zN, Addr.add_lit, Nat.add_assoc]
  ·simp only [okC, vR]; exact ⟨ad, h1, rfl⟩
 | rptr v cs =>
  simp only [erC, zJ, yQ, rL, List.length_map] at hz
  split at hz
  ·rename_i hn
   simp only [Option.some.injEq] at hz
   subst hz
   simp only [okC] at hok
   obtain ⟨h1, h2, ad, rfl, h4, h5⟩ := hok
   refine ⟨.rptr (.pointer (some (ad.add n))) (cs.drop n), ad, by simp [erC, zJ, yQ, er0, List.map_drop], by simp [zN], by simp [zN], ?_, by simp [zQ], by simp [zF]⟩
   simp only [okC]
   refine ⟨bX h1, iD h2, ad.add n, rfl, by rw [bA h4], ?_⟩
   rcases h5 with rfl | ⟨h5, h6⟩
   ·exact .inl (by simp)
   ·refine .inr ?_
    rw [bA h4]
    exact ⟨h5, by rw [List.map_drop]; exact mE h6 n⟩
  ·cases hz
 | _ => simp [erC, zJ, rL] at hz
theorem rM (hty : jQ Pr cx.ty) (h : Rel (zB cx f) w0 E0 P R ea w S tmps) (ha : a.tmps = tmps) {o : Oper} {e i : Nat} {x : Operand} (ho : o.op = .fieldAddr e x i) {z : XU} {Su : SU}
  (hq : qval cx f call (V.erS S) o.type (.fieldAddr e x i) = some (z, Su)) : zL8 cx f w0 E0 P R ea w tmps Pr a o z Su := by
 simp only [qval] at hq
 split at hq
 ·rename_i off ft y hfs hy
  split at hq
  ·rename_i hok
   obtain ⟨aG, haG, hav, haok, har⟩ := kO h ha hy
   subst haG
   cases hz : rL (erC aG) off with
   | none => simp [hz] at hq
   | some z' =>
    simp only [hz, Option.map_some, Option.some.injEq, Prod.mk.injEq] at hq
    obtain ⟨rfl, rfl⟩ := hq
    obtain ⟨c', ad, h1, h2, h3, h4, h5, h6⟩ := zVx haok hz
    obtain ⟨ti, d, zz, hf⟩ := hty.facts hok.1
    obtain ⟨fs, fd, rfl, hfd, hfo, hft⟩ := hf.field hfs
    obtain ⟨ti2, d2, zz2, hf2⟩ := hty.facts hok.2.1
    subst h1
    refine ⟨S, _, QRes.ref h h4 h5 (fun d' hd' => har d' (h6 ▸ hd')), ?_⟩
    have hsz : ∀ w', (sizeOf fd.type).run Pr w' = .ok (cx.ty ft).sz w' := by intro w'; rw [hft]; simp [sizeOf, typeInfo, hf2.info, hf2.size]
    have hne : (cx.ty ft).sz ≠ 0 := by omega
    intro w'
    simp [execOp, ho, hav, h2, Instr.fieldAt, run_underlying hf.und, hfd, Instr.sureAddr, fieldPlace, hsz, hne, hfo, zS, h3]
  ·cases hq
 ·cases hq
theorem aC (hty : jQ Pr cx.ty) (h : Rel (zB cx f) w0 E0 P R ea w S tmps) (ha : a.tmps = tmps) {o : Oper} {e i : Nat} {x : Operand} (ho : o.op = .fieldAddr e x i) {z : XU} {Su : SU}
  (hq : qval cx f call (V.erS S) o.type (.fieldAddr e x i) = some (z, Su)) : l7 cx f w0 E0 P R ea w tmps Pr a o z Su := (rM hty h ha ho hq).ww
theorem zJs (hty : jQ Pr cx.ty) (h : Rel (zB cx f) w0 E0 P R ea w S tmps) (ha : a.tmps = tmps) {o : Oper} {e : Nat} {x i : Operand} (ho : o.op = .index e x i) {z : XU} {Su : SU}
  (hq : qval cx f call (V.erS S) o.type (.index e x i) = some (z, Su)) : l7 cx f w0 E0 P R ea w tmps Pr a o z Su := by
 simp only [qval] at hq
 split at hq
 ·rename_i s k hs hk
  split at hq
  ·rename_i hlt
   obtain ⟨hk3, hlt⟩ := hlt
   have hu : Pr.underlying e = some .string := by
    obtain ⟨d, hd, hkd⟩ := xW hty (t := e) (by omega) hk3
    rw [hd]
    cases d <;> simp [kK] at hkd <;> rfl
   simp only [Option.some.injEq, Prod.mk.injEq] at hq
   obtain ⟨rfl, rfl⟩ := hq
   obtain ⟨aG, haG, hav, _, _⟩ := kO h ha hs
   obtain ⟨u, rfl, hu'⟩ := vZ haG
   have := zBw hu'; subst this
   simp only [zN, zZ] at hav
   obtain ⟨kk, hkv⟩ := rB h ha hk
   refine ⟨S, _, QRes.scal h rfl, ?_⟩
   have h1 : k.toNat < s.length := by omega
   have h2 : (⟨s.toArray⟩ : ByteArray)[k.toNat]? = some s[k.toNat] := by
    have : k.toNat < (⟨s.toArray⟩ : ByteArray).size := by simpa [ByteArray.size] using h1
    rw [getElem?_pos (⟨s.toArray⟩ : ByteArray) k.toNat this]
    rfl
   simp [execOp, ho, hav, hkv, Instr.index, asIntOf, run_underlying hu, hlt.1, h2, zS, zN, zE0, jP, zZ, List.getD, h1]
  ·cases hq
 ·cases hq
end
end Go.Proofs.Ytlkjnlfddadlmaa.V
namespace Go.Proofs.Ytlkjnlfddadlmaa.V
open Go.RowKit
section
variable {cx : Ctx} {f : Nat} {w0 : World} {E0 : Nat → Prop} {P : Nat → Nat → Prop} {R : Nat → Prop} {ea : List EA} {w w' : World} {S : SV} {tmps : Array Value} {Pr : Program} {a : Act} {call : zW}
theorem rQ (hty : jQ Pr cx.ty) (h : Rel (zB cx f) w0 E0 P R ea w S tmps) (ha : a.tmps = tmps) {o : Oper} {e : Nat} {x i : Operand} (ho : o.op = .indexAddr e x i) {z : XU} {Su : SU}
  (hq : qval cx f call (V.erS S) o.type (.indexAddr e x i) = some (z, Su)) : zL8 cx f w0 E0 P R ea w tmps Pr a o z Su := by
 simp only [qval] at hq
 split at hq
 ·-- a list that is referred to
  rename_i el _ r p j off sz n k hel hx hk
  split at hq
  ·rename_i hc
   obtain ⟨hse, h0, hlt, hsz, hok⟩ := hc
   obtain ⟨ti, d, zz, hf⟩ := hty.facts hse
   have hd := hf.slice hel
   subst hd
   simp only [Option.some.injEq, Prod.mk.injEq] at hq
   obtain ⟨rfl, rfl⟩ := hq
   obtain ⟨aG, haG, hav, haok, har⟩ := kO h ha hx
   obtain ⟨v, rfl⟩ := zMr haG
   obtain ⟨kk, hkv⟩ := rB h ha hk
   obtain ⟨ti2, d2, zz2, hf2⟩ := hty.facts hok
   simp only [okC, wQ] at haok
   obtain ⟨b, m, ds, hat, hl, hh⟩ := haok
   rcases hh with ⟨_, _, hn⟩ | ⟨ad, cap, rfl, hw⟩
   ·omega
   ·obtain ⟨ad2, cap2, rfl, hc2, hs2, hb2, hor⟩ := hw
    have hcap : cap2 ≠ 0 := by omega
    obtain ⟨ho2, _⟩ := hor.resolve_left hcap
    refine ⟨S, .c (.ptr (.pointer (some ⟨ad.block, ad.off + (off + k.toNat * sz), none⟩)) r (p ++ [j]) (off + k.toNat * sz)), ?_, ?_⟩
    ·refine QRes.ref (c := .ptr (.pointer (some ⟨ad.block, ad.off + (off + k.toNat * sz), none⟩)) r (p ++ [j]) (off + k.toNat * sz)) h ?_ (by simp [zQ]) (fun d' hd' => har d' (by simpa [zF] using hd'))
     simp only [okC, vR]
     refine ⟨ad, ?_, rfl⟩
     simp [yW, wO, hat]
    ·have hszr : ∀ w', (sizeOf el).run Pr w' = .ok sz w' := by intro w'; rw [hsz]; simp [sizeOf, typeInfo, hf2.info, hf2.size]
     have hadd : ad2.add (k.toNat * sz) = ⟨ad.block, ad.off + (off + k.toNat * sz), none⟩ := by
      rw [bA hs2, hb2, ho2, Nat.add_assoc]
     simp only [zN] at hav
     intro w'
     simp [execOp, ho, hav, hkv, Instr.indexAt, asIntOf, run_underlying hf.und, h0, hlt, hszr, hadd, zS, zN]
  ·cases hq
 ·rename_i el _ tag sz n cs k hel hx hk
  split at hq
  ·rename_i hc
   obtain ⟨hse, h0, hlt, hsz, hok⟩ := hc
   obtain ⟨ti, d, zz, hf⟩ := hty.facts hse
   have hd := hf.slice hel
   subst hd
   simp only [Option.some.injEq, Prod.mk.injEq] at hq
   obtain ⟨rfl, rfl⟩ := hq
   obtain ⟨aG, haG, hav, haok, har⟩ := kO h ha hx
   obtain ⟨u, rfl, hu⟩ := vZ haG
   obtain ⟨v, ds, rfl, rfl⟩ := zJc hu
   obtain ⟨kk, hkv⟩ := rB h ha hk
   obtain ⟨ti2, d2, zz2, hf2⟩ := hty.facts hok
   simp only [okC, okT, Nat.add_eq_zero_iff, Nat.succ_ne_self, and_false, if_false] at haok
   obtain ⟨hl, hts, ⟨A, cap, rfl, hc2, hor⟩, htag, hsh⟩ := haok
   obtain ⟨ad, rfl, hs2, hR, hcells⟩ := hor.resolve_left (by omega)
   have hRR : R ad.block := by
    exact h.PR _ _ hR
   refine ⟨S, .c (.rptr (.pointer (some (ad.add (k.toNat * sz)))) (ds.drop (k.toNat * sz))), ?_, ?_⟩
   ·have := QRes.ref (c := .rptr (.pointer (some (ad.add (k.toNat * sz)))) (ds.drop (k.toNat * sz))) h ?_ (by simp [zQ]) (by simp [zF])
    ·simpa [erC, zJ, yQ, er0, List.map_drop] using this
    ·simp only [okC]
     refine ⟨bX hts, iD (zQa htag hsh), _, rfl, by rw [bA hs2], .inr ?_⟩
     rw [bA hs2]
     exact ⟨hRR, by rw [List.map_drop]; exact mE hcells _⟩
   ·have hszr : ∀ w', (sizeOf el).run Pr w' = .ok sz w' := by intro w'; rw [hsz]; simp [sizeOf, typeInfo, hf2.info, hf2.size]
    simp only [zN, zZ] at hav
    intro w'
    simp [execOp, ho, hav, hkv, Instr.indexAt, asIntOf, run_underlying hf.und, h0, hlt, hszr, zS, zN]
  ·cases hq
 ·cases hq
theorem aM (hty : jQ Pr cx.ty) (h : Rel (zB cx f) w0 E0 P R ea w S tmps) (ha : a.tmps = tmps) {o : Oper} {e : Nat} {x i : Operand} (ho : o.op = .indexAddr e x i) {z : XU} {Su : SU}
  (hq : qval cx f call (V.erS S) o.type (.indexAddr e x i) = some (z, Su)) : l7 cx f w0 E0 P R ea w tmps Pr a o z Su := (rQ hty h ha ho hq).ww
theorem gX : ∀ {xs : List XV} {c : CV}, c ∈ zU xs → ∀ r ∈ zF c, r ∈ yR xs
 | [], c, hc, r, hr => by simp [zU] at hc
 | x :: xs, c, hc, r, hr => by
  simp only [yR, List.mem_append]
  cases x with
  | c x =>
   simp only [zU, List.mem_cons] at hc
   rcases hc with rfl | hc
   ·exact .inl (by simpa [zD] using hr)
   ·exact .inr (gX hc r hr)
  | agg cs =>
   simp only [zU, List.mem_append] at hc
   rcases hc with hc | hc
   ·refine .inl ?_
    simp only [zD, yI, List.mem_flatMap]
    exact ⟨c, hc, hr⟩
   ·exact .inr (gX hc r hr)
  | _ => exact .inr (gX (by simpa [zU] using hc) r hr)
theorem Rel.root_refs (h : Rel (zB cx f) w0 E0 P R ea w S tmps) {r : Root} {cs : List CV} (hr : zA S r = some cs) {c : CV} (hc : c ∈ cs) : ∀ d', Root.sl d' ∈ zF c → zB cx f d' = true := by
 intro d' hd'
 have hmem : ∀ cs : List CV, c ∈ cs → Root.sl d' ∈ zL cs := fun cs hc => by
  rw [yI, List.mem_flatMap]; exact ⟨c, hc, hd'⟩
 cases r with
 | sl d =>
  simp only [zA] at hr
  refine h.refS d d' ?_
  cases hs : S.s d with
  | undef => simp [hs] at hr
  | c x =>
   simp only [hs, Option.some.injEq] at hr; subst hr
   simp only [List.mem_singleton] at hc; subst hc
   simpa [zD] using hd'
  | agg xs => simp only [hs, Option.some.injEq] at hr; subst hr; simpa [zD] using hmem _ hc
  | box b xs => simp only [hs, Option.some.injEq] at hr; subst hr; simpa [zD] using hmem _ hc
  | tup xs => simp only [hs, Option.some.injEq] at hr; subst hr; simpa [zD] using gX hc _ hd'
 | ex j => exact h.refE j cs d' hr (hmem _ hc)
theorem Rel.at_refs (h : Rel (zB cx f) w0 E0 P R ea w S tmps) {r : Root} {p : List Nat} {i : Nat} {c : CV} (hat : at_ S r p i = some c) : ∀ d', Root.sl d' ∈ zF c → zB cx f d' = true := by
 by_cases he : p = []
 ·subst he
  simp only [at_] at hat
  cases hr : zA S r with
  | none => simp [hr] at hat
  | some cs =>
   simp only [hr, Option.bind_some, xA] at hat
   exact h.root_refs hr (List.mem_of_getElem? hat)
 ·rw [kH he, zAn] at hat
  split at hat
  ·rename_i ds _
   cases hj : ds[i]? with
   | none => simp [hj] at hat
   | some x =>
    simp only [hj, Option.map_some, Option.some.injEq] at hat
    subst hat
    intro d' hd'
    simp [zF] at hd'
  ·cases hat
theorem zCy (h : Rel (zB cx f) w0 E0 P R ea w S tmps) {r : Root} {p : List Nat} (hv : ∀ d', r = .sl d' → zB cx f d' = true) : ∀ {n off : Nat} {cs : List CV}, j8 S r p off n = some cs →
  cs.length = n ∧ yF w P R S ea cs ∧ zH cs = [] ∧ (∀ d', Root.sl d' ∈ zL cs → zB cx f d' = true) ∧
  ∀ ad, yW S ea r p = some ad → ∀ j c, cs[j]? = some c → w.cell? ⟨ad.block, ad.off + off + j, none⟩ = some (zN c)
 | 0, off, cs, hl => by
  simp only [j8, Option.some.injEq] at hl
  subst hl
  simp [yF, zH, zL]
 | n + 1, off, cs, hl => by
  simp only [j8] at hl
  cases hat : at_ S r p off with
  | none => simp [hat] at hl
  | some c =>
   simp only [hat, Option.bind_some] at hl
   cases hn : j8 S r p (off + 1) n with
   | none => simp [hn] at hl
   | some ds =>
    simp only [hn, Option.map_some, Option.some.injEq] at hl
    subst hl
    obtain ⟨i1, i2, i3, i4, i5⟩ := zCy h hv hn
    obtain ⟨k1, k2, k3, k4⟩ := zHx hat (h.at_ok hat)
    refine ⟨by simp [i1], ⟨k1, i2⟩, by simp [zH, k3, i3], ?_, ?_⟩
    ·intro d' hd'
     simp only [zL, List.mem_append] at hd'
     rcases hd' with hd' | hd'
     ·rcases k4 _ hd' with e | e
      ·exact hv d' e.symm
      ·exact h.at_refs hat d' e
     ·exact i4 d' hd'
    ·intro ad had j c' hj
     cases j with
     | zero =>
      simp only [List.getElem?_cons_zero, Option.some.injEq] at hj
      subst hj
      rw [k2, Nat.add_zero]
      exact (h.cell_at had hat).1
     | succ j =>
      simp only [List.getElem?_cons_succ] at hj
      have := i5 ad had j c' hj
      rwa [show ad.off + (off + 1) + j = ad.off + off + (j + 1) by omega] at this
theorem iA (t : TypeId) (d : TypeDesc) (hd : Pr.underlying t = some d) : (isAgg t).run Pr w = .ok (zHi d) w := by
 cases d <;> simp [isAgg, run_underlying hd, zHi]
theorem zHp {t : Nat} {cs : List CV} {x : XU} (hx : mkX cx t (cs.map erC) = some x) :
  ∃ xG, erX xG = x ∧ (((cx.ty t).agg = true ∧ cs.length = (cx.ty t).sz ∧ xG = .agg cs) ∨ ((cx.ty t).agg = false ∧ ∃ c, cs = [c] ∧ xG = .c c)) := by
 simp only [mkX, List.length_map] at hx
 split at hx
 ·rename_i hagg
  split at hx
  ·rename_i hl
   simp only [Option.some.injEq] at hx
   subst hx
   exact ⟨.agg cs, by simp [erX, zV, zR], .inl ⟨hagg, hl, rfl⟩⟩
  ·cases hx
 ·rename_i hagg
  cases cs with
  | nil => simp at hx
  | cons c cs =>
   cases cs with
   | nil =>
    simp only [List.map_cons, List.map_nil, Option.some.injEq] at hx
    subst hx
    exact ⟨.c c, by simp [erX, zV, erC], .inr ⟨by simpa using hagg, c, rfl, rfl⟩⟩
   | cons c' cs => simp at hx
theorem dO (hty : jQ Pr cx.ty) {e : Nat} (he : (cx.ty e).ok = true) {b o : Nat} {cs : List CV} {xG : XV} (hl : cs.length = (cx.ty e).sz)
  (hc : ∀ j c, cs[j]? = some c → w.cell? ⟨b, o + j, none⟩ = some (zN c))
  (hx : ((cx.ty e).agg = true ∧ cs.length = (cx.ty e).sz ∧ xG = .agg cs) ∨ ((cx.ty e).agg = false ∧ ∃ c, cs = [c] ∧ xG = .c c)) :
  (Instr.loadAt e (.pointer (some ⟨b, o, none⟩))).run Pr w = .ok (zS xG) w := by
 obtain ⟨ti, d, zz, hf⟩ := hty.facts he
 have hsz : (sizeOf e).run Pr w = .ok (cs.map zN).length w := by simp [sizeOf, typeInfo, hf.info, hf.size, hl]
 have hlc : (loadCells ⟨b, o, none⟩ (cs.map zN).length).run Pr w = .ok (cs.map zN).toArray w := by
  refine run_loadCells_list w _ _ ?_
  intro j v hj
  rw [List.getElem?_map] at hj
  cases hcj : cs[j]? with
  | none => simp [hcj] at hj
  | some c =>
   simp only [hcj, Option.map_some, Option.some.injEq] at hj
   subst hj
   rw [Addr.add_lit]
   exact hc j c hcj
 rcases hx with ⟨hagg, _, rfl⟩ | ⟨hagg, c, rfl, rfl⟩
 ·have h1 := iA (w := w) e d hf.und
  rw [hf.agg, hagg] at h1
  simp [Instr.loadAt, Instr.sureAddr, loadVar, h1, hsz, hlc, zS, z8]
  simp only [List.length_map] at hlc
  simp [hlc]
 ·have h1 := iA (w := w) e d hf.und
  rw [hf.agg, hagg] at h1
  have := hc 0 c rfl
  simp only [Nat.add_zero] at this
  simp [Instr.loadAt, Instr.sureAddr, loadVar, h1, this, zS]
theorem zPj (hty : jQ Pr cx.ty) (h : Rel (zB cx f) w0 E0 P R ea w S tmps) (ha : a.tmps = tmps) {o : Oper} {e : Nat} {x : Operand} (ho : o.op = .load e x) {z : XU} {Su : SU}
  (hq : qval cx f call (V.erS S) o.type (.load e x) = some (z, Su)) : l7 cx f w0 E0 P R ea w tmps Pr a o z Su := by
 simp only [qval] at hq
 split at hq
 ·rename_i _ r p off hx
  split at hq
  ·rename_i hok
   obtain ⟨aG, haG, hav, haok, har⟩ := kO h ha hx
   obtain ⟨v, rfl⟩ := nL haG
   simp only [okC, vR] at haok
   obtain ⟨ad, had, rfl⟩ := haok
   rw [show V.erS S = jW er0 S from rfl, oR] at hq
   cases hl : j8 S r p off (cx.ty e).sz with
   | none => simp [hl] at hq
   | some cs =>
    simp only [hl, Option.map_some, Option.bind_some] at hq
    cases hm : mkX cx e (cs.map erC) with
    | none => simp [hm] at hq
    | some x' =>
     simp only [hm, Option.map_some, Option.some.injEq, Prod.mk.injEq] at hq
     obtain ⟨rfl, rfl⟩ := hq
     obtain ⟨l1, l2, l3, l4, l5⟩ := zCy h (fun d' e' => har d' (by simp [zF, e'])) hl
     obtain ⟨xG, hx1, hx2⟩ := zHp hm
     have hxp : okX w P R S ea xG ∧ zE xG = [] ∧ zD xG = zL cs := by
      rcases hx2 with ⟨_, _, rfl⟩ | ⟨_, c, rfl, rfl⟩
      ·exact ⟨by simpa [okX] using l2, by simpa [zE] using l3, by simp [zD]⟩
      ·exact ⟨by simpa [okX] using l2.1, by simpa [zE, zH] using l3, by simp [zD, zL]⟩
     obtain ⟨p1, p2, p3⟩ := hxp
     refine ⟨S, xG, ⟨Grow.refl w, hx1, rfl, h, p1, fun d' hd' => l4 d' (p3 ▸ hd'), by rw [p2]; exact List.nodup_nil, fun r b hb => by rw [p2] at hb; simp at hb, fun b hb => by rw [p2] at hb; simp at hb, fun b hb => by rw [p2] at hb; simp at hb, fun b hb => by rw [p2] at hb; simp at hb⟩, ?_⟩
     simp only [zN] at hav
     have hr := dO (Pr := Pr) (w := w) hty hok l1 (fun j c hj => l5 ad had j c hj) hx2
     simp [execOp, ho, hav, hr]
  ·cases hq
 ·rename_i _ cs hx
  split at hq
  ·rename_i hok
   obtain ⟨hok, hn⟩ := hok
   obtain ⟨aG, haG, hav, haok, har⟩ := kO h ha hx
   obtain ⟨v, ds, rfl, rfl⟩ := zO0 haG
   simp only [okC] at haok
   obtain ⟨h1, h2, ad, rfl, h4, h5⟩ := haok
   have hmm : ((ds.map erT).take (cx.ty e).sz).map C.t = (((ds.take (cx.ty e).sz).map C.t).map erC : List CU) := by
    rw [← List.map_take, List.map_map, List.map_map]; rfl
   rw [hmm] at hq
   cases hm : mkX cx e (((ds.take (cx.ty e).sz).map C.t).map erC) with
   | none => rw [hm] at hq; simp at hq
   | some x' =>
    rw [hm] at hq
    simp only [Option.map_some, Option.some.injEq, Prod.mk.injEq] at hq
    obtain ⟨rfl, rfl⟩ := hq
    simp only [List.length_map] at hn
    have l2 : yF w P R S ea ((ds.take (cx.ty e).sz).map C.t) := z0.2 fun c hc => by
     obtain ⟨y, hy, rfl⟩ := List.mem_map.1 hc
     simp only [okC]
     exact yJ.1 (lL h1) y hy
    have l3 : zH ((ds.take (cx.ty e).sz).map C.t) = [] := by
     rw [yX, List.flatMap_eq_nil_iff]
     intro c hc
     obtain ⟨y, hy, rfl⟩ := List.mem_map.1 hc
     simp only [zQ]
     exact f0 (xQ.1 (zGx h2) y hy)
    have l4 : zL ((ds.take (cx.ty e).sz).map C.t) = [] := by
     rw [yI, List.flatMap_eq_nil_iff]
     intro c hc
     obtain ⟨y, hy, rfl⟩ := List.mem_map.1 hc
     simp [zF]
    obtain ⟨xG, hx1, hx2⟩ := zHp hm
    have hxp : okX w P R S ea xG ∧ zE xG = [] ∧ zD xG = [] := by
     rcases hx2 with ⟨_, _, rfl⟩ | ⟨_, c, he, rfl⟩
     ·exact ⟨by simpa [okX] using l2, by simpa [zE] using l3, by simpa [zD] using l4⟩
     ·rw [he] at l2 l3 l4
      exact ⟨by simpa [okX] using l2.1, by simpa [zE, zH] using l3, by simpa [zD, zL] using l4⟩
    refine ⟨S, xG, ⟨Grow.refl w, hx1, rfl, h, New.plain hxp.1 hxp.2.1 hxp.2.2⟩, ?_⟩
    simp only [zN] at hav
    have hadl : ad = ⟨ad.block, ad.off, none⟩ := by obtain ⟨b, o', s⟩ := ad; simp only at h4; subst h4; rfl
    have hcells : ∀ j c, ((ds.take (cx.ty e).sz).map C.t)[j]? = some c → w.cell? ⟨ad.block, ad.off + j, none⟩ = some (zN c) := by
     intro j c hj
     rcases h5 with rfl | ⟨_, h6⟩
     ·simp at hj
     ·refine tY h6 (cx.ty e).sz j (zN c) ?_
      rw [List.getElem?_map] at hj
      rw [← List.map_take, List.getElem?_map]
      cases hd : (ds.take (cx.ty e).sz)[j]? with
      | none => simp [hd] at hj
      | some y => simp only [hd, Option.map_some, Option.some.injEq] at hj ⊢; subst hj; rfl
    have hr := dO (Pr := Pr) (w := w) hty hok (by simp [List.length_take, Nat.min_eq_left hn]) hcells hx2
    rw [← hadl] at hr
    simp [execOp, ho, hav, hr]
  ·cases hq
 ·cases hq
end
end Go.Proofs.Ytlkjnlfddadlmaa.V
